/-  Rules for what the model's own text runs: append, copy, make, conversions, bodyless functions.  -/
import Derived.Test.YtbleadagnpckbaaGreatDoorSl
import Derived.Laws.BytesArg
import Derived.Laws.CopyRow
import Derived.Laws.MakeOwn
import Derived.Laws.OwnMore
import Derived.Laws.LoneSync
import Derived.Lib.Bytealg
namespace Go.Proofs.YtbleadagnpckbaaGreatDoor.X
open Go Go.RowKit
set_option linter.unusedSimpArgs false
set_option linter.unusedVariables false

section
variable {P : Program} {w w' : World}

/-- a slice type t, its element's type e: size in cells, in bytes, zero value -/
structure EI (P : Program) (t e : TypeId) (sz bytes : Nat) (z : Value) : Prop where
  u : P.underlying t = some (.slice e)
  i : (P.info? e).map (fun i => (i.zero, i.size, i.bytes)) = some (some z, sz, bytes)
  zs : z.cells.size = sz
  pos : 0 < sz

theorem EI.parts {t e : TypeId} {sz bytes : Nat} {z : Value} (h : EI P t e sz bytes z) : ∃ i, P.info? e = some i ∧ i.zero = some z ∧ i.size = sz ∧ i.bytes = bytes := info_parts h.i

/-- a slice that this call made: its block holds its cells, and room behind them -/
abbrev Own (w : World) (B : Nat) (e : TypeId) (sz : Nat) (v : Value) (n : Nat) (xs : List Value) : Prop := w.ownsRow B e sz v n xs
theorem Own.nil (w : World) (B : Nat) (e : TypeId) (sz : Nat) : Own w B e sz (.slice none 0 0) 0 [] := ⟨by simp, .inl ⟨rfl, rfl⟩⟩
theorem Own.sl {B : Nat} {e : TypeId} {sz : Nat} {v : Value} {n : Nat} {xs : List Value} (h : Own w B e sz v n xs) : Sl w (tyQ e) v sz n xs := by
  obtain ⟨hl, h⟩ := h
  rcases h with ⟨rfl, rfl⟩ | ⟨g, cap, cur, rfl, hb, hg, hn, hm, hs, ht⟩
  · exact ⟨none, 0, rfl, hl, Nat.le_refl _, rfl⟩
  · refine ⟨_, cap, rfl, hl, hn, .inr ⟨g, 0, cur, e, (0, 0), rfl, rfl, hg, by omega, fun i hi => ?_⟩⟩
    rw [← ht, Nat.zero_add, List.getElem?_take, if_pos hi]
    simp
theorem Own.ext {X : Nat → Prop} {B : Nat} {e : TypeId} {sz : Nat} {v : Value} {n : Nat} {xs : List Value} (h : Own w B e sz v n xs) (he : Ext X w w') (hx : ∀ b, v.ownBlock = some b → ¬ X b) : Own w' B e sz v n xs := by
  refine ⟨h.1, ?_⟩
  rcases h.2 with hn | ⟨g, cap, cur, rfl, hb, hg, rest⟩
  · exact .inl hn
  · exact .inr ⟨g, cap, cur, rfl, hb, by rw [he.same g (lt_of_get hg) (hx g rfl)]; exact hg, rest⟩
theorem Own.extN {B : Nat} {e : TypeId} {sz : Nat} {v : Value} {n : Nat} {xs : List Value} (h : Own w B e sz v n xs) (he : Ext No w w') : Own w' B e sz v n xs := h.ext he fun _ _ h => h
theorem Own.drew {B : Nat} {e : TypeId} {sz : Nat} {v : Value} {n : Nat} {xs : List Value} (h : Own w B e sz v n xs) : Own w.drew B e sz v n xs := h
theorem Own.len {B : Nat} {e : TypeId} {sz : Nat} {v : Value} {n : Nat} {xs : List Value} (h : Own w B e sz v n xs) : xs.length = n * sz := h.1
theorem Own.ge {B : Nat} {e : TypeId} {sz : Nat} {v : Value} {n : Nat} {xs : List Value} (h : Own w B e sz v n xs) {b : Nat} (hb : v.ownBlock = some b) : B ≤ b ∧ b < w.heap.size := World.ownsRow.lt h b hb
theorem Own.mono {B B' : Nat} {e : TypeId} {sz : Nat} {v : Value} {n : Nat} {xs : List Value} (h : Own w B e sz v n xs) (hb : B' ≤ B) : Own w B' e sz v n xs := by
  refine ⟨h.1, ?_⟩
  rcases h.2 with hn | ⟨g, cap, cur, rfl, h1, rest⟩
  · exact .inl hn
  · exact .inr ⟨g, cap, cur, rfl, Nat.le_trans hb h1, rest⟩

/-- what is written to a slice of the call's own is new to whoever called -/
theorem Ext.own {X : Nat → Prop} {w'' : World} {B : Nat} {e : TypeId} {sz : Nat} {v : Value} {n : Nat} {xs : List Value} (h : Ext X w w') (ho : Own w' B e sz v n xs) (hB : w.heap.size ≤ B)
    (k : Ext (fun b => v.ownBlock = some b) w' w'') : Ext X w w'' := h.trans k fun b hb hv => by have := (ho.ge hv).1; omega

theorem Sl.cells_at {T : Nat → TypeId → Prop} {v : Value} {sz n cap : Nat} {ad : Addr} {ys : List Value} (h : Sl w T (.slice (some ad) n cap) sz n ys) : ∀ j u, ys[j]? = some u → w.cell? (ad.add j) = some u := by
  intro j u hj
  obtain ⟨a, cap', hv, hl, hc, ha⟩ := h
  simp only [Value.slice.injEq] at hv
  obtain ⟨rfl, -, rfl⟩ := hv
  have hlt : j < n * sz := by
    rw [← hl]
    rcases Nat.lt_or_ge j ys.length with h | h
    · exact h
    · rw [List.getElem?_eq_none h] at hj; cases hj
  rcases ha with h0 | ⟨b, o, cs, t, fz, rfl, hT, h2, h3, h4⟩
  · have : n = 0 := by omega
    subst this
    omega
  rw [Addr.add_lit]
  simp only [World.cell?, h2]
  simp only [Option.isSome_none, Bool.false_eq_true, if_false]
  rw [h4 j hlt, hj]

/-- append to a slice of the call's own; what the old slice reads stays, whatever is done to the new one -/
theorem app_own {t e ty : TypeId} {sz bytes : Nat} {z : Value} {B n m : Nat} {v x : Value} {xs ys : List Value} {T : Nat → TypeId → Prop} {K : Value → World → Prop} (hi : EI P t e sz bytes z) (ho : Own w B e sz v n xs) (hB : B ≤ w.heap.size)
    (hx : Sl w T x sz m ys) (h1 : ∀ u ∈ ys, u.oneCell' = true) (hb : (n + m) * bytes ≤ 140737488355328) (hn : n + m ≤ 4611686018427387904)
    (k : ∀ v' w', Own w' B e sz v' (n + m) (xs ++ ys) → Ext (fun b => v.ownBlock = some b) w w' → (∀ w'', Ext (fun b => v'.ownBlock = some b) w' w'' → Own w'' B e sz v' (n + m) (xs ++ ys) → Own w'' B e sz v n xs) →
      (∀ b, v'.ownBlock = some b → v.ownBlock = some b ∨ w.heap.size ≤ b) → K v' w') :
    XRun P (Builtin.append_ #[t, t] ty #[v, x]) w K := by
  obtain ⟨i, hi1, hi2, hi3, hi4⟩ := hi.parts
  have hx' := hx
  obtain ⟨a, xcap, rfl, hl, hc, ha⟩ := hx
  cases a with
  | none =>
    subst ha
    have : m = 0 := by omega
    subst this
    have hys : ys = [] := List.eq_nil_of_length_eq_zero (by simpa using hl)
    subst hys
    have := run_append_owned_none (P := P) w B t ty e i sz hi.u hi1 v n xs ho
    exact ⟨_, _, this, k v w (by simpa using ho) (Ext.refl _ _) (fun w'' _ h => by simpa using h) fun b hb => .inl hb⟩
  | some ad =>
    have hcells := hx'.cells_at (v := .pointer none)
    have hsmall : n + m ≤ 9223372036854775807 := by omega
    have hlen : (xs ++ ys).length = (n + m) * sz := by rw [List.length_append, ho.1, hl, Nat.add_mul]
    subst hi3; subst hi4
    have grown : ∀ (old : Nat),
      Own (w.drew.alloc (.cells (xs.toArray ++ ys.toArray ++ Builtin.zeroCells z.cells (grownCap w (n + m) old e - (n + m))) e)) B e i.size (.slice (some ⟨w.heap.size, 0, none⟩) (n + m) (grownCap w (n + m) old e)) (n + m) (xs ++ ys) ∧
      Ext No w (w.drew.alloc (.cells (xs.toArray ++ ys.toArray ++ Builtin.zeroCells z.cells (grownCap w (n + m) old e - (n + m))) e)) := by
      intro old
      have hge := grownCap_ge w (n + m) old e
      have hcm : grownCap w (n + m) old e ≤ maxLen := grownCap_le_maxLen w (n + m) old e (by unfold maxLen; omega)
      refine ⟨⟨hlen, .inr ⟨w.heap.size, _, _, rfl, hB, heap_alloc_new w.drew _, hge, hcm, ?_, ?_⟩⟩, ⟨rfl, rfl, rfl, by simp, fun k hk _ => heap_alloc_old w.drew _ hk⟩⟩
      · simp only [Array.size_append, List.size_toArray, size_zeroCells, hi.zs, ho.1, hl, ← Nat.add_mul]
        congr 1
        omega
      · simp only [Array.toList_append, List.append_assoc]
        rw [← List.append_assoc, ← hlen]
        exact List.take_left
    have keep : ∀ {old : Nat} {X : Nat → Prop} {w1 w2 : World}, (∀ b, v.ownBlock = some b → ¬ X b) → Ext No w w1 → Ext X w1 w2 → Own w2 B e i.size v n xs := fun {old X w1 w2} hX h1 h2 =>
      (ho.extN h1).ext h2 hX
    rcases ho.2 with ⟨rfl, rfl⟩ | ⟨g, cap, cur, rfl, hbg, hg, hnc, hcm, hcs, htake⟩
    · have hx : xs = [] := List.eq_nil_of_length_eq_zero (by simpa using ho.1)
      subst hx
      by_cases hm : m = 0
      · subst hm
        have hys : ys = [] := List.eq_nil_of_length_eq_zero (by simpa using hl)
        subst hys
        refine ⟨.slice none 0 0, w, ?_, k _ _ (by simpa using ho) (Ext.refl _ _) (fun w'' _ h => by simpa using h) fun b hb => .inl hb⟩
        have hf := run_firstCells_some (P := P) w i.size 0 ad 0 xcap [] (by simp) (by simp)
        simp [Builtin.append_, run_underlying hi.u, sizeOf, typeInfo, hi1, Builtin.lenOf, hf]
      · have hr := run_append_nil (P := P) w t ty e i z hi.u hi1 hi2 ad m xcap ys hl hcells (by omega) (by omega) (by simp only [Nat.zero_add] at hb; omega)
        have hgr := grown 0
        simp only [Nat.zero_add, List.nil_append, Array.empty_append] at hgr hr k ⊢
        refine ⟨_, _, hr, k _ _ hgr.1 (hgr.2.mono fun _ _ h => h.elim) (fun w'' h h' => keep (old := 0) (by intro b hb; cases hb) hgr.2 h) fun b hb => .inr ?_⟩
        simp only [Value.ownBlock, Option.some.injEq] at hb
        omega
    · by_cases hroom : n + m ≤ cap
      · have hfit : n * i.size + ys.length ≤ cur.size := by rw [hl, hcs, ← Nat.add_mul]; exact Nat.mul_le_mul_right _ hroom
        have hr := run_append_room (P := P) w t ty e i hi.u hi1 g n cap cur hg ad m xcap ys hl hcells h1 hroom hfit
        refine ⟨_, _, hr, k _ _ ⟨hlen, .inr ⟨g, cap, _, rfl, hbg, setRow_heap w g cur _ e _ hg, hroom, hcm, ?_, ?_⟩⟩ ⟨rfl, rfl, rfl, by simp, fun b _ hb => setRow_other w g b _ (fun e => hb (by simp [Value.ownBlock, e]))⟩ ?_ fun b hb => .inl hb⟩
        · simp only [List.size_toArray, List.length_append, List.length_take, List.length_drop, Array.length_toList]
          omega
        · rw [htake, ← hlen]
          exact List.take_left
        · rintro w'' - ⟨h5, h6⟩
          rcases h6 with ⟨h6, -⟩ | ⟨g', cap', cur', h6, h7, h8, h9, h10, h11, h12⟩
          · cases h6
          · simp only [Value.slice.injEq, Option.some.injEq, Addr.mk.injEq, and_true, true_and] at h6
            obtain ⟨rfl, rfl⟩ := h6
            refine ⟨ho.1, .inr ⟨g, cap, cur', rfl, hbg, h8, by omega, hcm, h11, ?_⟩⟩
            have := congrArg (List.take (n * i.size)) h12
            rw [List.take_take, Nat.min_eq_left (Nat.mul_le_mul_right _ (Nat.le_add_right n m)), ← ho.1, List.take_left, ho.1] at this
            exact this
      · have holds : ∀ j u, xs[j]? = some u → w.cell? ((⟨g, 0, none⟩ : Addr).add j) = some u := World.ownsRow.cells ho (g := g) rfl
        have hr := run_append_grow (P := P) w t ty e i z hi.u hi1 hi2 ⟨g, 0, none⟩ n cap xs ho.1 holds ad m xcap ys hl hcells (by omega) (by omega) (growslice_fits (by omega) hb)
        have hgr := grown cap
        refine ⟨_, _, hr, k _ _ hgr.1 (hgr.2.mono fun _ _ h => h.elim) (fun w'' h h' => keep (old := 0) (fun b hb hb' => ?_) hgr.2 h) fun b hb => .inr ?_⟩
        · have := ho.ge hb
          simp only [Value.ownBlock, Option.some.injEq] at hb'
          omega
        · simp only [Value.ownBlock, Option.some.injEq] at hb
          omega

/-- append to a slice whose room is used up: the old block stays -/
theorem app_full {t e ty : TypeId} {sz bytes : Nat} {z : Value} {n m : Nat} {ad : Option Addr} {x : Value} {xs ys : List Value} {T T0 : Nat → TypeId → Prop} {K : Value → World → Prop} (hi : EI P t e sz bytes z) (hv : Sl w T0 (.slice ad n n) sz n xs) (hT0 : ∀ b, T0 b e)
    (hx : Sl w T x sz m ys) (hb : (n + m) * bytes ≤ 140737488355328) (hn : n + m ≤ 4611686018427387904)
    (k : ∀ v' w', Sl w' T0 v' sz (n + m) (xs ++ ys) → Ext No w w' → K v' w') : XRun P (Builtin.append_ #[t, t] ty #[.slice ad n n, x]) w K := by
  obtain ⟨i, hi1, hi2, hi3, hi4⟩ := hi.parts
  subst hi3; subst hi4
  have hv' := hv
  have hx' := hx
  obtain ⟨a, cap, hva, hvl, hvc, hvb⟩ := hv
  simp only [Value.slice.injEq, true_and] at hva
  obtain ⟨rfl, rfl⟩ := hva
  have hv0 : ad = none → n = 0 := by intro h; subst h; exact hvb
  clear hvb
  obtain ⟨xa, xcap, rfl, hl, hc, ha⟩ := hx
  have hx0 : xa = none → m = 0 := by
    intro h; subst h
    have : xcap = 0 := ha
    omega
  clear ha
  have hlen : (xs ++ ys).length = (n + m) * i.size := by rw [List.length_append, hvl, hl, Nat.add_mul]
  by_cases hm : m = 0
  · subst hm
    have hys : ys = [] := List.eq_nil_of_length_eq_zero (by simpa using hl)
    subst hys
    refine ⟨_, w, ?_, k (.slice ad n n) w (by simpa using hv') (Ext.refl _ _)⟩
    have hf : (Builtin.firstCells i.size 0 (.slice xa 0 xcap)).run P w = .ok #[] w := by
      cases xa with
      | none => simp [Builtin.firstCells]
      | some xa => exact run_firstCells_some (P := P) w i.size 0 xa 0 xcap [] (by simp) (by simp)
    cases ad with
    | none =>
      have := hv0 rfl
      subst this
      simp [Builtin.append_, run_underlying hi.u, sizeOf, typeInfo, hi1, Builtin.lenOf, hf]
    | some ad => simp [Builtin.append_, run_underlying hi.u, sizeOf, typeInfo, hi1, Builtin.lenOf, hf, storeCells]
  · cases xa with
    | none => exact absurd (hx0 rfl) hm
    | some xa =>
      have hcells := hx'.cells_at (v := .pointer none)
      have grown : ∀ (old : Nat),
        Sl (w.drew.alloc (.cells (xs.toArray ++ ys.toArray ++ Builtin.zeroCells z.cells (grownCap w (n + m) old e - (n + m))) e)) T0 (.slice (some ⟨w.heap.size, 0, none⟩) (n + m) (grownCap w (n + m) old e)) i.size (n + m) (xs ++ ys) ∧
        Ext No w (w.drew.alloc (.cells (xs.toArray ++ ys.toArray ++ Builtin.zeroCells z.cells (grownCap w (n + m) old e - (n + m))) e)) := by
        intro old
        have hge := grownCap_ge w (n + m) old e
        have hal := heap_alloc_new w.drew (.cells (xs.toArray ++ ys.toArray ++ Builtin.zeroCells z.cells (grownCap w (n + m) old e - (n + m))) e)
        refine ⟨⟨_, _, rfl, hlen, hge, .inr ⟨w.heap.size, 0, _, _, _, rfl, hT0 _, hal, ?_, fun j hj => ?_⟩⟩, ⟨rfl, rfl, rfl, by simp, fun k hk _ => heap_alloc_old w.drew _ hk⟩⟩
        · simp only [Array.size_append, List.size_toArray, size_zeroCells, hi.zs, hvl, hl, ← Nat.add_mul, Nat.zero_add]
          exact Nat.mul_le_mul_right _ (by omega)
        · rw [Nat.zero_add, Array.getElem?_append_left (by simp [← hlen] at hj ⊢; omega)]
          simp
      cases ad with
      | none =>
        have := hv0 rfl
        subst this
        have hxs : xs = [] := List.eq_nil_of_length_eq_zero (by simpa using hvl)
        subst hxs
        have hr := run_append_nil (P := P) w t ty e i z hi.u hi1 hi2 xa m xcap ys hl hcells (by omega) (by omega) (by simp only [Nat.zero_add] at hb; omega)
        have hgr := grown 0
        simp only [Nat.zero_add, List.nil_append, Array.empty_append] at hgr hr k ⊢
        exact ⟨_, _, hr, k _ _ hgr.1 hgr.2⟩
      | some ad =>
        have hr := run_append_grow (P := P) w t ty e i z hi.u hi1 hi2 ad n n xs hvl (hv'.cells_at (v := .pointer none)) xa m xcap ys hl hcells (by omega) (by omega) (growslice_fits (by omega) hb)
        have hgr := grown n
        exact ⟨_, _, hr, k _ _ hgr.1 hgr.2⟩

/-- make([]T, n, c) -/
theorem make_own {t e : TypeId} {sz bytes : Nat} {z : Value} {n c : Nat} {a b : Int} {ka kb : IntKind} {K : Value → World → Prop} (hi : EI P t e sz bytes z) (ha : a = (n : Int)) (hb : b = (c : Int)) (hnc : n ≤ c) (hn : bytes * c ≤ 281474976710656) (hm : c ≤ 4611686018427387904)
    (k : ∀ b w', b = w.heap.size → w'.heap.size = b + 1 → Blk w' b (repL (cellsV z) c) e → Ext No w w' → K (.slice (some ⟨b, 0, none⟩) n c) w') : XRun P (Instr.makeSlice t (.int ka a) (.int kb b)) w K := by
  obtain ⟨i, hi1, hi2, hi3, hi4⟩ := hi.parts
  subst ha; subst hb; subst hi3; subst hi4
  have hr := run_make (P := P) w t e i z hi.u hi1 hi2 ka kb (n : Int) c (by omega) (by omega) (by have := Int.ofNat_le.2 hn; rw [Int.natCast_mul] at this; exact this) (by omega)
  simp only [Int.toNat_natCast] at hr
  refine ⟨_, _, hr, ?_⟩
  have e2 : madeCells z.cells (c * i.size) = (repL (cellsV z) c).toArray := by
    unfold madeCells
    rw [rep_eq z.cells c i.size hi.zs, cellsV_eq]
  rw [e2]
  exact k w.heap.size (w.alloc (.cells (repL (cellsV z) c).toArray e)) rfl (by simp) ⟨by show (w.heap.push _)[w.heap.size]? = _; simp⟩ ⟨rfl, rfl, rfl, by simp, fun c hc _ => by
    show (w.heap.push _)[c]? = _
    rw [Array.getElem?_push, if_neg (by omega)]⟩

/-- copy(dst, src) of things of one cell -/
theorem copy_row {t u e ty T : TypeId} {T' : Nat → TypeId → Prop} {bytes : Nat} {z : Value} {g o dl dc sn : Nat} {cur xs : List Value} {x : Value} {K : Value → World → Prop} (hi : EI P t e 1 bytes z) (hg : Blk w g cur T) (hx : Sl w T' x 1 sn xs)
    (hfit : o + min sn dl ≤ cur.length) (h1 : ∀ v ∈ xs, v.oneCell' = true)
    (k : ∀ w', Blk w' g (cur.take o ++ xs.take (min sn dl) ++ cur.drop (o + min sn dl)) T → w'.heap.size = w.heap.size → Ext (· = g) w w' → K (.int .i64 (min sn dl : Nat)) w') :
    XRun P (Builtin.copy_ #[t, u] ty #[.slice (some ⟨g, o, none⟩) dl dc, x]) w K := by
  obtain ⟨i, hi1, hi2, hi3, hi4⟩ := hi.parts
  have hx' := hx
  obtain ⟨a, cap, rfl, hl, hc, ha⟩ := hx
  rw [Nat.mul_one] at hl
  have hk : (xs.take (min sn dl)).length = min sn dl := by rw [List.length_take]; omega
  cases a with
  | none =>
    subst ha
    have : sn = 0 := by omega
    subst this
    have hxs : xs = [] := List.eq_nil_of_length_eq_zero hl
    subst hxs
    refine ⟨_, _, run_copy_nil (P := P) w t u ty e _ dl dc hi.u (by rw [hi1]; rfl), ?_⟩
    have := k w (by simpa using hg) rfl (Ext.refl _ _)
    simpa [goInt] using this
  | some ad =>
    have hr := run_copy_row (P := P) w t u ty e g o dl dc ad sn cap cur.toArray T (xs.take (min sn dl)) hi.u (by rw [hi1]; simp [hi3]) hg.h (by rw [hk])
      (fun j v hj => hx'.cells_at (v := .pointer none) j v (by
        rw [List.getElem?_take] at hj
        split at hj
        · exact hj
        · cases hj)) (by rw [hk]; simpa using hfit) (fun v hv => h1 v (List.mem_of_mem_take hv))
    refine ⟨_, _, hr, ?_⟩
    rw [hk]
    exact k _ ⟨setRow_heap w g _ _ T _ hg.h⟩ (by simp) ⟨rfl, rfl, rfl, by simp, fun b _ hb => setRow_other w g b _ hb⟩

/-- a whole struct is stored -/
theorem xstoreVar {t T : TypeId} {g o : Nat} {cur vs : List Value} {K : World → Prop} (hg : Blk w g cur T) (hi : (P.info? t).map (·.size) = some vs.length) (hfit : o + vs.length ≤ cur.length) (h1 : ∀ v ∈ vs, v.oneCell' = true)
    (k : ∀ w', Blk w' g (cur.take o ++ vs ++ cur.drop (o + vs.length)) T → w'.heap.size = w.heap.size → Ext (· = g) w w' → K w') : XDo P (storeVar t ⟨g, o, none⟩ (.agg vs.toArray)) w K := by
  have hr := run_storeCells_at P g o T vs 0 cur.toArray w hg.h (by simpa using hfit) h1
  refine ⟨_, ?_, k (w.setRow g (cur.take o ++ vs ++ cur.drop (o + vs.length)).toArray) ⟨setRow_heap w g _ _ T _ hg.h⟩ (by simp) ⟨rfl, rfl, rfl, by simp, fun b _ hb => setRow_other w g b _ hb⟩⟩
  cases hq : P.info? t with
  | none => simp [hq] at hi
  | some i =>
    have hs : vs.length = i.size := by simp [hq] at hi; omega
    simp only [Nat.add_zero] at hr
    simp [storeVar, sizeOf, typeInfo, hq, Value.cells, hs] at hr ⊢
    exact hr

/-- a []byte as a string -/
theorem conv_str {s d e : TypeId} {T : Nat → TypeId → Prop} {v : Value} {bs : List UInt8} {K : Value → World → Prop} (hs : P.underlying s = some (.slice e)) (he : P.underlying e = some (.int .u8)) (hd : P.underlying d = some .string)
    (hv : Sl w T v 1 bs.length (bs.map fun c => .int .u8 c.toNat)) (k : K (.string ⟨bs.toArray⟩) w) : XRun P (convert s d v) w K := by
  have hv' := hv
  obtain ⟨a, cap, rfl, hl, hc, ha⟩ := hv
  cases a with
  | none =>
    subst ha
    have : bs = [] := List.eq_nil_of_length_eq_zero (by omega)
    subst this
    exact ⟨_, _, run_convert_bytes_nil (P := P) w s e hs he _ _ d hd, k⟩
  | some ad =>
    have hcell := hv'.cells_at (v := .pointer none)
    have hcl : (loadCells ad bs.length).run P w = .ok ((bs.map fun c => (c.toNat : Int)).map (Value.int .u8)).toArray w := by
      have := run_loadCells_list (P := P) w ad ((bs.map fun c => (c.toNat : Int)).map (Value.int .u8)) (fun j v hj => hcell j v (by simpa [Function.comp_def] using hj))
      simpa using this
    have hrun : (convert s d (.slice (some ad) bs.length cap)).run P w = .ok (.string (strOfNums (bs.map fun c => (c.toNat : Int)))) w := by
      rw [run_convert_bytes_string w s d e _ bs.length cap hs he hd, run_bytesToString w _ bs.length cap _ hcl, foldl_push_bytes]
      simp [strOfNums, ByteArray.empty, ByteArray.emptyWithCapacity]
      rfl
    refine ⟨_, _, hrun, ?_⟩
    have : strOfNums (bs.map fun c => (c.toNat : Int)) = ⟨bs.toArray⟩ := by
      unfold strOfNums
      congr 2
      rw [List.map_map]
      conv => rhs; rw [← List.map_id bs]
      apply List.map_congr_left
      intro c _
      simp
    rw [this]
    exact k

/-! ### functions without a text -/
def extOk (P : Program) (f : FuncId) : Bool :=
  match P.funcs[f]? with
  | some fn => !(fn.name == "runtime.NumGoroutine") && fn.body.isNone && (Extern.findNext fn).isNone
  | none => false
theorem xext {f : FuncId} {args : List Value} {K : Value → World → Prop} {e : Array Value → Sem Value} (hb : bodied P f = false) (hq : extOk P f = true) (he : (P.funcs[f]?).bind Extern.find = some e) (k : XRun P (e args.toArray) w K) : xCall P f args w K := by
  unfold xCall
  rw [hb]
  obtain ⟨v, w', hr, hk⟩ := k
  refine ⟨v, w', ?_, hk⟩
  unfold extOk at hq
  cases hf : P.funcs[f]? with
  | none => rw [hf] at hq; cases hq
  | some fn =>
    rw [hf] at hq he
    simp only [Bool.and_eq_true, Bool.not_eq_true'] at hq
    obtain ⟨⟨h1, h2⟩, h3⟩ := hq
    have := run_callFunc_extern (P := P) hf h1 h2 (by simpa using h3) (by simpa using he) args.toArray w
    simp [this, hr, Result.andThen]
end
end Go.Proofs.YtbleadagnpckbaaGreatDoor.X
