/-  law16: DelLeft: its helpers.  -/
import Derived.Test.YthnegkjhciakpaaGreatDoorLeft2
import Derived.Test.YthnegkjhciakpaaGreatDoorC16
namespace Go.Proofs.YthnegkjhciakpaaGreatDoor
open Go Go.RowKit X
set_option linter.unusedSimpArgs false
set_option linter.unusedVariables false
set_option linter.unusedSectionVars false
variable [Floor]
/-- a row of kids of the call's own -/
def KO (w : World) (B : Nat) (v : Value) (l : List (UInt8 × T)) : Prop := ∃ cells, Own w B T_del_Kid 2 v l.length cells ∧ ∀ (i : Nat) (p : UInt8 × T), l[i]? = some p → cells[i * 2]? = some (bv p.1) ∧ cells[i * 2 + 1]? = some p.2.v
theorem ei_kid' : EI P T_s_del_Kid T_del_Kid 2 16 (.agg #[.int .u8 0, .pointer none]) := ⟨by kernel_rfl, by kernel_rfl, by rfl, by omega⟩
section
variable {w w' : World} {v : Value} {l : List (UInt8 × T)} {B : Nat}
theorem KO.extN (h : KO w B v l) (e : Ext No w w') : KO w' B v l := let ⟨cells, h1, h2⟩ := h; ⟨cells, h1.extN e, h2⟩
theorem KO.rk (h : KO w B v l) : RK w v l := let ⟨cells, h1, h2⟩ := h; ⟨cells, h1.sl, h2⟩
theorem KO.nil : KO w B (.slice none 0 0) [] := ⟨[], Own.nil _ _ _ _, fun i p h => by simp at h⟩
theorem KO.lk (h : KO w B v l) (ht : ∀ p ∈ l, Tree w p.2) (hs : ∀ p ∈ l, p.2 ≠ .nil) (hu : UpK l) (hl : l.length ≤ 256) : LK w v l := let ⟨cells, h1, h2⟩ := h; ⟨⟨cells, h1.sl, h2⟩, ht, hs, hu, hl⟩
theorem KO.push (h : KO w B v l) (hB : B ≤ w.heap.size) (hl : l.length ≤ 1000) {c : UInt8} {t : T} {K : Value → World → Prop}
    (k : ∀ v' w', KO w' B v' (l ++ [(c, t)]) → (∀ w0 : World, Ext No w0 w → w0.heap.size ≤ B → Ext No w0 w') → (∀ {v2 : Value} {n B2 : Nat} {xs : List Value}, Own w B2 T_uint8 1 v2 n xs → Own w' B2 T_uint8 1 v2 n xs) → (∀ b cs T, Blk w b cs T → T ≠ T_del_Kid → Blk w' b cs T) → K v' w') :
    XNew w [bv c, t.v] T_del_Kid fun a w1 => XRun P (Builtin.append_ #[T_s_del_Kid, T_s_del_Kid] T_s_del_Kid #[v, .slice (some a) 1 1]) w1 K := by
  obtain ⟨cells, h1, h2⟩ := h
  refine xnew fun b w1 hb hblk hz he1 => ?_
  have hsl : Sl w1 (tyQ T_del_Kid) (.slice (some ⟨b, 0, none⟩) 1 1) 2 1 [bv c, t.v] := hblk.sln rfl
  have h11 := h1.extN he1
  refine app_own ei_kid' h11 (Nat.le_trans hB he1.size) hsl (fun u hu => ?_) (by omega) (by omega) fun v' w2 ho2 he2 _ _ => ?_
  · simp only [List.mem_cons, List.mem_nil_iff, or_false] at hu
    rcases hu with rfl | rfl <;> rfl
  refine k v' w2 ⟨_, by rw [List.length_append]; exact ho2, fun i p hp => ?_⟩ (fun w0 e0 h0 => Ext.own (e0.transN he1) h11 h0 he2) (fun {v2 n B2 xs} hw => Own.ext (hw.extN he1) he2 fun b hb hb' => Own.ne (hw.extN he1) h11 (by decide) hb hb') fun b' cs T hb' hT => (hb'.ext he1 fun h => h).ext he2 fun hv => Own.neB h11 (hb'.ext he1 fun h => h) (fun e => hT e.symm) hv
  have hcl : cells.length = l.length * 2 := h1.len
  rcases Nat.lt_trichotomy i l.length with hlt | heq | hgt
  · rw [List.getElem?_append_left hlt] at hp
    obtain ⟨g1, g2⟩ := h2 i p hp
    exact ⟨by rw [List.getElem?_append_left (by omega)]; exact g1, by rw [List.getElem?_append_left (by omega)]; exact g2⟩
  · subst heq
    rw [List.getElem?_append_right (by omega)] at hp
    simp at hp
    subst hp
    exact ⟨by rw [List.getElem?_append_right (by omega), hcl]; simp, by rw [List.getElem?_append_right (by omega), hcl, show l.length * 2 + 1 - l.length * 2 = 1 by omega]; rfl⟩
  · rw [List.getElem?_eq_none (by simp; omega)] at hp; cases hp
theorem KO.byte (h : KO w B v l) {v2 : Value} {ds : Key} (h2 : Own w B T_uint8 1 v2 ds.length (ds.map bv)) (hB : B ≤ w.heap.size) (hl : ds.length ≤ 1000) {c : UInt8} {K : Value → World → Prop}
    (k : ∀ v' w', KO w' B v l → Own w' B T_uint8 1 v' (ds ++ [c]).length ((ds ++ [c]).map bv) → (∀ w0 : World, Ext No w0 w → w0.heap.size ≤ B → Ext No w0 w') → K v' w') :
    XNew w ([c].map bv) T_uint8 fun a w1 => XRun P (Builtin.append_ #[T_s_uint8, T_s_uint8] T_s_uint8 #[v2, .slice (some a) 1 1]) w1 K := by
  obtain ⟨cells, h1, h3⟩ := h
  refine xnew fun b w1 hb hblk hz he1 => ?_
  have hsl : Sl w1 (tyQ T_uint8) (.slice (some ⟨b, 0, none⟩) 1 1) 1 1 [bv c] := hblk.sln rfl
  have h21 := h2.extN he1
  have h11 := h1.extN he1
  refine app_own ei_u8 h21 (Nat.le_trans hB he1.size) hsl (fun u hu => by rw [List.mem_singleton.1 hu]; rfl) (by omega) (by omega) fun v' w2 ho2 he2 _ _ => ?_
  refine k v' w2 ⟨cells, Own.ext h11 he2 fun b hb hb' => Own.ne h11 h21 (by decide) hb hb', h3⟩ (by rw [List.length_append, List.map_append]; exact ho2) fun w0 e0 h0 => Ext.own (e0.transN he1) h21 h0 he2
end
/-- what is kept of a node's kids -/
def keepK (t : T) (ds : Key) (c : UInt8) : Bool := (t.kid c).ptr.isSome && decide (c ∉ ds)
def kidL (t : T) (ds : Key) (bs : List UInt8) : List (UInt8 × T) := (bs.filter (keepK t ds)).map fun c => (c, t.kid c)
theorem byt_get {i : Nat} (h : i < 256) : byt[i]'(by unfold byt; simp; exact h) = UInt8.ofNat i := by unfold byt; simp
theorem byt_len : byt.length = 256 := by unfold byt; simp
namespace law16
section
variable {w : World} {v vd : Value} {l : Kv} {ds : Key} {t : T}
set_option maxRecDepth 100000 in
theorem c_kids (ht : Tree w t) (hd : Bs w vd ds) (hdl : ds.length ≤ 1000) : Ret P n_law16_kids [t.v, vd] w fun r w' => ∃ v1 v2, r = .tuple #[v1, v2] ∧ KO w' w.heap.size v1 (kidL t ds byt) ∧ Bs w' v2 ((kidL t ds byt).map Prod.fst) ∧ Ext No w w' := by
  refine W_law16_kids ?_
  refine xloop (fun nn vs w' => ∃ (i : Nat) (x1 x2 x3 x4 v1 v2 : Value), vs = [.int .i64 i, x1, x2, x3, x4, v1, v2] ∧ nn = 256 - i ∧ i ≤ 256 ∧ KO w' w.heap.size v1 (kidL t ds (byt.take i)) ∧
      Own w' w.heap.size T_uint8 1 v2 ((kidL t ds (byt.take i)).map Prod.fst).length (((kidL t ds (byt.take i)).map Prod.fst).map bv) ∧ Ext No w w') 256
    ⟨0, _, _, _, _, _, _, rfl, rfl, by omega, KO.nil, Own.nil _ _ _ _, Ext.refl _ _⟩ ?_
  rintro nn vs g w1 ⟨i, x1, x2, x3, x4, v1, v2, rfl, rfl, hi, hk, hb, he⟩
  unfold S_law16_kids_l2
  refine xifD (fun hlt => ?_) fun hge => ?_
  · have hi256 : i < 256 := by omega
    have htk : byt.take (i + 1) = byt.take i ++ [UInt8.ofNat i] := by rw [← List.take_append_getElem (by rw [byt_len]; exact hi256), byt_get hi256]
    have hkl : (kidL t ds (byt.take i)).length ≤ 256 := by
      unfold kidL
      rw [List.length_map]
      have h1 := List.length_filter_le (keepK t ds) (byt.take i)
      rw [List.length_take] at h1
      omega
    have hcn : (UInt8.ofNat i).toNat = i := by simp; omega
    generalize hc : UInt8.ofNat i = c at htk hcn
    subst hcn
    have hz := he.size
    refine xj (fun vs w' => ∃ (y1 y2 y3 y4 v1' v2' : Value), vs = [y1, y2, y3, y4, v1', v2'] ∧ KO w' w.heap.size v1' (kidL t ds (byt.take (c.toNat + 1))) ∧ Own w' w.heap.size T_uint8 1 v2' ((kidL t ds (byt.take (c.toNat + 1))).map Prod.fst).length (((kidL t ds (byt.take (c.toNat + 1))).map Prod.fst).map bv) ∧ Ext No w w') ?_ ?_
    · refine xi (r := ((c.toNat : Nat) : Int)) (wrapU8 (by omega)) ?_
      show Ret P n_node_Node_Kid [t.v, bv c] w1 _
      refine (c_Kid (ht.extN he) (b := c)).mono ?_
      rintro _ w2 ⟨rfl, he2⟩
      have hE2 := he.transN he2
      have hk2 := hk.extN he2
      have hb2 := hb.extN he2
      have loop : ∀ g0 : Bool, (g0 = !(t.kid c).ptr.isSome) → XLoop [(.int .i64 0), x4, .bool g0] w2 (S_law16_kids_l1 vd [.int .i64 (c.toNat : Nat), x1, x2, x3, x4, v1, v2] (fun vs w' => ∃ (y1 y2 y3 y4 v1' v2' : Value), vs = [y1, y2, y3, y4, v1', v2'] ∧ KO w' w.heap.size v1' (kidL t ds (byt.take (c.toNat + 1))) ∧ Own w' w.heap.size T_uint8 1 v2' ((kidL t ds (byt.take (c.toNat + 1))).map Prod.fst).length (((kidL t ds (byt.take (c.toNat + 1))).map Prod.fst).map bv) ∧ Ext No w w') (t.kid c).v (.int .i64 ds.length)) := fun g0 hg0 => by
        refine xloop (fun nn vs w' => ∃ (j : Nat) (y : Value) (g1 : Bool), vs = [.int .i64 j, y, .bool g1] ∧ nn = ds.length - j ∧ j ≤ ds.length ∧ g1 = (g0 || decide (c ∈ ds.take j)) ∧ w2 = w') ds.length ⟨0, _, g0, rfl, rfl, by omega, by simp, rfl⟩ ?_
        rintro nn vs g w3 ⟨j, y, g1, rfl, rfl, hj, hg1, rfl⟩
        unfold S_law16_kids_l1
        refine xifD (fun hlt2 => ?_) fun hge2 => ?_
        · have hjl : j < ds.length := by omega
          have htj := List.take_append_getElem hjl
          refine xj (fun vs w' => ∃ y : Value, vs = [y, .bool (g1 || decide (ds[j] = c))] ∧ w2 = w') ?_ ?_
          · refine (hd.extN hE2).rd j hjl rfl ?_
            cases g1 with
            | true => exact xifT rfl ⟨_, rfl, rfl⟩
            | false =>
              refine xifF rfl ?_
              have := u8_lt ds[j]
              refine xi (r := ((ds[j].toNat : Nat) : Int)) (wrapI (by omega)) ?_
              refine ⟨bv ds[j], ?_, rfl⟩
              by_cases e : ds[j] = c
              · rw [decide_eq_true e, e]; simp
              · rw [decide_eq_false e]
                have : ds[j].toNat ≠ c.toNat := fun h => e (UInt8.toNat_inj.1 h)
                simp; omega
          rintro vs g w3 ⟨y', rfl, rfl⟩
          refine xi (r := ((j + 1 : Nat) : Int)) (by rw [wrapI (by omega)]; omega) ?_
          refine xnext (ds.length - (j + 1)) (by omega) ⟨j + 1, _, _, rfl, rfl, by omega, ?_, rfl⟩
          have hm : decide (c ∈ ds.take j ++ [ds[j]]) = (decide (c ∈ ds.take j) || decide (ds[j] = c)) := by
            by_cases h1 : c ∈ ds.take j
            · rw [decide_eq_true h1, decide_eq_true (List.mem_append_left _ h1)]; rfl
            · rw [decide_eq_false h1, Bool.false_or]
              exact decide_eq_decide.2 ⟨fun h => (List.mem_append.1 h).elim (fun h => absurd h h1) fun h => (List.mem_singleton.1 h).symm, fun h => by rw [← h]; exact List.mem_append_right _ (List.mem_singleton_self _)⟩
          rw [hg1, ← htj, hm, Bool.or_assoc]
        · have : j = ds.length := by omega
          subst this
          rw [List.take_length] at hg1
          have hkc : keepK t ds c = !g1 := by
            rw [hg1, hg0]
            unfold keepK
            cases (t.kid c).ptr.isSome <;> simp
          have hL : kidL t ds (byt.take (c.toNat + 1)) = kidL t ds (byt.take c.toNat) ++ (if g1 then [] else [(c, t.kid c)]) := by
            unfold kidL
            rw [htk, List.filter_append, List.map_append]
            congr 1
            cases g1 with
            | true => rw [List.filter_cons_of_neg (by rw [hkc]; simp)]; rfl
            | false => rw [List.filter_cons_of_pos (by rw [hkc]; simp)]; rfl
          cases g1 with
          | true =>
            refine xifF rfl ?_
            rw [hL, if_pos rfl, List.append_nil]
            exact ⟨_, _, _, _, _, _, rfl, hk2, hb2, hE2⟩
          | false =>
            rw [if_neg (by simp)] at hL
            refine xifT rfl ?_
            refine xi (r := ((c.toNat : Nat) : Int)) (wrapU8 (by omega)) ?_
            have hz2 := hE2.size
            refine KO.push hk2 hz2 (by omega) (c := c) (t := t.kid c) fun v1' w4 hk4 hex4 hby4 _ => ?_
            have hE4 := hex4 w hE2 (Nat.le_refl _)
            refine xi (r := ((c.toNat : Nat) : Int)) (wrapU8 (by omega)) ?_
            refine KO.byte hk4 (ds := (kidL t ds (byt.take c.toNat)).map Prod.fst) (hby4 hb2) hE4.size (by rw [List.length_map]; omega) (c := c) fun v2' w5 hk5 hb5 hex5 => ?_
            rw [hL, List.map_append]
            exact ⟨_, _, _, _, _, _, rfl, hk5, hb5, hex5 w hE4 (Nat.le_refl _)⟩
      have hdlen : ∀ {K : Value → Prop}, K (.int .i64 ds.length) → xLen vd K := fun k => (hd.extN hE2).len k
      refine xpeq_any (fun hn => ?_) fun hn => ?_
      · refine hdlen ?_
        exact loop true (by rw [hn]; rfl)
      · refine hdlen ?_
        exact loop false (by rw [T.ptr_some hn]; rfl)
    · rintro vs g w2 ⟨y1, y2, y3, y4, v1', v2', rfl, hk2, hb2, he2⟩
      refine xi (r := ((c.toNat + 1 : Nat) : Int)) (by rw [wrapI (by omega)]; omega) ?_
      exact xnext (256 - (c.toNat + 1)) (by omega) ⟨c.toNat + 1, _, _, _, _, _, _, rfl, rfl, by omega, hk2, hb2, he2⟩
  · have : i = 256 := by omega
    subst this
    rw [List.take_of_length_le (by rw [byt_len]; exact Nat.le_refl _)] at hk hb
    exact ⟨v1, v2, rfl, hk, Bs.of hb.sl, he⟩
end
end law16
end Go.Proofs.YthnegkjhciakpaaGreatDoor
