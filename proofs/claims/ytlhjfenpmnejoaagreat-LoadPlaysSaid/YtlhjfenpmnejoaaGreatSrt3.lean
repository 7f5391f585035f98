/-  load: sorting, making afresh, loading into a transient, merging.  -/
import Derived.Test.YtlhjfenpmnejoaaGreatSrt2
import Derived.Test.YtlhjfenpmnejoaaGreatTr3
import Derived.Test.YtlhjfenpmnejoaaGreatList
namespace Go.Proofs.YtlhjfenpmnejoaaGreat
open Go Go.RowKit X
set_option linter.unusedSimpArgs false
set_option linter.unusedVariables false
set_option linter.unusedSectionVars false
section
variable {l : Kv} {L : List Tg} {bs k : Nat}
theorem IB.up (h : IB l L bs k) (j : Nat) : (sl L (k * bs) j).Pairwise fun x y => x.2 < y.2 := by
  have e2 : sl L (k * bs) j = sl (tgs 0 l) (k * bs) j := by
    apply List.ext_getElem?
    intro q
    unfold sl
    rw [List.getElem?_drop, List.getElem?_take, List.getElem?_drop, List.getElem?_take]
    split
    · exact h.rest _ (by omega)
    · rfl
  rw [e2]
  exact (tgs_up l 0).sublist ((List.drop_sublist _ _).trans (List.take_sublist _ _))
theorem MB.two (h : MB l L bs k) {j : Nat} (hj : j = min (k * (2 * bs) + 2 * bs) l.length) (hlt : k * (2 * bs) + bs < l.length) :
    Seg (tgs 0 l) L (k * (2 * bs)) (k * (2 * bs) + bs) ∧ Seg (tgs 0 l) L (k * (2 * bs) + bs) j := by
  have s1 := h.rest (2 * k) (Nat.le_refl _) (by rw [two_mul_k]; omega)
  have s2 := h.rest (2 * k + 1) (by omega) (by rw [two_mul_k1]; exact hlt)
  rw [two_mul_k] at s1
  rw [two_mul_k1] at s2
  rw [show min (k * (2 * bs) + bs) l.length = k * (2 * bs) + bs by omega] at s1
  rw [show min (k * (2 * bs) + bs + bs) l.length = j by omega] at s2
  exact ⟨s1, s2⟩
theorem dedK_cons {p : Key × Nat} {r : Kv} : dedK (p :: r) = if (∃ q ∈ r.head?, p.1 = q.1) then dedK r else p :: dedK r := by
  cases r with
  | nil => simp [dedK]
  | cons q r => simp [dedK]
end
variable [Floor]
theorem PsO.app {w : World} {B : Nat} {T : TypeId} {v : Value} {l : Kv} {K : Value → World → Prop} {t ty : TypeId} {x : Value} {m : Kv} {ys : List Value} {Q : Nat → TypeId → Prop} (hT : EI P t T 2 32 (.agg #[.slice none 0 0, .int .u64 0])) (hPT : T ≠ T_uint8) (hfl : Floor.n ≤ B) (hB : B ≤ w.heap.size)
    (h : PsO w B T v l) (hx : Sl w Q x 2 m.length ys) (hm : PC w m ys) (hn : l.length + m.length ≤ 1099511627776)
    (k : ∀ v' w', PsO w' B T v' (l ++ m) → Ext (OX v) w w' → (∀ w0 : World, Ext No w0 w → w0.heap.size ≤ B → Ext No w0 w') → (∀ b, v'.ownBlock = some b → v.ownBlock = some b ∨ w.heap.size ≤ b) → K v' w') : XRun P (Builtin.append_ #[t, t] ty #[v, x]) w K := by
  obtain ⟨cells, h1, h2⟩ := h
  have nb : NB w (OX v) := Own.nb1 h1 hfl hPT
  refine app_own hT h1 hB hx hm.one (by omega) (by omega) fun v' w' ho hE _ hb => k v' w' ⟨_, ?_, (h2.app hm).ext hE nb⟩ hE (fun w0 e0 hB0 => e0.own h1 hB0 hE) hb
  rw [List.length_append]; exact ho
section
variable {w0 w : World} {v : Value} {l : Kv}
set_option maxRecDepth 100000 in
set_option maxHeartbeats 1000000 in
theorem c_stable (h : SO w0 w T_api_Pair v l) (he : Ext No w0 w) (hl : l.length ≤ 20000) :
    Ret P n_slices_stableCmpFunc_Pair [v, .int .i64 l.length, cmpV] w fun r w' => ∃ L : List Tg, dedK (mp L) = sortK l ∧ L.length = l.length ∧ TR w0 w' v L ∧ Ext (OX v) w w' := by
  have h0 : TR w0 w v (tgs 0 l) := by
    show SO w0 w T_api_Pair v ((tgs 0 l).map (·.1))
    rw [tgs_map]; exact h
  refine W_slices_stableCmpFunc_Pair ?_
  refine xloop (fun n vs w' => ∃ (k a : Nat) (L : List Tg), vs = [.int .i64 ((a + 20 : Nat) : Int), .int .i64 (a : Int)] ∧ a = k * 20 ∧ n = l.length - a ∧ a ≤ l.length ∧ IB l L 20 k ∧ TR w0 w' v L ∧ Ext (OX v) w w') l.length
    ⟨0, 0, _, rfl, rfl, rfl, by omega, IB.start l 20, h0, Ext.refl _ _⟩ ?_
  rintro n vs g w1 ⟨k, a, L, rfl, ha, rfl, hal, hI, hR, hX⟩
  unfold S_slices_stableCmpFunc_Pair_l3
  have hE := h0.own he hX
  have hlen := hI.len
  have hta : (L.take a).length = a := by rw [List.length_take]; omega
  refine xifD (fun hle => ?_) fun hgt => ?_
  · have hR' : TR w0 w1 v (L.take a ++ (sl L a (a + 20) ++ L.drop (a + 20))) := by rw [← sl_parts (by omega) (by omega)]; exact hR
    refine (c_insertion (a := a) (b := a + 20) hR' hE (by rw [ha]; exact hI.up _) hta (by rw [sl_length (by omega)]; omega) (by omega)).mono ?_
    rintro _ w2 ⟨C, c1, c2, hR2, hX2⟩
    refine xi (r := ((a + 20 + 20 : Nat) : Int)) (by rw [wrapI (by omega)]; omega) ?_
    have hI2 := hI.next (C := C) (by omega) c1 (by rw [← ha]; exact c2)
    rw [← ha] at hI2
    exact xnext (l.length - (a + 20)) (by omega) ⟨k + 1, a + 20, _, rfl, by omega, rfl, by omega, hI2, hR2, hX.transS hX2⟩
  · have hR' : TR w0 w1 v (L.take a ++ (sl L a l.length ++ L.drop l.length)) := by rw [← sl_parts hal (by omega)]; exact hR
    refine (c_insertion (a := a) (b := l.length) hR' hE (by rw [ha]; exact hI.up _) hta (by rw [sl_length (by omega)]; omega) (by omega)).mono ?_
    rintro _ w2 ⟨C, c1, c2, hR2, hX2⟩
    obtain ⟨hB0, hl0⟩ := hI.all (C := C) (by omega) (by omega) c1 (by rw [← ha]; exact c2)
    rw [← ha] at hB0 hl0
    have hX02 := hX.transS hX2
    generalize L.take a ++ (C ++ L.drop l.length) = L1 at hR2 hB0 hl0
    refine xloop (fun n vs w' => ∃ (bs : Nat) (L : List Tg) (x1 x2 x3 : Value), vs = [.int .i64 (bs : Int), x1, x2, x3] ∧ 0 < bs ∧ bs ≤ 60000 ∧ n = l.length - bs ∧ Blks l L bs ∧ L.length = l.length ∧ TR w0 w' v L ∧ Ext (OX v) w w') (l.length - 20)
      ⟨20, L1, _, _, _, rfl, by omega, by omega, rfl, hB0, hl0, hR2, hX02⟩ ?_
    rintro n vs g w3 ⟨bs, L2, x1, x2, x3, rfl, hbs, hbs2, rfl, hB2, hl2, hR3, hX3⟩
    unfold S_slices_stableCmpFunc_Pair_l2
    refine xifD (fun hlt => ?_) fun hge => ⟨L2, hB2.whole hl2 (by omega), hl2, hR3, hX3⟩
    refine xi (r := ((2 * bs : Nat) : Int)) (by rw [wrapI (by omega)]; omega) ?_
    refine xloop (fun n vs w' => ∃ (k a : Nat) (L : List Tg), vs = [.int .i64 ((a + 2 * bs : Nat) : Int), .int .i64 (a : Int)] ∧ a = k * (2 * bs) ∧ n = l.length - a ∧ a ≤ l.length ∧ MB l L bs k ∧ TR w0 w' v L ∧ Ext (OX v) w w') l.length
      ⟨0, 0, _, by rw [Nat.zero_add]; rfl, by rw [Nat.zero_mul], rfl, by omega, MB.start hB2 hl2, hR3, hX3⟩ ?_
    rintro n vs g w4 ⟨k, a, L, rfl, ha, rfl, hal, hM, hR4, hX4⟩
    unfold S_slices_stableCmpFunc_Pair_l1
    have hE4 := h0.own he hX4
    have hlen := hM.len
    have hta : (L.take a).length = a := by rw [List.length_take]; omega
    have two : ∀ j, j = min (a + 2 * bs) l.length → a + bs < l.length → ∀ w', w4 = w' → Ret P n_slices_symMergeCmpFunc_Pair [v, .int .i64 a, .int .i64 ((a + bs : Nat) : Int), .int .i64 (j : Int), cmpV] w' fun r w' => ∃ L', MB l L' bs (k + 1) ∧ TR w0 w' v L' ∧ Ext (OX v) w w' := by
      intro j hj hlt w' hw'
      subst hw'
      have hj1 : j ≤ l.length := by omega
      have hj2 : a + bs ≤ j := by omega
      obtain ⟨s1, s2⟩ := hM.two (j := j) (by rw [← ha]; exact hj) (by rw [← ha]; exact hlt)
      rw [← ha] at s1 s2
      have hR' : TR w0 w4 v (L.take a ++ (sl L a (a + bs) ++ (sl L (a + bs) j ++ L.drop j))) := by
        rw [← List.append_assoc (sl L a (a + bs)), ← sl_split (by omega) hj2, ← sl_parts (by omega) (by omega)]; exact hR4
      have l1 : (sl L a (a + bs)).length = bs := by rw [sl_length (by omega)]; omega
      have l2 : (sl L (a + bs) j).length = j - (a + bs) := sl_length (by omega)
      refine (c_symMerge _ (Nat.le_refl _) hR' hE4 s1.srt s2.srt (s1.tags s2) (by omega) (by omega) hta (by omega) (by omega) (by omega)).mono ?_
      rintro _ w5 ⟨C, c1, c2, hR5, hX5⟩
      have hM2 := hM.next (C := C) (j := j) (by rw [← ha]; exact hj) (by rw [← ha]; exact hlt) c1 (by rw [← ha]; exact c2)
      rw [← ha] at hM2
      exact ⟨_, hM2, hR5, hX4.transS hX5⟩
    refine xifD (fun hle => ?_) fun hgt => ?_
    · refine xi (r := ((a + bs : Nat) : Int)) (by rw [wrapI (by omega)]; omega) ?_
      refine (two (a + 2 * bs) (by omega) (by omega) _ rfl).mono ?_
      rintro _ w5 ⟨L', hM', hR5, hX5⟩
      refine xi (r := ((2 * bs : Nat) : Int)) (by rw [wrapI (by omega)]; omega) ?_
      refine xi (r := ((a + 2 * bs + 2 * bs : Nat) : Int)) (by rw [wrapI (by omega)]; omega) ?_
      exact xnext (l.length - (a + 2 * bs)) (by omega) ⟨k + 1, a + 2 * bs, L', rfl, by have : (k + 1) * (2 * bs) = k * (2 * bs) + 2 * bs := Nat.succ_mul k (2 * bs); omega, rfl, by omega, hM', hR5, hX5⟩
    · refine xj (fun vs w' => ∃ (x : Value) (L' : List Tg), vs = [x] ∧ Blks l L' (2 * bs) ∧ L'.length = l.length ∧ TR w0 w' v L' ∧ Ext (OX v) w w') ?_ ?_
      · refine xi (r := ((a + bs : Nat) : Int)) (by rw [wrapI (by omega)]; omega) ?_
        refine xifD (fun hlt2 => ?_) fun hge2 => ?_
        · refine (two l.length (by omega) (by omega) _ rfl).mono ?_
          rintro _ w5 ⟨L', hM', hR5, hX5⟩
          exact ⟨_, L', rfl, hM'.all (by have : (k + 1) * (2 * bs) = k * (2 * bs) + 2 * bs := Nat.succ_mul k (2 * bs); omega), hM'.len, hR5, hX5⟩
        · exact ⟨_, L, rfl, hM.all (by rw [← ha]; omega), hM.len, hR4, hX4⟩
      · rintro vs g w5 ⟨x, L', rfl, hB5, hl5, hR5, hX5⟩
        refine xi (r := ((2 * bs : Nat) : Int)) (by rw [wrapI (by omega)]; omega) ?_
        exact xnext (l.length - 2 * bs) (by omega) ⟨2 * bs, L', _, _, _, rfl, by omega, by omega, rfl, hB5, hl5, hR5, hX5⟩
theorem c_SortStable (h : SO w0 w T_api_Pair v l) (he : Ext No w0 w) (hl : l.length ≤ 20000) :
    Ret P n_slices_SortStableFunc_Pair [v, cmpV] w fun r w' => ∃ L : List Tg, dedK (mp L) = sortK l ∧ L.length = l.length ∧ TR w0 w' v L ∧ Ext (OX v) w w' := by
  refine W_slices_SortStableFunc_Pair ?_
  refine h.len ?_
  refine (c_stable h he hl).mono ?_
  rintro _ w1 hh
  exact hh
theorem c_ClonePs (h : Ps w v l) (hll : l.length ≤ 100000) : Ret P n_slices_Clone_Pair [v] w fun r w' => SO w w' T_api_Pair r l ∧ Ext No w w' := by
  refine W_slices_Clone_Pair ?_
  obtain ⟨ad, cap, rfl⟩ := h.slice
  cases ad with
  | none =>
    have : l = [] := by
      obtain ⟨T, cells, hT, ⟨ad, cap', h, hl, hc, hx⟩, h2⟩ := h
      simp only [Value.slice.injEq] at h
      obtain ⟨rfl, -, rfl⟩ := h
      exact List.eq_nil_of_length_eq_zero (by have : cap = 0 := hx; omega)
    subst this
    exact ⟨SO.nil w _ _, Ext.refl _ _⟩
  | some ad =>
    refine xnew fun b w1 hb hblk hsz he => ?_
    obtain ⟨T, cells, hT, h1, h2⟩ := h
    have h0 : SO w w1 T_api_Pair (.slice (some ⟨b, 0, none⟩) 0 0) [] := ⟨[], ⟨rfl, .inr ⟨b, 0, _, rfl, by omega, hblk.h, Nat.le_refl _, by decide, rfl, rfl⟩⟩, PC.nil _⟩
    refine SO.app (l := []) (m := l) ei_api h0 he (h1.extN he) h2 (by show 0 + l.length ≤ _; omega) fun v' w' h3 he3 _ _ => ?_
    exact ⟨by simpa using h3, he3⟩
set_option maxHeartbeats 1000000 in
/-- sorting -/
theorem c_loadSort (h : Ps w v l) (hl : l.length ≤ 20000) (hk : ∀ p ∈ l, p.1.length ≤ 1000000) (hfl : Floor.n ≤ w.heap.size) : Ret P n_load_Sort [v] w fun r w' => Ps w' r (sortK l) ∧ Ext No w w' := by
  refine W_load_Sort ?_
  refine (c_ClonePs h (by omega)).mono ?_
  rintro va w1 ⟨hso, he1⟩
  refine (c_SortStable hso he1 hl).mono ?_
  rintro _ w2 ⟨L, hded, hLl, hR, hX⟩
  have he2 : Ext No w w2 := hso.own he1 hX
  have hmem : ∀ p ∈ mp L, p.1.length ≤ 1000000 ∨ True := fun _ _ => .inr trivial
  have hml : (mp L).length = l.length := by rw [List.length_map]; exact hLl
  refine hR.len (A := L) rfl |> fun _ => ?_
  refine SO.len hR ?_
  refine xloop (fun n vs w' => ∃ (i : Nat) (x out : Value) (O : Kv), vs = [.int .i64 i, x, out] ∧ n = (mp L).length - i ∧ i ≤ (mp L).length ∧ O.length ≤ i ∧ PsO w' w.heap.size T_api_Pair out O ∧ O ++ dedK ((mp L).drop i) = sortK l ∧ TR w w' va L ∧ (∀ b, out.ownBlock = some b → va.ownBlock ≠ some b) ∧ Ext No w w') (mp L).length
    ⟨0, _, _, [], rfl, rfl, by omega, by simp, PsO.nil _ _ _, by simpa using hded, hR, (fun b hb => by cases hb), he2⟩ ?_
  rintro n vs g w3 ⟨i, x, out, O, rfl, rfl, hi, hOi, hO, hOd, hR3, hne, he3⟩
  unfold S_load_Sort_l1
  refine xifD (fun hlt => ?_) fun hge => ?_
  · have hil : i < (mp L).length := by omega
    have hdrop : (mp L).drop i = (mp L)[i] :: (mp L).drop (i + 1) := List.drop_eq_getElem_cons hil
    rw [hdrop, dedK_cons] at hOd
    have hkl : (mp L)[i].1.length ≤ 140737488355328 ∨ ¬ (mp L)[i].1.length ≤ 140737488355328 := Decidable.em _
    refine xj (fun vs w' => ∃ (x out : Value) (O : Kv), vs = [x, out] ∧ O.length ≤ i + 1 ∧ PsO w' w.heap.size T_api_Pair out O ∧ O ++ dedK ((mp L).drop (i + 1)) = sortK l ∧ TR w w' va L ∧ (∀ b, out.ownBlock = some b → va.ownBlock ≠ some b) ∧ Ext No w w') ?_ ?_
    · refine SO.rd hR3 i rfl hil fun kv hkv h64 => ?_
      refine xnew fun b w4 hb hblk hz4 he4 => ?_
      refine xstoreVar hblk (by kernel_rfl) (by simp) ?_ fun w5 hb5 hz5 he5 => ?_
      · intro u hu
        simp only [List.mem_cons, List.mem_nil_iff, or_false] at hu
        rcases hu with rfl | rfl
        · exact hkv.one1
        · rfl
      have hb5 : Blk w5 b [kv, u64 (mp L)[i].2] T_api_Pair := by simpa using hb5
      have hE35 : Ext No w3 w5 := he4.trans1 he5 (by omega)
      have hR5 := hR3.extN hE35
      refine xj (fun vs w' => ∃ q : Bool, vs = [.bool q] ∧ Ext No w5 w' ∧ (q = true ↔ ∃ y ∈ ((mp L).drop (i + 1)).head?, (mp L)[i].1 = y.1)) ?_ ?_
      · refine xi (r := ((i + 1 : Nat) : Int)) (by rw [wrapI (by omega)]; omega) ?_
        refine SO.len hR5 ?_
        refine xifD (fun h2 => ?_) fun h2 => ?_
        · have h2 : i + 1 < (mp L).length := by omega
          refine hb5.drew.ld (o := 0) rfl ?_
          refine xi (r := ((i + 1 : Nat) : Int)) (by rw [wrapI (by omega)]; omega) ?_
          refine SO.key (TR.drew hR5) (i + 1) rfl h2 fun kv2 hkv2 => ?_
          have hEd := (he3.transN hE35).drew
          refine (c_Same (hkv.extN hEd) (hkv2.extN hEd)).mono ?_
          rintro _ w6 ⟨rfl, rfl⟩
          refine ⟨_, rfl, Ext.drew (Ext.refl No w5), ?_⟩
          rw [decide_eq_true_iff, List.head?_drop, List.getElem?_eq_getElem h2]
          simp
        · refine ⟨false, rfl, Ext.drew (Ext.refl No w5), ?_⟩
          rw [List.drop_of_length_le (by omega)]
          simp
      rintro vs g w6 ⟨q, rfl, he6, hq⟩
      have hE36 := hE35.transN he6
      cases q with
      | true =>
        rw [if_pos (hq.1 rfl)] at hOd
        exact xifT rfl ⟨_, _, O, rfl, by omega, hO.extN hE36, hOd, hR3.extN hE36, hne, he3.transN hE36⟩
      | false =>
        rw [if_neg fun h => by have := hq.2 h; cases this] at hOd
        refine xifF rfl ?_
        have hb6 := hb5.ext he6 fun h => h
        refine hb6.drew.ld (o := 0) rfl ?_
        refine hb6.drew.ld (o := 1) rfl ?_
        have hEd := (he3.transN hE36).drew
        have hlong : (mp L)[i].1.length ≤ 140737488355328 := by
          obtain ⟨kq, e1, e2⟩ : ∃ p ∈ sortK l, p = (mp L)[i] := ⟨(mp L)[i], by rw [← hOd]; simp, rfl⟩
          have := hk _ (sortK_mem e1)
          rw [e2] at this
          omega
        refine (c_Clone (hkv.extN hEd) hlong).mono ?_
        rintro kc w7 ⟨hkc, he7⟩
        have hb7 := hb6.drew.ext he7 fun h => h
        refine ⟨xkeepV hb7 rfl, ?_⟩
        obtain ⟨ad, cap, rfl⟩ := hkc.slice
        show XNew w7 [_, u64 (mp L)[i].2] T_api_Pair _
        refine xnew fun a w8 ha hbl hz8 he8 => ?_
        have hE38 := ((hE36.drew).transN he7).transN he8
        have hR8 := hR3.extN hE38
        have hsl : Sl w8 (tyQ T_api_Pair) (.slice (some ⟨a, 0, none⟩) 1 1) 2 1 [.slice ad (mp L)[i].1.length cap, u64 (mp L)[i].2] := hbl.sln rfl
        have hE08 := he3.transN hE38
        have hsz := hE08.size
        refine PsO.app (m := [(mp L)[i]]) ei_api (by decide) hfl hsz (hO.extN hE38) hsl (PC.sing (hkc.extN he8) h64) (by show O.length + 1 ≤ _; omega) fun out' w9 hO9 hX9 hE9 hb9 => ?_
        refine ⟨_, out', _, rfl, by simp; omega, hO9, by rw [← hOd]; simp, ?_, fun b hb => ?_, hE9 _ hE08 (Nat.le_refl _)⟩
        · exact SO.ext hR8 hX9 fun b hb hb2 => hne b hb2 hb
        · rcases hb9 b hb with h1 | h1
          · exact hne b h1
          · intro hv
            obtain ⟨cells, ho, -⟩ := hR8
            have := (ho.ge hv).2
            omega
    · rintro vs g w4 ⟨x, out, O, rfl, hOl, hO4, hOd4, hR4, hne4, he4⟩
      refine xi (r := ((i + 1 : Nat) : Int)) (by rw [wrapI (by omega)]; omega) ?_
      exact xnext ((mp L).length - (i + 1)) (by omega) ⟨i + 1, x, out, O, rfl, rfl, by omega, hOl, hO4, hOd4, hR4, hne4, he4⟩
  · rw [List.drop_of_length_le (by omega), show dedK [] = [] from rfl, List.append_nil] at hOd
    subst hOd
    exact ⟨hO.ps (.inl rfl), he3⟩
end
/-- pairs one behind the other -/
def insL (m pl : Kv) : Kv := pl.foldl (fun s p => insK s p.1 p.2) m
theorem insL_snoc (m pl : Kv) (p : Key × Nat) : insL m (pl ++ [p]) = insK (insL m pl) p.1 p.2 := by unfold insL; rw [List.foldl_append]; rfl
theorem insL_take {m pl : Kv} {i : Nat} (h : i < pl.length) : insL m (pl.take (i + 1)) = insK (insL m (pl.take i)) pl[i].1 pl[i].2 := by
  rw [← List.take_append_getElem h, insL_snoc]
theorem insL_length (m pl : Kv) : (insL m pl).length ≤ m.length + pl.length := by
  induction pl generalizing m with
  | nil => simp [insL]
  | cons p r ih =>
    have h1 := ih (insK m p.1 p.2)
    have h2 := insK_length m p.1 p.2
    have h3 : insL m (p :: r) = insL (insK m p.1 p.2) r := rfl
    rw [h3, List.length_cons]; omega
theorem insL_app (m a b : Kv) : insL m (a ++ b) = insL (insL m a) b := by unfold insL; rw [List.foldl_append]
theorem insL_nil (l : Kv) : insL [] l = sortK l := rfl
section
variable {B : Nat} {w w1 : World} {wb n j vb tb : Nat} {t : T} {l m : Kv} {v : Value} {V : Nat → Option (T × Kv)} {M : Nat → Option TrR} {F : Nat → Prop} {r : TrR}
theorem c_may (h : Ps w v l) (hl : l.length ≤ 100000) : Ret P n_load_may [v] w fun r w' => r = .int .i64 (if ∀ p ∈ l, p.1.length ≤ 65535 then 0 else 8) ∧ Ext No w w' := by
  refine W_load_may ?_
  refine h.len ?_
  refine xloop (fun n vs w' => ∃ (i : Nat) (x y : Value), vs = [.int .i64 i, x, y] ∧ n = l.length - i ∧ i ≤ l.length ∧ (∀ p ∈ l.take i, p.1.length ≤ 65535) ∧ Ext No w w') l.length ⟨0, _, _, rfl, rfl, by omega, by simp, Ext.refl _ _⟩ ?_
  rintro n vs g w1 ⟨i, x, y, rfl, rfl, hi, hall, he⟩
  unfold S_load_may_l1
  refine xifD (fun hlt => ?_) fun hge => ?_
  · have hil : i < l.length := by omega
    refine (h.extN he).rd i rfl hil fun kv hkv => ?_
    refine xnew fun b w4 hb hblk hz4 he4 => ?_
    refine xstoreVar hblk (by kernel_rfl) (by simp) ?_ fun w5 hb5 hz5 he5 => ?_
    · intro u hu
      simp only [List.mem_cons, List.mem_nil_iff, or_false] at hu
      rcases hu with rfl | rfl
      · exact hkv.one1
      · rfl
    have hb5 : Blk w5 b [kv, u64 l[i].2] T_api_Pair := by simpa using hb5
    have hE35 : Ext No w1 w5 := he4.trans1 he5 (by omega)
    refine hb5.ld (o := 0) rfl ?_
    refine (c_May (hkv.extN hE35)).mono ?_
    rintro _ w6 ⟨rfl, rfl⟩
    by_cases hk : l[i].1.length ≤ 65535
    · rw [if_pos hk]
      refine xifF rfl ?_
      refine xi (r := ((i + 1 : Nat) : Int)) (by rw [wrapI (by omega)]; omega) ?_
      refine xnext (l.length - (i + 1)) (by omega) ⟨i + 1, _, _, rfl, rfl, by omega, fun p hp => ?_, he.transN hE35⟩
      rw [← List.take_append_getElem hil] at hp
      rcases List.mem_append.1 hp with e | e
      · exact hall p e
      · rw [List.mem_singleton.1 e]; exact hk
    · rw [if_neg hk]
      refine xifT rfl ⟨?_, he.transN hE35⟩
      rw [if_neg fun h => hk (h _ (List.getElem_mem hil))]
  · have : i = l.length := by omega
    subst this
    rw [List.take_length] at hall
    rw [if_pos hall]
    exact ⟨rfl, he⟩
theorem c_ready (h : TI B w wb n j V M F) (hr : M tb = some r) : Ret P n_load_ready [rp tb] w fun v w' => v = .int .i64 0 ∧ w' = w := by
  refine W_load_ready ?_
  refine (c_TLen h hr).mono ?_
  rintro _ w1 ⟨rfl, rfl⟩
  exact ⟨rfl, rfl⟩
theorem c_readyF (h : TI B w wb n j V M F) (hf : F tb) : Ret P n_load_ready [rp tb] w fun v w' => v = .int .i64 11 ∧ w' = w := by
  refine W_load_ready ?_
  refine (c_TLenF h hf).mono ?_
  rintro _ w1 ⟨rfl, rfl⟩
  exact ⟨rfl, rfl⟩
/-- loading into a transient -/
theorem c_Load (h : TI B w wb n j V M F) (hr : M tb = some r) (hv : Ps w v l) (hk : ∀ p ∈ l, p.1.length ≤ 65535) (hl : r.l.length + l.length ≤ 90000) :
    Ret P n_load_Load [rp tb, v] w fun rr w' => rr = .int .i64 0 ∧ VE B w w' ∧ ∃ n' t' M', TI B w' wb n' j V M' F ∧ M' tb = some ⟨r.o, r.vb, t', insL r.l l⟩ ∧ ∀ b, b ≠ tb → M' b = M b := by
  refine W_load_Load ?_
  refine (c_ready h hr).mono ?_
  rintro _ w1 ⟨rfl, rfl⟩
  refine xifF rfl ?_
  refine (c_may hv (by omega)).mono ?_
  rintro _ w2 ⟨rfl, he2⟩
  rw [if_pos hk]
  refine xifF rfl ?_
  have hv2 := hv.extN he2
  refine hv2.len ?_
  refine xloop (fun n vs w' => ∃ (i n' : Nat) (t' : T) (M' : Nat → Option TrR), vs = [.int .i64 i] ∧ n = l.length - i ∧ i ≤ l.length ∧ TI B w' wb n' j V M' F ∧ M' tb = some ⟨r.o, r.vb, t', insL r.l (l.take i)⟩ ∧ (∀ b, b ≠ tb → M' b = M b) ∧ VE B w1 w') l.length
    ⟨0, n, r.t, M, rfl, rfl, by omega, h.extN he2, by simpa [insL] using hr, fun _ _ => rfl, VE.no he2⟩ ?_
  rintro n2 vs g w3 ⟨i, n', t', M', rfl, rfl, hi, hT, hr', hM', hE⟩
  unfold S_load_Load_l1
  refine xifD (fun hlt => ?_) fun hge => ?_
  · have hil : i < l.length := by omega
    have hv3 := hE.ps hv
    have hln := insL_length r.l (l.take i)
    rw [List.length_take] at hln
    refine hv3.rd i rfl hil fun kv hkv => ?_
    refine xnew fun b w4 hb hblk hz4 he4 => ?_
    refine xstoreVar hblk (by kernel_rfl) (by simp) ?_ fun w5 hb5 hz5 he5 => ?_
    · intro u hu
      simp only [List.mem_cons, List.mem_nil_iff, or_false] at hu
      rcases hu with rfl | rfl
      · exact hkv.one1
      · rfl
    have hb5 : Blk w5 b [kv, u64 l[i].2] T_api_Pair := by simpa using hb5
    have hE35 : Ext No w3 w5 := he4.trans1 he5 (by omega)
    refine hb5.ld (o := 0) rfl ?_
    refine hb5.ld (o := 1) rfl ?_
    refine (c_TPut (hT.extN hE35) hr' (hkv.extN hE35) (hk _ (List.getElem_mem hil)) (hv3.get hil) (by show (insL r.l (l.take i)).length < _; omega)).mono ?_
    rintro _ w6 ⟨rfl, hE6, t3, n3, hT6, -⟩
    refine xi (r := ((i + 1 : Nat) : Int)) (by rw [wrapI (by omega)]; omega) ?_
    exact xnext (l.length - (i + 1)) (by omega) ⟨i + 1, n3, t3, _, rfl, rfl, by omega, hT6, by rw [insL_take hil]; exact updM_same _ _ _, fun b hb => (updM_other hb).trans (hM' b hb), (hE.transN hE35).trans hE6⟩
  · have : i = l.length := by omega
    subst this
    rw [List.take_length] at hr'
    exact ⟨rfl, hE, n', t', M', hT, hr', hM'⟩
/-- merging into a version -/
theorem c_Merge (h : VI B w wb n j V) (hvb : V vb = some (t, m)) (hv : Ps w v l) (hk : ∀ p ∈ l, p.1.length ≤ 65535) (hl : m.length + l.length ≤ 90000) (hj : j + 1 < 18446744073709551616) :
    Ret P n_load_Merge [rp vb, v] w fun rr w' => VE B w w' ∧ ∃ vb' t' n' V', rr = .tuple #[rp vb', .int .i64 0] ∧ VI B w' wb n' (j + 1) V' ∧ V' vb' = some (t', insL m l) ∧ ∀ b y, V b = some y → V' b = some y := by
  refine W_load_Merge ?_
  refine (c_Edit (TI.of h) hvb hj).mono ?_
  rintro _ w1 ⟨tb, rfl, htb, hT1, hE1⟩
  refine xifF rfl ?_
  refine (c_Load hT1 (updM_same _ _ _) (hE1.ps hv) hk hl).mono ?_
  rintro _ w2 ⟨rfl, hE2, n', t', M', hT2, hr2, -⟩
  refine xifF rfl ?_
  refine (c_TFreezeE hT2 hr2).mono ?_
  rintro _ w3 ⟨hE3, vb', V', t3, rfl, hT3, hv3, hk3, -, -⟩
  exact ⟨(hE1.trans hE2).trans hE3, vb', t3, n', V', rfl, hT3.vi, hv3, hk3⟩
/-- merging into nobody's version -/
theorem c_MergeN : Ret P n_load_Merge [.pointer none, v] w fun rr w' => rr = .tuple #[.pointer none, .int .i64 2] ∧ w' = w := by
  refine W_load_Merge ?_
  refine (c_EditN (.inl rfl)).mono ?_
  rintro _ w1 ⟨rfl, rfl⟩
  exact xifT rfl ⟨rfl, rfl⟩
/-- a version made afresh of pairs -/
theorem c_Fresh (h : VI B w wb n j V) (hv : Ps w v l) (hk : ∀ p ∈ l, p.1.length ≤ 65535) (hl : l.length ≤ 20000) (hj : j + 1 < 18446744073709551616) :
    Ret P n_load_Fresh [rp wb, v] w fun r w' => ∃ vb t, r = .tuple #[rp vb, .int .i64 0] ∧ V vb = none ∧ w.heap.size ≤ vb ∧ VI B w' wb (n + t.er.size) (j + 1) (updV V vb (t, sortK l)) ∧ VE B w w' := by
  refine W_load_Fresh ?_
  refine (c_loadSort hv hl (fun p hp => by have := hk p hp; omega) (Nat.le_trans h.fl h.sizeB)).mono ?_
  rintro vs w1 ⟨hvs, he1⟩
  refine (c_From (h.extN he1) hvs (Pr.sort (by omega) hk) hj).mono ?_
  rintro _ w2 ⟨vb, t, rfl, hn, hge, hI, -, hE⟩
  have := he1.size
  exact ⟨vb, t, rfl, hn, by omega, hI, (VE.no he1).trans hE⟩
theorem c_FreshN (hv : Ps w v l) (hk : ∀ p ∈ l, p.1.length ≤ 65535) (hl : l.length ≤ 20000) (hfl : Floor.n ≤ w.heap.size) :
    Ret P n_load_Fresh [.pointer none, v] w fun r w' => r = .tuple #[.pointer none, .int .i64 2] ∧ Ext No w w' := by
  refine W_load_Fresh ?_
  refine (c_loadSort hv hl (fun p hp => by have := hk p hp; omega) hfl).mono ?_
  rintro vs w1 ⟨hvs, he1⟩
  refine W_tree_World_From ?_
  exact xifT rfl ⟨rfl, he1⟩
/-- .. and with a key that is too long -/
theorem c_FreshBig (h : VI B w wb n j V) (hv : Ps w v l) (hk : ∃ p ∈ l, 65535 < p.1.length) (hkl : ∀ p ∈ l, p.1.length ≤ 1000000) (hl : l.length ≤ 20000) (hj : j + 1 < 18446744073709551616) :
    Ret P n_load_Fresh [rp wb, v] w fun r w' => r = .tuple #[.pointer none, .int .i64 8] ∧ VI B w' wb n (j + 1) V ∧ VE B w w' := by
  refine W_load_Fresh ?_
  refine (c_loadSort hv hl hkl (Nat.le_trans h.fl h.sizeB)).mono ?_
  rintro vs w1 ⟨hvs, he1⟩
  have h := h.extN he1
  refine W_tree_World_From ?_
  refine xifF rfl ?_
  refine (c_WMeter (j := j)).mono ?_
  rintro _ w2 ⟨rfl, rfl⟩
  refine (c_WOwner h.mt hj).mono ?_
  rintro _ w3 ⟨rfl, hm3, he3⟩
  have hI3 := h.step he3 hm3 (by omega)
  have hE3 := h.stepE he3
  have hln := sortK_length l
  have hbig : ¬ ∀ p ∈ sortK l, p.1.length ≤ 65535 := by
    obtain ⟨p, hp, hlen⟩ := hk
    intro hall
    have h1 : (lookL l p.1).isSome = true := by
      cases hq : lookL l p.1 with
      | some y => rfl
      | none => exact absurd rfl (look_none.1 hq p (List.mem_reverse.2 hp))
    rw [← sortK_look] at h1
    obtain ⟨y, hy⟩ := Option.isSome_iff_exists.1 h1
    have := hall _ (look_mem hy)
    have this : p.1.length ≤ 65535 := this
    omega
  refine (c_BuildNo (mt := some (wmt wb (j + 1))) (hE3.ps hvs) (by omega) (fun h => hbig h.1)).mono ?_
  rintro _ w4 ⟨rfl, he4⟩
  rw [if_neg hbig]
  refine xifT rfl ⟨rfl, hI3.extN he4, ((VE.no he1).trans hE3).transN he4⟩
end
end Go.Proofs.YtlhjfenpmnejoaaGreat
