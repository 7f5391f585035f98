/-  load: the stable sort, walked.  -/
import Derived.Test.YtlhjfenpmnejoaaGreatStb
import Derived.Test.YtlhjfenpmnejoaaGreatRefK
import Derived.Test.YtlhjfenpmnejoaaGreatSAt
namespace Go.Proofs.YtlhjfenpmnejoaaGreat
open Go Go.RowKit X
set_option linter.unusedSimpArgs false
set_option linter.unusedVariables false
set_option linter.unusedSectionVars false
theorem xifND {p : Prop} [Decidable p] {A B : Prop} (ha : ¬ p → A) (hb : p → B) : xIf (.bool (!decide p)) A B := by
  by_cases h : p
  · rw [decide_eq_true h]; exact hb h
  · rw [decide_eq_false h]; exact ha h
section
variable {α : Type} {P A B S U V W L : List α} {x y : α} {u i : Nat}
theorem swap_two' (hL : L = U ++ x :: (V ++ y :: W)) : (L.set (U.length + 1 + V.length) x).set U.length y = U ++ y :: (V ++ x :: W) := by
  rw [List.set_comm _ _ (by omega)]
  exact swap_two hL
theorem row_a (hi : i < A.length) : (U ++ (A ++ (B ++ S)))[U.length + i]? = some A[i] := by
  rw [List.getElem?_append_right (by omega), show U.length + i - U.length = i by omega, List.getElem?_append_left hi, List.getElem?_eq_getElem hi]
theorem row_b (hi : i < B.length) : (U ++ (A ++ (B ++ S)))[U.length + A.length + i]? = some B[i] := by
  rw [List.getElem?_append_right (by omega), List.getElem?_append_right (by omega), show U.length + A.length + i - U.length - A.length = i by omega, List.getElem?_append_left hi, List.getElem?_eq_getElem hi]
theorem row_1 : (U ++ x :: W)[U.length]? = some x := by simp
theorem insR_eq : insR P A S y u = P ++ ((A.take u ++ y :: A.drop u) ++ S) := by simp [insR]
theorem insR_zero : insR P A S y 0 = P ++ ([y] ++ (A ++ S)) := by simp [insR]
end
variable [Floor]
abbrev mp (L : List Tg) : Kv := L.map (·.1)
abbrev cmpV : Value := .func (.func n_load_Sort_1) #[] #[]
abbrev OX (v : Value) : Nat → Prop := fun b => v.ownBlock = some b
abbrev TR (w0 w : World) (v : Value) (L : List Tg) : Prop := SO w0 w T_api_Pair v (mp L)
section
variable {w0 w : World} {v : Value} {L U A B S X Y M : List Tg} {x y : Tg}
theorem c_sort1 {ka kb : Value} {a b : Key} {x y : Nat} (ha : Bs w ka a) (hb : Bs w kb b) : Ret P n_load_Sort_1 [.agg #[ka, u64 x], .agg #[kb, u64 y]] w fun r w' => r = .int .i64 (kcmp a b) ∧ Ext No w w' := by
  refine W_load_Sort_1 ?_
  show XNew w [ka, u64 x] T_api_Pair _
  refine xnew fun b1 w1 hb1 hblk1 hz1 he1 => ?_
  show XNew w1 [kb, u64 y] T_api_Pair _
  refine xnew fun b2 w2 hb2 hblk2 hz2 he2 => ?_
  have hblk1 : Blk w1 b1 [ka, u64 x] T_api_Pair := hblk1
  refine (hblk1.ext he2 fun h => h).ld (o := 0) rfl ?_
  refine hblk2.ld (o := 0) rfl ?_
  refine (c_Cmp (ha.extN (he1.transN he2)) (hb.extN (he1.transN he2))).mono ?_
  rintro _ w3 ⟨rfl, rfl⟩
  exact ⟨rfl, he1.transN he2⟩
set_option maxRecDepth 100000 in
theorem x_cmp {K : Value → World → Prop} {ka kb : Value} {a b : Key} {x y : Nat} (ha : Bs w ka a) (hb : Bs w kb b) (k : ∀ w', Ext No w w' → K (.int .i64 (kcmp a b)) w') :
    xFunc cmpV [.agg #[ka, u64 x], .agg #[kb, u64 y]] fun f xs => xCall P f xs w K := by
  refine xfunc ?_
  refine xcall_ret (by kernel_rfl) ?_
  refine (c_sort1 ha hb).mono ?_
  rintro _ w' ⟨rfl, he⟩
  exact k w' he
theorem TR.rd {K : Value → Prop} {kd : IntKind} {i : Int} (h : TR w0 w v L) (m : Nat) (hi : i = (m : Int)) (hx : L[m]? = some x) (k : ∀ kv, Bs w0 kv x.1.1 → x.1.2 < 18446744073709551616 → K (.agg #[kv, u64 x.1.2])) :
    xIxS v (.int kd i) 2 fun u => xAt u fun a => XLdN w a 2 K := by
  obtain ⟨hm, rfl⟩ := List.getElem?_eq_some_iff.1 hx
  have hm' : m < (mp L).length := by rw [List.length_map]; exact hm
  have e : (mp L)[m] = L[m].1 := List.getElem_map _
  refine SO.rd h m hi hm' fun kv hk h64 => ?_
  rw [e] at hk h64 ⊢
  exact k kv hk h64
/-- an element is written -/
theorem TR.st {K : World → Prop} {kd : IntKind} {i : Int} {kv : Value} (h : TR w0 w v L) (m : Nat) (hi : i = (m : Int)) (hm : m < L.length) (hk : Bs w0 kv x.1.1) (hn : x.1.2 < 18446744073709551616)
    (k : ∀ w1, TR w0 w1 v (L.set m x) → Ext (OX v) w w1 → K w1) : xIxS v (.int kd i) 2 fun u => xAt u fun a => XDo P (storeVar T_api_Pair a (.agg #[kv, u64 x.1.2])) w K := by
  refine SO.stP h m hi (by rw [List.length_map]; exact hm) hk hn (by kernel_rfl) fun w1 h1 e1 => k w1 ?_ e1
  show SO w0 w1 T_api_Pair v ((L.set m x).map (·.1))
  rw [List.map_set]; exact h1
/-- two elements change places: what stands at p is written at q, and then the other way round -/
theorem TR.st2 {K : World → Prop} {kd kd' : IntKind} {i j : Int} {kx ky : Value} (h : TR w0 w v L) (p q : Nat) (hi : i = (q : Int)) (hj : j = (p : Int)) (hp : p < L.length) (hq : q < L.length) (hkx : Bs w0 kx x.1.1) (hx : x.1.2 < 18446744073709551616) (hky : Bs w0 ky y.1.1) (hy : y.1.2 < 18446744073709551616)
    (k : ∀ w1, TR w0 w1 v ((L.set q x).set p y) → Ext (OX v) w w1 → K w1) :
    xIxS v (.int kd i) 2 fun u => xAt u fun a => XDo P (storeVar T_api_Pair a (.agg #[kx, u64 x.1.2])) w fun w1 => xIxS v (.int kd' j) 2 fun u => xAt u fun a => XDo P (storeVar T_api_Pair a (.agg #[ky, u64 y.1.2])) w1 K := by
  refine h.st q hi hq hkx hx fun w1 h1 e1 => ?_
  exact h1.st p hj (by rw [List.length_set]; exact hp) hky hy fun w2 h2 e2 => k w2 h2 (e1.transS e2)
theorem TR.swap {K : World → Prop} {k1 k2 k3 k4 : IntKind} {i1 i2 i3 i4 : Int} (h : TR w0 w v L) (p q : Nat) (h1 : i1 = (p : Int)) (h2 : i2 = (q : Int)) (h3 : i3 = (q : Int)) (h4 : i4 = (p : Int)) (hp : L[p]? = some x) (hq : L[q]? = some y)
    (k : ∀ w1, TR w0 w1 v ((L.set q x).set p y) → Ext (OX v) w w1 → K w1) :
    xIxS v (.int k1 i1) 2 fun u => xAt u fun a => XLdN w a 2 fun X => xIxS v (.int k2 i2) 2 fun u => xAt u fun a => XLdN w a 2 fun Y => xIxS v (.int k3 i3) 2 fun u => xAt u fun a => XDo P (storeVar T_api_Pair a X) w fun w1 => xIxS v (.int k4 i4) 2 fun u => xAt u fun a => XDo P (storeVar T_api_Pair a Y) w1 K := by
  refine h.rd p h1 hp fun kx hkx hx => ?_
  refine h.rd q h2 hq fun ky hky hy => ?_
  exact h.st2 p q h3 h4 (List.getElem?_eq_some_iff.1 hp).1 (List.getElem?_eq_some_iff.1 hq).1 hkx hx hky hy k
theorem TR.drew (h : TR w0 w v L) : TR w0 w.drew v L := SO.extN h (Ext.drew (Ext.refl No w))
theorem TR.extN {w' : World} (h : TR w0 w v L) (e : Ext No w w') : TR w0 w' v L := SO.extN h e
theorem TR.own {w' : World} (h : TR w0 w v L) (he : Ext No w0 w) (k : Ext (OX v) w w') : Ext No w0 w' := SO.own h he k
theorem TR.len (h : TR w0 w v L) (hL : A.length = L.length) : True := trivial
set_option maxRecDepth 100000 in
set_option maxHeartbeats 1000000 in
/-- insertion sort of a part -/
theorem c_insertion (h : TR w0 w v (U ++ (A ++ S))) (he : Ext No w0 w) (hA : A.Pairwise fun x y => x.2 < y.2) {a b : Nat} (ha : U.length = a) (hb : a + A.length = b) (hbig : b ≤ 1000000) :
    Ret P n_slices_insertionSortCmpFunc_Pair [v, .int .i64 a, .int .i64 b, cmpV] w fun r w' => ∃ C, Srt C ∧ C.Perm A ∧ TR w0 w' v (U ++ (C ++ S)) ∧ Ext (OX v) w w' := by
  subst ha; subst hb
  refine W_slices_insertionSortCmpFunc_Pair ?_
  refine xi (r := ((U.length + 1 : Nat) : Int)) (by rw [wrapI (by omega)]; omega) ?_
  refine xloop (fun n vs w' => ∃ (m : Nat) (C : List Tg) (z : Value), vs = [.int .i64 ((U.length + m : Nat) : Int), z] ∧ n = A.length - m ∧ 1 ≤ m ∧ m ≤ max 1 A.length ∧ Srt C ∧ C.Perm (A.take m) ∧ TR w0 w' v (U ++ (C ++ (A.drop m ++ S))) ∧ Ext (OX v) w w') (A.length - 1)
    ⟨1, A.take 1, _, rfl, rfl, by omega, by omega, ?_, List.Perm.refl _, ?_, Ext.refl _ _⟩ ?_
  · cases A with
    | nil => exact List.Pairwise.nil
    | cons x r => exact List.pairwise_singleton _ _
  · rw [← List.append_assoc (A.take 1), List.take_append_drop]; exact h
  rintro n vs g w1 ⟨m, C, z, rfl, rfl, hm1, hm2, hC, hp, hR, hX⟩
  unfold S_slices_insertionSortCmpFunc_Pair_l2
  refine xifD (fun hlt => ?_) fun hge => ?_
  · have hm : m < A.length := by omega
    have hCl : C.length = m := by rw [hp.length_eq, List.length_take]; omega
    have hAm : A.drop m = A[m] :: A.drop (m + 1) := List.drop_eq_getElem_cons hm
    have htg : ∀ x ∈ C, x.2 < A[m].2 := by
      intro x hx
      have h1 := hp.mem_iff.1 hx
      rw [← List.take_append_drop m A] at hA
      exact (List.pairwise_append.1 hA).2.2 x h1 A[m] (by rw [hAm]; exact List.mem_cons_self)
    rw [hAm] at hR
    generalize A[m] = y at hR htg hAm
    have hR : TR w0 w1 v (insR U C (A.drop (m + 1) ++ S) y C.length) := by rw [insR_len]; exact hR
    refine xloop (fun n vs w' => ∃ t : Nat, vs = [.int .i64 ((U.length + t : Nat) : Int)] ∧ n = t ∧ t ≤ C.length ∧ TR w0 w' v (insR U C (A.drop (m + 1) ++ S) y t) ∧ (∀ h : t < C.length, klt y.1.1 C[t].1.1) ∧ Ext (OX v) w w') C.length
      ⟨C.length, by rw [hCl]; rfl, rfl, Nat.le_refl _, hR, fun h => absurd h (by omega), hX⟩ ?_
    rintro n vs g w2 ⟨t, rfl, hnt, ht, hR2, hlt2, hX2⟩
    unfold S_slices_insertionSortCmpFunc_Pair_l1
    have hE2 := h.own he hX2
    refine xj (fun vs w' => ∃ q : Bool, vs = [.bool q] ∧ Ext No w2 w' ∧ (q = true ↔ ∃ h : 0 < t, klt y.1.1 C[t - 1].1.1)) ?_ ?_
    · refine xifD (fun h0 => ?_) fun h0 => ⟨false, rfl, Ext.drew (Ext.refl No w2), by constructor; (intro h; cases h); (rintro ⟨h, -⟩; omega)⟩
      have h0 : 0 < t := by omega
      have hU : (U ++ C.take (t - 1)).length = U.length + (t - 1) := by rw [List.length_append, List.length_take]; omega
      have hF := hR2.drew
      rw [insR_form h0 ht] at hF
      refine hF.rd (U.length + t) rfl (x := y) (by have := at_second (U := U ++ C.take (t - 1)) (x := C[t - 1]) (V := []) (y := y) (W := C.drop t ++ (A.drop (m + 1) ++ S)); rw [hU] at this; rw [show U.length + t = U.length + (t - 1) + 1 + ([] : List Tg).length by simp; omega]; exact this) fun ky hky hy => ?_
      refine xi (r := ((U.length + (t - 1) : Nat) : Int)) (by rw [wrapI (by omega)]; omega) ?_
      refine hF.rd (U.length + (t - 1)) rfl (x := C[t - 1]) (by have := at_first (U := U ++ C.take (t - 1)) (x := C[t - 1]) (V := []) (y := y) (W := C.drop t ++ (A.drop (m + 1) ++ S)); rw [hU] at this; exact this) fun kx hkx hx => ?_
      have hE2d := hE2.drew
      refine x_cmp (hky.extN hE2d) (hkx.extN hE2d) fun w3 he3 => ?_
      refine ⟨_, rfl, (Ext.drew (Ext.refl No w2)).transN he3, ?_⟩
      rw [decide_eq_true_iff]
      exact ⟨fun h => ⟨h0, h⟩, fun ⟨_, h⟩ => h⟩
    rintro vs g w3 ⟨q, rfl, he3, hq⟩
    have hR3 := hR2.extN he3
    have hX3 := hX2.transN he3
    cases q with
    | true =>
      obtain ⟨h0, hk⟩ := hq.1 rfl
      refine xifT rfl ?_
      refine xi (r := ((U.length + (t - 1) : Nat) : Int)) (by rw [wrapI (by omega)]; omega) ?_
      refine xi (r := ((U.length + (t - 1) : Nat) : Int)) (by rw [wrapI (by omega)]; omega) ?_
      have hU : (U ++ C.take (t - 1)).length = U.length + (t - 1) := by rw [List.length_append, List.length_take]; omega
      have hF := hR3.drew
      rw [insR_form h0 ht] at hF
      have a1 := at_first (U := U ++ C.take (t - 1)) (x := C[t - 1]) (V := []) (y := y) (W := C.drop t ++ (A.drop (m + 1) ++ S))
      have a2 := at_second (U := U ++ C.take (t - 1)) (x := C[t - 1]) (V := []) (y := y) (W := C.drop t ++ (A.drop (m + 1) ++ S))
      have hq2 : (U ++ C.take (t - 1)).length + 1 + ([] : List Tg).length = U.length + t := by rw [hU]; simp; omega
      rw [hq2] at a2
      rw [hU] at a1
      refine hF.swap (U.length + (t - 1)) (U.length + t) rfl rfl rfl rfl a1 a2 fun w4 h4 e4 => ?_
      have es := swap_two' (U := U ++ C.take (t - 1)) (x := C[t - 1]) (V := []) (y := y) (W := C.drop t ++ (A.drop (m + 1) ++ S)) rfl
      rw [hq2, hU, insR_next h0 ht] at es
      rw [es] at h4
      refine xi (r := ((U.length + (t - 1) : Nat) : Int)) (by rw [wrapI (by omega)]; omega) ?_
      exact xnext (t - 1) (by omega) ⟨t - 1, rfl, rfl, by omega, h4, fun _ => hk, (hX3.drew).transS e4⟩
    | false =>
      refine xifF rfl ?_
      refine xi (r := ((U.length + (m + 1) : Nat) : Int)) (by rw [wrapI (by omega)]; omega) ?_
      obtain ⟨k1, k2⟩ := ins_back (A := C) (y := y) hC htg ht (fun j h0 hk => by have := hq.2 ⟨h0, hk⟩; cases this) hlt2
      refine xnext (A.length - (m + 1)) (by omega) ⟨m + 1, _, _, rfl, rfl, by omega, by omega, k1, ?_, by rw [insR_eq] at hR3; exact hR3, hX3⟩
      refine k2.trans ?_
      have e1 : A.take (m + 1) = A.take m ++ [y] := by
        have h1 := List.take_add (l := A) (i := m) (j := 1)
        rw [hAm] at h1
        simpa using h1
      rw [e1]
      exact List.Perm.append_right _ hp
  · have e1 : A.drop m = [] := List.drop_of_length_le (by omega)
    have e2 : A.take m = A := List.take_of_length_le (by omega)
    rw [e1] at hR
    rw [e2] at hp
    exact ⟨C, hC, hp, by simpa using hR, hX⟩
/-- two blocks of n change places -/
theorem c_swapR (h : TR w0 w v (U ++ (X ++ (M ++ (Y ++ S))))) (he : Ext No w0 w) {a b n : Nat} {z : Value} (ha : U.length = a) (hb : a + n + M.length = b) (hX : X.length = n) (hY : Y.length = n) (hbig : b + n ≤ 1000000) :
    Ret P n_slices_swapRangeCmpFunc_Pair [v, .int .i64 a, .int .i64 b, .int .i64 n, z] w fun r w' => TR w0 w' v (U ++ (Y ++ (M ++ (X ++ S)))) ∧ Ext (OX v) w w' := by
  refine W_slices_swapRangeCmpFunc_Pair ?_
  refine xloop (fun k vs w' => ∃ i : Nat, vs = [.int .i64 i] ∧ k = n - i ∧ i ≤ n ∧ TR w0 w' v (swR U X M Y S i) ∧ Ext (OX v) w w') n ⟨0, rfl, rfl, by omega, by rw [swR_zero]; exact h, Ext.refl _ _⟩ ?_
  rintro k vs g w1 ⟨i, rfl, rfl, hi, hR, hE⟩
  unfold S_slices_swapRangeCmpFunc_Pair_l1
  refine xifD (fun hlt => ?_) fun hge => ?_
  · have hin : i < n := by omega
    refine xi (r := ((a + i : Nat) : Int)) (by rw [wrapI (by omega)]; omega) ?_
    refine xi (r := ((b + i : Nat) : Int)) (by rw [wrapI (by omega)]; omega) ?_
    refine xi (r := ((b + i : Nat) : Int)) (by rw [wrapI (by omega)]; omega) ?_
    have hF := hR.drew
    rw [swR_form hX hY hin] at hF
    have a1 := at_first (U := U ++ Y.take i) (x := X[i]) (V := X.drop (i + 1) ++ (M ++ X.take i)) (y := Y[i]) (W := Y.drop (i + 1) ++ S)
    have a2 := at_second (U := U ++ Y.take i) (x := X[i]) (V := X.drop (i + 1) ++ (M ++ X.take i)) (y := Y[i]) (W := Y.drop (i + 1) ++ S)
    have es := swap_two (U := U ++ Y.take i) (x := X[i]) (V := X.drop (i + 1) ++ (M ++ X.take i)) (y := Y[i]) (W := Y.drop (i + 1) ++ S) rfl
    have hU : (U ++ Y.take i).length = a + i := by rw [List.length_append, List.length_take]; omega
    have hV : (U ++ Y.take i).length + 1 + (X.drop (i + 1) ++ (M ++ X.take i)).length = b + i := by rw [hU]; simp only [List.length_append, List.length_drop, List.length_take]; omega
    rw [hV, hU, swR_next hX hY hin] at es
    rw [hV] at a2
    rw [hU] at a1
    refine hF.rd (b + i) rfl a2 fun ky hky hy => ?_
    refine xi (r := ((a + i : Nat) : Int)) (by rw [wrapI (by omega)]; omega) ?_
    refine hF.rd (a + i) rfl a1 fun kx hkx hx => ?_
    refine hF.st2 (b + i) (a + i) rfl rfl (List.getElem?_eq_some_iff.1 a2).1 (List.getElem?_eq_some_iff.1 a1).1 hky hy hkx hx fun w2 h2 e2 => ?_
    rw [es] at h2
    refine xi (r := ((i + 1 : Nat) : Int)) (by rw [wrapI (by omega)]; omega) ?_
    exact xnext (n - (i + 1)) (by omega) ⟨i + 1, rfl, rfl, by omega, h2, hE.drew.transS e2⟩
  · have : i = n := by omega
    subst this
    rw [swR_all hX hY] at hR
    exact ⟨hR, hE⟩
theorem c_rotate {Z : List Tg} {a m b : Nat} {z : Value} (h : TR w0 w v L) (hZ : RotI Z L a (m - a) (b - m)) (he : Ext No w0 w) (ham : a < m) (hmb : m < b) (hbig : b ≤ 100000) :
    Ret P n_slices_rotateCmpFunc_Pair [v, .int .i64 a, .int .i64 m, .int .i64 b, z] w fun r w' => TR w0 w' v Z ∧ Ext (OX v) w w' := by
  refine W_slices_rotateCmpFunc_Pair ?_
  refine xi (r := ((m - a : Nat) : Int)) (by rw [wrapI (by omega)]; omega) ?_
  refine xi (r := ((b - m : Nat) : Int)) (by rw [wrapI (by omega)]; omega) ?_
  refine xloop (fun k vs w' => ∃ (i j : Nat) (L' : List Tg), vs = [.int .i64 i, .int .i64 j] ∧ k = i + j ∧ 0 < i ∧ 0 < j ∧ i ≤ m ∧ m + j ≤ b ∧ TR w0 w' v L' ∧ RotI Z L' (m - i) i j ∧ Ext (OX v) w w') ((m - a) + (b - m))
    ⟨m - a, b - m, L, rfl, rfl, by omega, by omega, by omega, by omega, h, by rw [show m - (m - a) = a by omega]; exact hZ, Ext.refl _ _⟩ ?_
  rintro k vs g w1 ⟨i, j, L', rfl, rfl, hi, hj, him, hjb, hR, hI, hX⟩
  unfold S_slices_rotateCmpFunc_Pair_l1
  have hE := h.own he hX
  refine xifN (fun hne => ?_) fun heq => ?_
  · refine xifD (fun hgt => ?_) fun hle => ?_
    · obtain ⟨P1, X1, M1, Y1, S1, rfl, l1, l2, l3, l4, hI2⟩ := hI.ahead (show j < i by omega)
      refine xi (r := ((m - i : Nat) : Int)) (by rw [wrapI (by omega)]; omega) ?_
      refine (c_swapR (a := m - i) (b := m) (n := j) hR hE l1 (by omega) l2 l4 (by omega)).mono ?_
      rintro _ w2 ⟨hR2, hX2⟩
      refine xi (r := ((i - j : Nat) : Int)) (by rw [wrapI (by omega)]; omega) ?_
      exact xnext (i - j + j) (by omega) ⟨i - j, j, _, rfl, rfl, by omega, hj, by omega, hjb, hR2, by rw [show m - (i - j) = m - i + j by omega]; exact hI2, hX.transS hX2⟩
    · obtain ⟨P1, X1, M1, Y1, S1, rfl, l1, l2, l3, l4, hI2⟩ := hI.back (show i < j by omega)
      refine xi (r := ((m - i : Nat) : Int)) (by rw [wrapI (by omega)]; omega) ?_
      refine xi (r := ((m + j : Nat) : Int)) (by rw [wrapI (by omega)]; omega) ?_
      refine xi (r := ((m + j - i : Nat) : Int)) (by rw [wrapI (by omega)]; omega) ?_
      refine (c_swapR (a := m - i) (b := m + j - i) (n := i) hR hE l1 (by omega) l2 l4 (by omega)).mono ?_
      rintro _ w2 ⟨hR2, hX2⟩
      refine xi (r := ((j - i : Nat) : Int)) (by rw [wrapI (by omega)]; omega) ?_
      exact xnext (i + (j - i)) (by omega) ⟨i, j - i, _, rfl, rfl, hi, by omega, him, by omega, hR2, hI2, hX.transS hX2⟩
  · have e : i = j := by omega
    subst e
    obtain ⟨P1, X1, Y1, S1, rfl, l1, l2, l3, rfl⟩ := hI.last
    refine xi (r := ((m - i : Nat) : Int)) (by rw [wrapI (by omega)]; omega) ?_
    refine (c_swapR (a := m - i) (b := m) (n := i) hR hE l1 (by simp; omega) l2 l3 (by omega)).mono ?_
    rintro _ w2 ⟨hR2, hX2⟩
    exact ⟨hR2, hX.transS hX2⟩
end
end Go.Proofs.YtlhjfenpmnejoaaGreat
