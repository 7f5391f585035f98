/-  load: symMerge and the stable sort, walked.  -/
import Derived.Test.YtlhjfenpmnejoaaGreatSrt
namespace Go.Proofs.YtlhjfenpmnejoaaGreat
open Go Go.RowKit X
set_option linter.unusedSimpArgs false
set_option linter.unusedVariables false
set_option linter.unusedSectionVars false
variable [Floor]
section
variable {w0 : World} {v : Value}
theorem insR_up {P A S : List Tg} {y : Tg} {t : Nat} (ht : t < A.length) : insR P A S y t = (P ++ A.take t) ++ y :: ([] ++ A[t] :: (A.drop (t + 1) ++ S)) ∧ insR P A S y (t + 1) = (P ++ A.take t) ++ A[t] :: ([] ++ y :: (A.drop (t + 1) ++ S)) := by
  have h1 := insR_next (P := P) (A := A) (S := S) (y := y) (u := t + 1) (by omega) (by omega)
  have h2 := insR_form (P := P) (A := A) (S := S) (y := y) (u := t + 1) (by omega) (by omega)
  exact ⟨h1.symm, h2⟩
set_option maxRecDepth 100000 in
set_option maxHeartbeats 1000000 in
/-- one element ahead of a sorted row -/
theorem c_symA {w : World} {U B S : List Tg} {x : Tg} {a m b : Nat} (h : TR w0 w v (U ++ ([x] ++ (B ++ S)))) (he : Ext No w0 w) (hB : Srt B) (ht : ∀ y ∈ B, x.2 < y.2) (hU : U.length = a) (hm : a + 1 = m) (hb : m + B.length = b) (hbig : b ≤ 100000) {K : Value → World → Prop}
    (k : ∀ w', (∃ C, Srt C ∧ C.Perm ([x] ++ B) ∧ TR w0 w' v (U ++ (C ++ S)) ∧ Ext (OX v) w w') → K (.tuple #[]) w') :
    XLoop [.int .i64 m, .int .i64 b, undef] w (S_slices_symMergeCmpFunc_Pair_l2 K v (.int .i64 a) cmpV) := by
  refine xloop (fun n vs w' => ∃ (s r : Nat) (z : Value), vs = [.int .i64 ((m + s : Nat) : Int), .int .i64 ((m + r : Nat) : Int), z] ∧ n = r - s ∧ s ≤ r ∧ r ≤ B.length ∧ (∀ h : s - 1 < B.length, 0 < s → klt B[s - 1].1.1 x.1.1) ∧ (∀ h : r < B.length, ¬ klt B[r].1.1 x.1.1) ∧ Ext No w w') B.length
    ⟨0, B.length, _, by rw [hb]; rfl, rfl, by omega, by omega, fun _ h => absurd h (by omega), fun h => absurd h (by omega), Ext.refl _ _⟩ ?_
  rintro n vs g w1 ⟨s, r, z, rfl, rfl, hsr, hr, h1, h2, he1⟩
  unfold S_slices_symMergeCmpFunc_Pair_l2
  have hR := h.extN he1
  refine xifD (fun hlt => ?_) fun hge => ?_
  · have htl : (s + r) / 2 < B.length := by omega
    refine xi (r := ((m + s + (m + r) : Nat) : Int)) (by rw [wrapI (by omega)]; omega) ?_
    refine xi (r := ((m + s + (m + r) : Nat) : Int)) (wrapU64 (by omega)) ?_
    refine xi (r := (((m + s + (m + r)) / 2 : Nat) : Int)) half ?_
    refine xi (r := ((m + (s + r) / 2 : Nat) : Int)) (by rw [wrapI (by omega)]; omega) ?_
    have hF := hR.drew
    refine hF.rd (m + (s + r) / 2) rfl (x := B[(s + r) / 2]) (by
      have := row_b (U := U) (A := [x]) (B := B) (S := S) htl
      rw [show U.length + [x].length + (s + r) / 2 = m + (s + r) / 2 by simp; omega] at this
      exact this) fun ky hky hy => ?_
    refine hF.rd a rfl (x := x) (by rw [← hU]; exact row_1) fun kx hkx hx => ?_
    have hE := ((he.transN he1).drew)
    refine x_cmp (hky.extN hE) (hkx.extN hE) fun w2 he2 => ?_
    have hX := he1.drew.transN he2
    refine xifD (fun hk => ?_) fun hk => ?_
    · refine xi (r := ((m + ((s + r) / 2 + 1) : Nat) : Int)) (by rw [wrapI (by omega)]; omega) ?_
      exact xnext (r - ((s + r) / 2 + 1)) (by omega) ⟨(s + r) / 2 + 1, r, _, rfl, rfl, by omega, hr, fun _ _ => hk, h2, hX⟩
    · exact xnext ((s + r) / 2 - s) (by omega) ⟨s, (s + r) / 2, _, rfl, rfl, by omega, by omega, h1, fun _ => hk, hX⟩
  · have e : s = r := by omega
    subst e
    obtain ⟨c1, c2⟩ := ins_ahead hB ht hr h1 h2
    refine xloop (fun n vs w' => ∃ t : Nat, vs = [.int .i64 ((a + t : Nat) : Int)] ∧ n = s - t ∧ t ≤ s ∧ TR w0 w' v (insR U B S x t) ∧ Ext (OX v) w w') s ⟨0, rfl, rfl, by omega, by rw [insR_zero]; exact hR, he1.mono fun _ _ h => h.elim⟩ ?_
    rintro n vs g w2 ⟨t, rfl, rfl, hts, hR2, hX2⟩
    unfold S_slices_symMergeCmpFunc_Pair_l1
    refine xi (r := ((a + s : Nat) : Int)) (by rw [wrapI (by omega)]; omega) ?_
    refine xifD (fun hlt2 => ?_) fun hge2 => ?_
    · have hts2 : t < s := by omega
      refine xi (r := ((a + t + 1 : Nat) : Int)) (by rw [wrapI (by omega)]; omega) ?_
      refine xi (r := ((a + t + 1 : Nat) : Int)) (by rw [wrapI (by omega)]; omega) ?_
      obtain ⟨f1, f2⟩ := insR_up (P := U) (A := B) (S := S) (y := x) (t := t) (by omega)
      have hF := hR2.drew
      rw [f1] at hF
      have a1 := at_first (U := U ++ B.take t) (x := x) (V := []) (y := B[t]) (W := B.drop (t + 1) ++ S)
      have a2 := at_second (U := U ++ B.take t) (x := x) (V := []) (y := B[t]) (W := B.drop (t + 1) ++ S)
      have es := swap_two (U := U ++ B.take t) (x := x) (V := []) (y := B[t]) (W := B.drop (t + 1) ++ S) rfl
      have hUl : (U ++ B.take t).length = a + t := by rw [List.length_append, List.length_take]; omega
      have hVl : (U ++ B.take t).length + 1 + ([] : List Tg).length = a + t + 1 := by rw [hUl]; simp
      rw [hVl, hUl, ← f2] at es
      rw [hVl] at a2
      rw [hUl] at a1
      refine hF.swap (a + t + 1) (a + t) rfl rfl rfl rfl a2 a1 fun w3 h3 e3 => ?_
      rw [es] at h3
      refine xi (r := ((a + (t + 1) : Nat) : Int)) (by rw [wrapI (by omega)]; omega) ?_
      exact xnext (s - (t + 1)) (by omega) ⟨t + 1, rfl, rfl, by omega, h3, hX2.drew.transS e3⟩
    · have e : t = s := by omega
      subst e
      rw [insR_eq] at hR2
      exact k w2 ⟨_, c1, c2, hR2, hX2⟩
set_option maxRecDepth 100000 in
set_option maxHeartbeats 1000000 in
/-- one element behind a sorted row -/
theorem c_symB {w : World} {U A S : List Tg} {y : Tg} {a m : Nat} (h : TR w0 w v (U ++ (A ++ ([y] ++ S)))) (he : Ext No w0 w) (hA : Srt A) (ht : ∀ x ∈ A, x.2 < y.2) (hU : U.length = a) (hm : a + A.length = m) (hbig : m + 1 ≤ 100000) {K : Value → World → Prop}
    (k : ∀ w', (∃ C, Srt C ∧ C.Perm (A ++ [y]) ∧ TR w0 w' v (U ++ (C ++ S)) ∧ Ext (OX v) w w') → K (.tuple #[]) w') :
    XLoop [.int .i64 a, .int .i64 m, undef] w (S_slices_symMergeCmpFunc_Pair_l4 K v (.int .i64 m) cmpV) := by
  refine xloop (fun n vs w' => ∃ (s r : Nat) (z : Value), vs = [.int .i64 ((a + s : Nat) : Int), .int .i64 ((a + r : Nat) : Int), z] ∧ n = r - s ∧ s ≤ r ∧ r ≤ A.length ∧ (∀ h : s - 1 < A.length, 0 < s → ¬ klt y.1.1 A[s - 1].1.1) ∧ (∀ h : r < A.length, klt y.1.1 A[r].1.1) ∧ Ext No w w') A.length
    ⟨0, A.length, _, by rw [hm]; rfl, rfl, by omega, by omega, fun _ h => absurd h (by omega), fun h => absurd h (by omega), Ext.refl _ _⟩ ?_
  rintro n vs g w1 ⟨s, r, z, rfl, rfl, hsr, hr, h1, h2, he1⟩
  unfold S_slices_symMergeCmpFunc_Pair_l4
  have hR := h.extN he1
  refine xifD (fun hlt => ?_) fun hge => ?_
  · have htl : (s + r) / 2 < A.length := by omega
    refine xi (r := ((a + s + (a + r) : Nat) : Int)) (by rw [wrapI (by omega)]; omega) ?_
    refine xi (r := ((a + s + (a + r) : Nat) : Int)) (wrapU64 (by omega)) ?_
    refine xi (r := (((a + s + (a + r)) / 2 : Nat) : Int)) half ?_
    refine xi (r := ((a + (s + r) / 2 : Nat) : Int)) (by rw [wrapI (by omega)]; omega) ?_
    have hF := hR.drew
    refine hF.rd m rfl (x := y) (by
      have := row_b (U := U) (A := A) (B := [y]) (S := S) (i := 0) (by simp)
      rw [show U.length + A.length + 0 = m by omega] at this
      exact this) fun ky hky hy => ?_
    refine hF.rd (a + (s + r) / 2) rfl (x := A[(s + r) / 2]) (by
      have := row_a (U := U) (A := A) (B := [y]) (S := S) htl
      rw [hU] at this
      exact this) fun kx hkx hx => ?_
    have hE := ((he.transN he1).drew)
    refine x_cmp (hky.extN hE) (hkx.extN hE) fun w2 he2 => ?_
    have hX := he1.drew.transN he2
    refine xifND (fun hk => ?_) fun hk => ?_
    · refine xi (r := ((a + ((s + r) / 2 + 1) : Nat) : Int)) (by rw [wrapI (by omega)]; omega) ?_
      exact xnext (r - ((s + r) / 2 + 1)) (by omega) ⟨(s + r) / 2 + 1, r, _, rfl, rfl, by omega, hr, fun _ _ => hk, h2, hX⟩
    · exact xnext ((s + r) / 2 - s) (by omega) ⟨s, (s + r) / 2, _, rfl, rfl, by omega, by omega, h1, fun _ => hk, hX⟩
  · have e : s = r := by omega
    subst e
    obtain ⟨c1, c2⟩ := ins_back hA ht hr h1 h2
    refine xloop (fun n vs w' => ∃ t : Nat, vs = [.int .i64 ((a + t : Nat) : Int)] ∧ n = t - s ∧ s ≤ t ∧ t ≤ A.length ∧ TR w0 w' v (insR U A S y t) ∧ Ext (OX v) w w') (A.length - s) ⟨A.length, by rw [hm], rfl, by omega, by omega, by rw [insR_len]; exact hR, he1.mono fun _ _ h => h.elim⟩ ?_
    rintro n vs g w2 ⟨t, rfl, rfl, hts, htA, hR2, hX2⟩
    unfold S_slices_symMergeCmpFunc_Pair_l3
    refine xifD (fun hlt2 => ?_) fun hge2 => ?_
    · have hts2 : s < t := by omega
      have h0 : 0 < t := by omega
      refine xi (r := ((a + (t - 1) : Nat) : Int)) (by rw [wrapI (by omega)]; omega) ?_
      refine xi (r := ((a + (t - 1) : Nat) : Int)) (by rw [wrapI (by omega)]; omega) ?_
      have hF := hR2.drew
      rw [insR_form h0 htA] at hF
      have a1 := at_first (U := U ++ A.take (t - 1)) (x := A[t - 1]) (V := []) (y := y) (W := A.drop t ++ S)
      have a2 := at_second (U := U ++ A.take (t - 1)) (x := A[t - 1]) (V := []) (y := y) (W := A.drop t ++ S)
      have es := swap_two' (U := U ++ A.take (t - 1)) (x := A[t - 1]) (V := []) (y := y) (W := A.drop t ++ S) rfl
      have hUl : (U ++ A.take (t - 1)).length = a + (t - 1) := by rw [List.length_append, List.length_take]; omega
      have hVl : (U ++ A.take (t - 1)).length + 1 + ([] : List Tg).length = a + t := by rw [hUl]; simp; omega
      rw [hVl, hUl, insR_next h0 htA] at es
      rw [hVl] at a2
      rw [hUl] at a1
      refine hF.swap (a + (t - 1)) (a + t) rfl rfl rfl rfl a1 a2 fun w3 h3 e3 => ?_
      rw [es] at h3
      refine xi (r := ((a + (t - 1) : Nat) : Int)) (by rw [wrapI (by omega)]; omega) ?_
      exact xnext (t - 1 - s) (by omega) ⟨t - 1, rfl, rfl, by omega, by omega, h3, hX2.drew.transS e3⟩
    · have e : t = s := by omega
      subst e
      rw [insR_eq] at hR2
      exact k w2 ⟨_, c1, c2, hR2, hX2⟩
set_option maxRecDepth 100000 in
set_option maxHeartbeats 2000000 in
theorem c_symMerge : ∀ (k : Nat) {w : World} {U A B S : List Tg} {a m b : Nat}, A.length + B.length ≤ k → TR w0 w v (U ++ (A ++ (B ++ S))) → Ext No w0 w → Srt A → Srt B → (∀ x ∈ A, ∀ y ∈ B, x.2 < y.2) → 0 < A.length → 0 < B.length → U.length = a → a + A.length = m → m + B.length = b → b ≤ 100000 →
    Ret P n_slices_symMergeCmpFunc_Pair [v, .int .i64 a, .int .i64 m, .int .i64 b, cmpV] w fun r w' => ∃ C, Srt C ∧ C.Perm (A ++ B) ∧ TR w0 w' v (U ++ (C ++ S)) ∧ Ext (OX v) w w' := by
  intro k
  induction k with
  | zero => intro w U A B S a m b hk _ _ _ _ _ hA0; omega
  | succ k ih =>
  intro w U A B S a m b hk hR he hA hB ht hA0 hB0 hU hm hb hbig
  refine W_slices_symMergeCmpFunc_Pair ?_
  refine xi (r := ((A.length : Nat) : Int)) (by rw [wrapI (by omega)]; omega) ?_
  refine xifE (fun h1 => ?_) fun h1 => ?_
  · match A, h1 with
    | [x], _ => exact c_symA hR he hB (fun y hy => ht x (by simp) y hy) hU (by simpa using hm) hb hbig fun w' h => h
  refine xi (r := ((B.length : Nat) : Int)) (by rw [wrapI (by omega)]; omega) ?_
  refine xifE (fun h2 => ?_) fun h2 => ?_
  · match B, h2 with
    | [y], _ => exact c_symB hR he hA (fun x hx => ht x hx y (by simp)) hU hm (by simp at hb; omega) fun w' h => h
  have ham : a < m := by omega
  have hmb : m < b := by omega
  refine xi (r := ((a + b : Nat) : Int)) (by rw [wrapI (by omega)]; omega) ?_
  refine xi (r := ((a + b : Nat) : Int)) (wrapU64 (by omega)) ?_
  refine xi (r := (((a + b) / 2 : Nat) : Int)) half ?_
  refine xi (r := (((a + b) / 2 : Nat) : Int)) (wrapI (by omega)) ?_
  have hmid0 : (a + b) / 2 = (a + b) / 2 := rfl
  generalize hmid : (a + b) / 2 = mid at hmid0
  refine xi (r := ((mid + m : Nat) : Int)) (by rw [wrapI (by omega)]; omega) ?_
  have hp := @sym_place a m b mid
  refine xj (fun vs w' => vs = [.int .i64 (((if mid < m then mid + m - b else a) : Nat) : Int), .int .i64 (((if mid < m then mid else m) : Nat) : Int)] ∧ w = w') ?_ ?_
  · refine xifD (fun h => ?_) fun h => ?_
    · have h' : mid < m := by omega
      refine xi (r := ((mid + m - b : Nat) : Int)) (by rw [wrapI (by omega)]; omega) ?_
      rw [if_pos h', if_pos h']; exact ⟨rfl, rfl⟩
    · have h' : ¬ mid < m := by omega
      rw [if_neg h', if_neg h']; exact ⟨rfl, rfl⟩
  rintro vs g w1 ⟨rfl, rfl⟩
  refine xi (r := ((mid + m - 1 : Nat) : Int)) (by rw [wrapI (by omega)]; omega) ?_
  have hlh : (if mid < m then mid + m - b else a) ≤ (if mid < m then mid else m) := by split <;> omega
  have hlo : a ≤ (if mid < m then mid + m - b else a) := by split <;> omega
  have hhi : (if mid < m then mid else m) ≤ m := by split <;> omega
  have hp1 : ∀ c, (if mid < m then mid + m - b else a) ≤ c → c < (if mid < m then mid else m) → m ≤ mid + m - 1 - c ∧ mid + m - 1 - c < b := by
    intro c; split <;> omega
  generalize (if mid < m then mid + m - b else a) = lo at hp hlh hlo hp1
  generalize (if mid < m then mid else m) = hi at hp hlh hhi hp1
  refine xloop (fun n vs w' => ∃ (s r : Nat) (z : Value), vs = [.int .i64 (s : Int), .int .i64 (r : Int), z] ∧ n = r - s ∧ lo ≤ s ∧ s ≤ r ∧ r ≤ hi ∧
      (s = lo ∨ ∀ x y, (U ++ (A ++ (B ++ S)))[s - 1]? = some x → (U ++ (A ++ (B ++ S)))[mid + m - s]? = some y → ¬ klt y.1.1 x.1.1) ∧ (r = hi ∨ ∀ x y, (U ++ (A ++ (B ++ S)))[r]? = some x → (U ++ (A ++ (B ++ S)))[mid + m - 1 - r]? = some y → klt y.1.1 x.1.1) ∧ Ext No w w') (hi - lo)
    ⟨lo, hi, _, rfl, rfl, Nat.le_refl _, hlh, Nat.le_refl _, .inl rfl, .inl rfl, Ext.refl _ _⟩ ?_
  rintro n vs g w1 ⟨s, r, z, rfl, rfl, hls, hsr, hrh, h3, h4, he1⟩
  unfold S_slices_symMergeCmpFunc_Pair_l5
  have hR1 := hR.extN he1
  refine xifD (fun hlt => ?_) fun hge => ?_
  · have hc : s ≤ (s + r) / 2 ∧ (s + r) / 2 < r := by omega
    generalize hcc : (s + r) / 2 = c at hc
    have hc1 := hp1 c (by omega) (by omega)
    refine xi (r := ((s + r : Nat) : Int)) (by rw [wrapI (by omega)]; omega) ?_
    refine xi (r := ((s + r : Nat) : Int)) (wrapU64 (by omega)) ?_
    refine xi (r := (((s + r) / 2 : Nat) : Int)) half ?_
    refine xi (r := (c : Int)) (by rw [wrapI (by omega)]; omega) ?_
    refine xi (r := ((mid + m - 1 - c : Nat) : Int)) (by rw [wrapI (by omega)]; omega) ?_
    have hF := hR1.drew
    have eA : (U ++ (A ++ (B ++ S)))[c]? = some A[c - a] := by
      have := row_a (U := U) (A := A) (B := B) (S := S) (i := c - a) (by omega)
      rw [show U.length + (c - a) = c by omega] at this
      exact this
    have eB : (U ++ (A ++ (B ++ S)))[mid + m - 1 - c]? = some B[mid + m - 1 - c - m] := by
      have := row_b (U := U) (A := A) (B := B) (S := S) (i := mid + m - 1 - c - m) (by omega)
      rw [show U.length + A.length + (mid + m - 1 - c - m) = mid + m - 1 - c by omega] at this
      exact this
    refine hF.rd _ rfl eB fun ky hky hy => ?_
    refine hF.rd _ rfl eA fun kx hkx hx => ?_
    have hE := ((he.transN he1).drew)
    refine x_cmp (hky.extN hE) (hkx.extN hE) fun w2 he2 => ?_
    have hX := he1.drew.transN he2
    refine xifND (fun hk => ?_) fun hk => ?_
    · refine xi (r := ((c + 1 : Nat) : Int)) (by rw [wrapI (by omega)]; omega) ?_
      refine xnext (r - (c + 1)) (by omega) ⟨c + 1, r, _, rfl, rfl, by omega, by omega, hrh, .inr fun x y hx hy => ?_, h4, hX⟩
      rw [show c + 1 - 1 = c by omega, eA] at hx
      rw [show mid + m - (c + 1) = mid + m - 1 - c by omega, eB] at hy
      rw [← Option.some.inj hx, ← Option.some.inj hy]; exact hk
    · refine xnext (c - s) (by omega) ⟨s, c, _, rfl, rfl, hls, by omega, by omega, h3, .inr fun x y hx hy => ?_, hX⟩
      rw [eA] at hx
      rw [eB] at hy
      rw [← Option.some.inj hx, ← Option.some.inj hy]; exact hk
  · have e : s = r := by omega
    subst e
    obtain ⟨q1, q2, q3, q4, q5, q6, q7⟩ := @hp s ham hmb hmid.symm hls hrh
    refine xi (r := ((mid + m - s : Nat) : Int)) (by rw [wrapI (by omega)]; omega) ?_
    have hu : s - a ≤ A.length := by omega
    have hv : mid + m - s - m ≤ B.length := by omega
    have c1 : ∀ (i : s - a - 1 < A.length) (j : mid + m - s - m < B.length), 0 < s - a → ¬ klt B[mid + m - s - m].1.1 A[s - a - 1].1.1 := by
      intro i j h0
      rcases h3 with h3 | h3
      · have := q6 h3; omega
      · refine h3 _ _ ?_ ?_
        · have := row_a (U := U) (A := A) (B := B) (S := S) i
          rw [show U.length + (s - a - 1) = s - 1 by omega] at this
          exact this
        · have := row_b (U := U) (A := A) (B := B) (S := S) j
          rw [show U.length + A.length + (mid + m - s - m) = mid + m - s by omega] at this
          exact this
    have c2 : ∀ (i : s - a < A.length) (j : mid + m - s - m - 1 < B.length), 0 < mid + m - s - m → klt B[mid + m - s - m - 1].1.1 A[s - a].1.1 := by
      intro i j h0
      rcases h4 with h4 | h4
      · have := q7 h4; omega
      · refine h4 _ _ ?_ ?_
        · have := row_a (U := U) (A := A) (B := B) (S := S) i
          rw [show U.length + (s - a) = s by omega] at this
          exact this
        · have := row_b (U := U) (A := A) (B := B) (S := S) j
          rw [show U.length + A.length + (mid + m - s - m - 1) = mid + m - 1 - s by omega] at this
          exact this
    have cut := @sym_cut A B (s - a) (mid + m - s - m) hA hB ht hu hv c1 c2
    have hZ := sym_rot (P := U) (S := S) hu hv
    generalize hue : s - a = u at hu c1 c2 cut hZ
    generalize hve : mid + m - s - m = vv at hv c1 c2 cut hZ
    have hE1 := he.transN he1
    have sA1 : Srt (A.take u) := hA.sublist (List.take_sublist u A)
    have sA2 : Srt (A.drop u) := hA.sublist (List.drop_sublist u A)
    have sB1 : Srt (B.take vv) := hB.sublist (List.take_sublist vv B)
    have sB2 : Srt (B.drop vv) := hB.sublist (List.drop_sublist vv B)
    have lA1 : (A.take u).length = u := by rw [List.length_take]; omega
    have lA2 : (A.drop u).length = A.length - u := List.length_drop
    have lB1 : (B.take vv).length = vv := by rw [List.length_take]; omega
    have lB2 : (B.drop vv).length = B.length - vv := List.length_drop
    refine xj (fun vs w' => vs = [] ∧ TR w0 w' v (U ++ (A.take u ++ (B.take vv ++ (A.drop u ++ (B.drop vv ++ S))))) ∧ Ext (OX v) w w') ?_ ?_
    · refine xj (fun vs w' => ∃ q : Bool, vs = [.bool q] ∧ w1 = w' ∧ (q = true ↔ s < m ∧ m < mid + m - s)) ?_ ?_
      · refine xifD (fun h => ?_) fun h => ⟨false, rfl, rfl, by constructor; (intro h; cases h); (rintro ⟨h1, -⟩; omega)⟩
        refine ⟨_, rfl, rfl, ?_⟩
        rw [decide_eq_true_iff]
        omega
      rintro vs g w2 ⟨q, rfl, rfl, hq⟩
      cases q with
      | true =>
        obtain ⟨g1, g2⟩ := hq.1 rfl
        refine xifT rfl ?_
        refine (c_rotate (a := s) (m := m) (b := mid + m - s) hR1 (Z := (U ++ A.take u) ++ (B.take vv ++ (A.drop u ++ (B.drop vv ++ S)))) (by rw [show s = U.length + u by omega, show m - (U.length + u) = A.length - u by omega, show mid + m - (U.length + u) - m = vv by omega]; exact hZ) hE1 g1 g2 (by omega)).mono ?_
        rintro _ w2 ⟨hR2, hX2⟩
        refine ⟨rfl, ?_, (he1.mono fun _ _ h => h.elim).transS hX2⟩
        rw [List.append_assoc] at hR2; exact hR2
      | false =>
        refine xifF rfl ⟨rfl, ?_, he1.mono fun _ _ h => h.elim⟩
        have hor : u = A.length ∨ vv = 0 := by
          by_cases g1 : s < m
          · by_cases g2 : m < mid + m - s
            · have := hq.2 ⟨g1, g2⟩; cases this
            · right; omega
          · left; omega
        rcases hor with e | e
        · subst e
          rw [List.take_length, List.drop_length, List.nil_append, ← List.append_assoc (B.take vv), List.take_append_drop]
          exact hR1
        · subst e
          rw [List.take_zero, List.drop_zero, List.nil_append, ← List.append_assoc (A.take u), List.take_append_drop]
          exact hR1
    rintro vs g w2 ⟨rfl, hR2, hX2⟩
    refine xj (fun vs w' => vs = [] ∧ ∃ C1, Srt C1 ∧ C1.Perm (A.take u ++ B.take vv) ∧ TR w0 w' v (U ++ (C1 ++ (A.drop u ++ (B.drop vv ++ S)))) ∧ Ext (OX v) w w') ?_ ?_
    · refine xj (fun vs w' => ∃ q : Bool, vs = [.bool q] ∧ w2 = w' ∧ (q = true ↔ a < s ∧ s < mid)) ?_ ?_
      · refine xifD (fun h => ?_) fun h => ⟨false, rfl, rfl, by constructor; (intro h; cases h); (rintro ⟨h1, -⟩; omega)⟩
        refine ⟨_, rfl, rfl, ?_⟩
        rw [decide_eq_true_iff]
        omega
      rintro vs g w3 ⟨q, rfl, rfl, hq⟩
      cases q with
      | true =>
        obtain ⟨g1, g2⟩ := hq.1 rfl
        refine xifT rfl ?_
        refine (ih (a := a) (m := s) (b := mid) (by omega) hR2 (hR.own he hX2) sA1 sB1 (fun x hx y hy => ht x (List.mem_of_mem_take hx) y (List.mem_of_mem_take hy)) (by omega) (by omega) hU (by omega) (by omega) (by omega)).mono ?_
        rintro _ w3 ⟨C1, k1, k2, k3, k4⟩
        exact ⟨rfl, C1, k1, k2, k3, hX2.transS k4⟩
      | false =>
        refine xifF rfl ⟨rfl, A.take u ++ B.take vv, srt_skip sA1 sB1 ?_, List.Perm.refl _, by rw [List.append_assoc]; exact hR2, hX2⟩
        by_cases g1 : a < s
        · right
          have : vv = 0 := by
            by_cases g2 : s < mid
            · have := hq.2 ⟨g1, g2⟩; cases this
            · omega
          rw [this]; rfl
        · left
          have : u = 0 := by omega
          rw [this]; rfl
    rintro vs g w3 ⟨rfl, C1, k1, k2, hR3, hX3⟩
    have lC1 : C1.length = u + vv := by rw [k2.length_eq, List.length_append]; omega
    have hR3' : TR w0 w3 v ((U ++ C1) ++ (A.drop u ++ (B.drop vv ++ S))) := by rw [List.append_assoc]; exact hR3
    refine xj (fun vs w' => ∃ q : Bool, vs = [.bool q] ∧ w3 = w' ∧ (q = true ↔ mid < mid + m - s ∧ mid + m - s < b)) ?_ ?_
    · refine xifD (fun h => ?_) fun h => ⟨false, rfl, rfl, by constructor; (intro h; cases h); (rintro ⟨h1, -⟩; omega)⟩
      refine ⟨_, rfl, rfl, ?_⟩
      rw [decide_eq_true_iff]
      omega
    rintro vs g w4 ⟨q, rfl, rfl, hq⟩
    cases q with
    | true =>
      obtain ⟨g1, g2⟩ := hq.1 rfl
      refine xifT rfl ?_
      refine (ih (a := mid) (m := mid + m - s) (b := b) (by omega) hR3' (hR.own he hX3) sA2 sB2 (fun x hx y hy => ht x (List.mem_of_mem_drop hx) y (List.mem_of_mem_drop hy)) (by omega) (by omega) (by rw [List.length_append]; omega) (by omega) (by omega) hbig).mono ?_
      rintro _ w4 ⟨C2, k3, k4, k5, k6⟩
      obtain ⟨z1, z2⟩ := cut k1 k2 k3 k4
      refine ⟨C1 ++ C2, z1, z2, ?_, hX3.transS k6⟩
      rw [List.append_assoc] at k5 ⊢; exact k5
    | false =>
      refine xifF rfl ?_
      obtain ⟨z1, z2⟩ := cut k1 k2 (srt_skip sA2 sB2 (by
        by_cases g1 : mid < mid + m - s
        · right
          have : vv = B.length := by
            by_cases g2 : mid + m - s < b
            · have := hq.2 ⟨g1, g2⟩; cases this
            · omega
          rw [this, List.drop_length]
        · left
          have : u = A.length := by omega
          rw [this, List.drop_length])) (List.Perm.refl _)
      refine ⟨_, z1, z2, ?_, hX3⟩
      rw [List.append_assoc, List.append_assoc]; exact hR3
end
end Go.Proofs.YtlhjfenpmnejoaaGreat
