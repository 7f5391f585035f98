/-  slices.Concat of bytes.  -/
import Derived.Test.YtbleadagnpckbaaGreatDoorRes
import Derived.Lib.AppendZeros
namespace Go.Proofs.YtbleadagnpckbaaGreatDoor
open Go Go.RowKit X
set_option linter.unusedSimpArgs false
set_option linter.unusedVariables false
set_option linter.unusedSectionVars false
theorem intU : P.underlying T_int = some (.int .i64) := by kernel_rfl
/-- append of a number of zero values to nothing -/
theorem app_zeros {w : World} {n : Nat} {ty : TypeId} {K : Value → World → Prop} (h0 : 0 < n) (hn : n ≤ 100000000) (k : ∀ v' w' xs, Own w' w.heap.size T_uint8 1 v' n xs → Ext No w w' → K v' w') :
    XRun P (Builtin.append_ #[T_s_uint8, T_int] ty #[.slice none 0 0, .int .i64 n]) w K := by
  obtain ⟨i, hi1, hi2, hi3, hi4⟩ := ei_u8.parts
  have hr := Go.Lib.run_append_nil_zeros (P := P) w T_s_uint8 T_int ty T_uint8 i (.int .u8 0) .i64 .i64 ei_u8.u intU hi1 hi2 n h0 (by omega) (by omega) (by rw [hi4]; omega)
  have hge := grownCap_ge w n 0 T_uint8
  have hcm : grownCap w n 0 T_uint8 ≤ maxLen := grownCap_le_maxLen w n 0 T_uint8 (by unfold maxLen; omega)
  have hzs : (Value.int IntKind.u8 0).cells.size = 1 := rfl
  have hsz : (Builtin.zeroCells (Value.int IntKind.u8 0).cells n ++ Builtin.zeroCells (Value.int IntKind.u8 0).cells (grownCap w n 0 T_uint8 - n)).size = grownCap w n 0 T_uint8 * 1 := by
    simp only [Array.size_append, size_zeroCells, hzs]
    omega
  refine ⟨_, _, hr, k _ _ (List.take (n * 1) (Builtin.zeroCells (Value.int IntKind.u8 0).cells n ++ Builtin.zeroCells (Value.int IntKind.u8 0).cells (grownCap w n 0 T_uint8 - n)).toList) ⟨?_, .inr ⟨w.heap.size, _, _, rfl, Nat.le_refl _, heap_alloc_new w.drew _, hge, hcm, hsz, rfl⟩⟩ ⟨rfl, rfl, rfl, by simp, fun k hk _ => heap_alloc_old w.drew _ hk⟩⟩
  rw [List.length_take, Array.length_toList, hsz]
  omega
variable [Floor]
theorem c_Grow {w : World} {n : Nat} (hn : n ≤ 100000000) : Ret P n_slices_Grow_byte [.slice none 0 0, .int .i64 n] w fun r w' => Own w' w.heap.size T_uint8 1 r 0 [] ∧ Ext No w w' := by
  refine W_slices_Grow_byte ?_
  refine xj (fun vs w' => w = w') ?_ ?_
  · exact xifF (by simp) rfl
  rintro vs g w1 rfl
  refine xj (fun vs w' => ∃ x v, vs = [x, v] ∧ Own w' w.heap.size T_uint8 1 v 0 [] ∧ Ext No w w') ?_ ?_
  · refine xi (r := 0) (by decide) ?_
    refine xi (r := (n : Int)) (by rw [wrapI (by omega)]; omega) ?_
    refine xifD (fun h => ?_) fun h => ⟨_, _, rfl, Own.nil _ _ _ _, Ext.refl _ _⟩
    refine xcutH 0 rfl (Nat.le_refl _) ?_
    refine app_zeros (by omega) hn fun v w2 xs hv he => ?_
    refine Bs.len (w := w2) (bs := []) Sl.nil ?_
    refine X.Own.cut hv 0 rfl (by omega) fun v' hv' _ => ?_
    rw [List.take_zero] at hv'
    exact ⟨_, _, rfl, hv', he⟩
  · rintro vs g w2 ⟨x, v, rfl, hv, he⟩
    exact ⟨hv, he⟩
theorem lenF_append (a b : List Key) : (a ++ b).flatten = a.flatten ++ b.flatten := List.flatten_append
/-- slices.Concat of rows of bytes -/
theorem c_Concat {w : World} {Q : Nat → TypeId → Prop} {vs : Value} {cells : List Value} {ls : List Key} (hfl : Floor.n ≤ w.heap.size) (h : Sl w Q vs 1 ls.length cells) (hls : ∀ i (hi : i < ls.length), ∃ x, cells[i]? = some x ∧ Bs w x ls[i]) (hn : ls.flatten.length ≤ 100000000) (hm : ls.length ≤ 1000) :
    Ret P n_slices_Concat_byte [vs] w fun r w' => Bs w' r ls.flatten ∧ Ext No w w' := by
  have hpre : ∀ i, (ls.take i).flatten.length ≤ ls.flatten.length := fun i => by
    have := congrArg (fun l : List Key => l.flatten.length) (List.take_append_drop i ls)
    simp only [lenF_append, List.length_append] at this
    omega
  have hstep : ∀ i (hi : i < ls.length), (ls.take (i + 1)).flatten = (ls.take i).flatten ++ ls[i] := fun i hi => by
    rw [← List.take_append_getElem hi, lenF_append]
    simp
  refine W_slices_Concat_byte ?_
  refine xLen_sl h ?_
  refine xloop (fun n vs' w' => ∃ (i : Nat) (x : Value), vs' = [.int .i64 i, x, .int .i64 ((ls.take i).flatten.length : Nat)] ∧ n = ls.length - i ∧ i ≤ ls.length ∧ w = w') ls.length ⟨0, _, rfl, rfl, by omega, rfl⟩ ?_
  rintro n vs' g w1 ⟨i, x, rfl, rfl, hi, rfl⟩
  unfold S_slices_Concat_byte_l2
  refine xifD (fun hlt => ?_) fun hnl => ?_
  · have hil : i < ls.length := by omega
    obtain ⟨y, hy, hby⟩ := hls i hil
    have h1 := hpre (i + 1)
    have h2 := hstep i hil
    have h3 := congrArg List.length h2
    rw [List.length_append] at h3
    refine xj (fun vs' w' => ∃ x', vs' = [x', .int .i64 ((ls.take (i + 1)).flatten.length : Nat)] ∧ w = w') ?_ ?_
    · refine h.rd1 i rfl hil hy ?_
      refine hby.len ?_
      refine xi (r := (((ls.take (i + 1)).flatten.length : Nat) : Int)) (by rw [wrapI (by omega)]; omega) ?_
      refine xifF (by simp) ?_
      exact ⟨_, rfl, rfl⟩
    · rintro vs'' g w2 ⟨x', rfl, rfl⟩
      refine xi (r := ((i + 1 : Nat) : Int)) (by rw [wrapI (by omega)]; omega) ?_
      exact xnext (ls.length - (i + 1)) (by omega) ⟨i + 1, _, rfl, rfl, by omega, rfl⟩
  · have : i = ls.length := by omega
    subst this
    rw [List.take_length]
    refine (c_Grow hn).mono ?_
    rintro r w1 ⟨hr, he1⟩
    refine xLen_sl h ?_
    refine xloop (fun n vs' w' => ∃ (i : Nat) (x v : Value), vs' = [.int .i64 i, x, v] ∧ n = ls.length - i ∧ i ≤ ls.length ∧ Own w' w.heap.size T_uint8 1 v (ls.take i).flatten.length ((ls.take i).flatten.map bv) ∧ Ext No w w') ls.length ⟨0, _, _, rfl, rfl, by omega, hr, he1⟩ ?_
    rintro n vs' g w2 ⟨i, x, v, rfl, rfl, hi, hv, he2⟩
    unfold S_slices_Concat_byte_l1
    refine xifD (fun hlt => ?_) fun hnl => ?_
    · have hil : i < ls.length := by omega
      obtain ⟨y, hy, hby⟩ := hls i hil
      have h1 := hpre (i + 1)
      have h2 := hstep i hil
      have h3 := congrArg List.length h2
      rw [List.length_append] at h3
      refine (Sl.extN h he2).rd1 i rfl hil hy ?_
      refine app_own ei_u8 hv he2.size (hby.extN he2) (by simp only [List.mem_map]; rintro u ⟨c, -, rfl⟩; rfl) (by omega) (by omega) fun v' w3 hv' he3 _ _ => ?_
      refine xi (r := ((i + 1 : Nat) : Int)) (by rw [wrapI (by omega)]; omega) ?_
      refine xnext (ls.length - (i + 1)) (by omega) ⟨i + 1, _, v', rfl, rfl, by omega, ?_, he2.own hv (Nat.le_refl _) he3⟩
      rw [h2, List.length_append, List.map_append]
      exact hv'
    · have : i = ls.length := by omega
      subst this
      rw [List.take_length] at hv
      exact ⟨Bs.of hv.sl, he2⟩
end Go.Proofs.YtbleadagnpckbaaGreatDoor
