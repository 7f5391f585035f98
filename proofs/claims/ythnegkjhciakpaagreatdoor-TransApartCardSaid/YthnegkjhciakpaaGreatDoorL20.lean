/-  law20: transients: the helpers; nobody's.  -/
import Derived.Test.YthnegkjhciakpaaGreatDoorTr3
import Derived.Test.YthnegkjhciakpaaGreatDoorD20
namespace Go.Proofs.YthnegkjhciakpaaGreatDoor
open Go Go.RowKit X
set_option linter.unusedSimpArgs false
set_option linter.unusedVariables false
set_option linter.unusedSectionVars false
variable [Floor]
namespace law20
section
variable {w : World} {v vk : Value} {l : Kv} {k : Key}
theorem c_alive (hw : Lw w) : Ret P n_law20_alive [] w fun r w' => r = .bool true ∧ Ext No w w' := by
  refine W_law20_alive ?_
  refine (c_WNew (B := w.heap.size) hw (Nat.le_refl _) hw.fl).mono ?_
  rintro _ w1 ⟨rfl, hI1, he1⟩
  refine (c_From hI1 (Ps.none w1) Pr.nil (by omega)).mono ?_
  rintro _ w2 ⟨v0, t0, rfl, -, -, hI2, -, hE2⟩
  have h20 := (hI2.ver v0 t0 [] (updV_same _ _ _)).ct.nilT
  subst h20
  have hv2 : updV (fun _ => none) v0 (T.nil, []) v0 = some (T.nil, []) := updV_same _ _ _
  generalize updV (fun _ => none) v0 (T.nil, []) = V2 at hI2 hv2
  refine (c_Edit (TI.of hI2) hv2 (by omega)).mono ?_
  rintro _ w3 ⟨tb, rfl, htb, hT3, hE3⟩
  have hr3 := updM_same (fun _ => none) tb ⟨0 + 1 + 1, v0, .nil, []⟩
  generalize updM (fun _ => none) tb ⟨0 + 1 + 1, v0, .nil, []⟩ = M3 at hT3 hr3
  refine xj (fun vs w' => vs = [.bool false] ∧ VE w.heap.size w3 w' ∧ ∃ t' n' M', TI w.heap.size w' w.heap.size n' (0 + 1 + 1) V2 M' (fun _ => False) ∧ M' tb = some ⟨0 + 1 + 1, v0, t', [([1], 5)]⟩) ?_ ?_
  · refine xpeq_vb ?_
    refine xifF rfl ?_
    refine xifF rfl ?_
    show XNew w3 ([1].map bv) T_uint8 _
    refine xnew fun a4 w4 ha4 hb4 hz4 he4 => ?_
    refine (c_TPut (k := [1]) (x := 5) (hT3.extN he4) hr3 (Bs.new (k := [1]) hb4) (by simp) (by omega) (by simp)).mono ?_
    rintro _ w5 ⟨rfl, hE5, t', n', hT5, -⟩
    exact ⟨rfl, (VE.no he4).trans hE5, t', n', _, hT5, updM_same _ _ _⟩
  rintro vs g w5 ⟨rfl, hE5, t', n', M5, hT5, hr5⟩
  refine xifF rfl ?_
  refine (c_TLen hT5 hr5).mono ?_
  rintro _ w6 ⟨rfl, rfl⟩
  refine (c_TFreeze hT5 hr5).mono ?_
  rintro _ w7 ⟨hE7, vb', rfl, ⟨-, ⟨t1, hv1, -⟩, -⟩ | ⟨-, hn, hge, hT7⟩⟩
  · rw [hv2] at hv1
    cases hv1
  have hv7 : updV V2 vb' (t', [([1], 5)]) vb' = some (t', [([1], 5)]) := updV_same _ _ _
  have hv70 : updV V2 vb' (t', [([1], 5)]) v0 = some (T.nil, []) := updV_keep hn hv2
  have hE : VE w.heap.size w1 w7 := ((hE2.trans hE3).trans hE5).trans hE7
  have hf : (fun b => b = tb ∨ (fun _ : Nat => False) b) tb := .inl rfl
  refine xj (fun vs w' => vs = [.bool true] ∧ Ext No w w') ?_ ?_
  · refine xifT rfl ?_
    refine xifT rfl ?_
    refine (c_VShape hT7.vi hv7).mono ?_
    rintro _ w8 ⟨rfl, he8⟩
    have hct1 := (hT7.vi.ver _ _ _ hv7).ct
    have s3 : t'.er.shape = [76, 48, 49, 61, 53] := by rw [hct1.can.closed (by decide +kernel)]; decide +kernel
    rw [s3]
    refine xseq ?_
    refine xifT (decide_eq_true rfl) ?_
    refine xifT rfl ?_
    show XNew w8 ([1].map bv) T_uint8 _
    refine xnew fun a9 w9 ha9 hb9 hz9 he9 => ?_
    have hT9 := (hT7.extN he8).extN he9
    refine (c_TPutF hT9 hf).mono ?_
    rintro _ w10 ⟨rfl, rfl⟩
    refine xifT rfl ?_
    refine (c_TFrozenF hT9 hf).mono ?_
    rintro _ w11 ⟨rfl, rfl⟩
    refine xifT rfl ?_
    refine (c_VShape hT9.vi hv70).mono ?_
    rintro _ w12 ⟨rfl, he12⟩
    refine xseq ?_
    refine ⟨?_, (hE.transN ((he8.transN he9).transN he12)).start he1 (Nat.le_refl _)⟩
    rw [decide_eq_true (by decide +kernel)]
  · rintro vs g w8 ⟨rfl, he⟩
    exact ⟨rfl, he⟩
theorem l_TransNobody (hw : Lw w) {x : Nat} (hk : Bs w vk k) (hx : x < 18446744073709551616) : Ret P n_law20_TransNobody [vk, .int .u64 x] w fun r w' => r = .bool true ∧ Ext No w w' := by
  refine W_law20_TransNobody ?_
  show XNew w [.pointer none, .pointer none, .int .u32 0, .int .i32 0, .int .u32 0, .int .i64 0, .bool false] T_tree_Version _
  refine xnew fun b1 w1 hb1 hblk1 hz1 he1 => ?_
  show XNew w1 [.pointer none, rp b1] T_p_tree_Version _
  refine xnew fun b2 w2 hb2 hblk2 hz2 he2 => ?_
  have hE2 := he1.transN he2
  refine xloop (fun n vs w' => ∃ (i : Nat) (p q r s : Value), vs = [.int .i64 i, p, q, r, s] ∧ n = 2 - i ∧ i ≤ 2 ∧ Ext No w2 w') 2 ⟨0, _, _, _, _, rfl, rfl, by omega, Ext.refl _ _⟩ ?_
  rintro n vs g w3 ⟨i, p, q, r, s, rfl, rfl, hi, he3⟩
  unfold S_law20_TransNobody_l2
  refine xifD (fun hlt => ?_) fun hge => ?_
  · have hv : ∃ v : Value, ([.pointer none, rp b1] : List Value)[i]? = some v ∧ (v = .pointer none ∨ ∃ b cs T, v = rp b ∧ Blk w3 b (.pointer none :: cs) T) := by
      have : i = 0 ∨ i = 1 := by omega
      rcases this with rfl | rfl
      · exact ⟨_, rfl, .inl rfl⟩
      · exact ⟨_, rfl, .inr ⟨b1, _, _, rfl, (hblk1.ext he2 fun h => h).ext he3 fun h => h⟩⟩
    obtain ⟨v, hv, hvN⟩ := hv
    refine (hblk2.ext he3 fun h => h).ixS (m := i) rfl (by omega) hv ?_
    refine (c_EditN hvN).mono ?_
    rintro _ w4 ⟨rfl, rfl⟩
    refine xj (fun vs w' => vs = [.bool false] ∧ w4 = w') ?_ ?_
    · refine xifF rfl ?_
      exact ⟨rfl, rfl⟩
    rintro vs g w5 ⟨rfl, rfl⟩
    refine xifF rfl ?_
    refine xi (r := ((i + 1 : Nat) : Int)) (by rw [wrapI (by omega)]; omega) ?_
    exact xnext (2 - (i + 1)) (by omega) ⟨i + 1, _, _, _, _, rfl, rfl, by omega, he3⟩
  · show XNew w3 [.pointer none, .int .u64 0, .pointer none, .int .i64 0, .bool false] T_trans_Trans _
    refine xnew fun b4 w4 hb4 hblk4 hz4 he4 => ?_
    show XNew w4 [.pointer none, rp b4] T_p_trans_Trans _
    refine xnew fun b5 w5 hb5 hblk5 hz5 he5 => ?_
    have hE5 := ((hE2.transN he3).transN he4).transN he5
    refine xloop (fun n vs w' => ∃ (i : Nat) (x1 x2 x3 x4 x5 x6 x7 x8 x9 x10 x11 x12 x13 : Value), vs = [.int .i64 i, x1, x2, x3, x4, x5, x6, x7, x8, x9, x10, x11, x12, x13] ∧ n = 2 - i ∧ i ≤ 2 ∧ Ext No w5 w') 2 ⟨0, _, _, _, _, _, _, _, _, _, _, _, _, _, rfl, rfl, by omega, Ext.refl _ _⟩ ?_
    rintro n vs g w6 ⟨i, x1, x2, x3, x4, x5, x6, x7, x8, x9, x10, x11, x12, x13, rfl, rfl, hi, he6⟩
    unfold S_law20_TransNobody_l1
    refine xifD (fun hlt => ?_) fun hge => ?_
    · have hv : ∃ v : Value, ([.pointer none, rp b4] : List Value)[i]? = some v ∧ NoTr w6 v := by
        have : i = 0 ∨ i = 1 := by omega
        rcases this with rfl | rfl
        · exact ⟨_, rfl, .inl rfl⟩
        · exact ⟨_, rfl, .inr ⟨b4, rfl, (hblk4.ext he5 fun h => h).ext he6 fun h => h⟩⟩
      obtain ⟨v, hv, hvN⟩ := hv
      refine (hblk5.ext he6 fun h => h).ixS (m := i) rfl (by omega) hv ?_
      refine (c_TDelN hvN.may).mono ?_
      rintro _ w7 ⟨rfl, rfl⟩
      refine (c_TGetN hvN.may).mono ?_
      rintro _ w8 ⟨rfl, rfl⟩
      refine (c_TLenN hvN.may).mono ?_
      rintro _ w9 ⟨rfl, rfl⟩
      refine (c_TListN hvN.may).mono ?_
      rintro _ w10 ⟨rfl, rfl⟩
      refine (c_TFreezeN hvN.may).mono ?_
      rintro _ w11 ⟨rfl, rfl⟩
      refine xj (fun vs w' => vs = [.bool false] ∧ w11 = w') ?_ ?_
      · refine (c_TPutN hvN.may).mono ?_
        rintro _ w12 ⟨rfl, rfl⟩
        refine xifF rfl ?_
        refine xifF rfl ?_
        refine xifF rfl ?_
        refine xifF rfl ?_
        refine xifF rfl ?_
        exact ⟨rfl, rfl⟩
      rintro vs g w12 ⟨rfl, rfl⟩
      refine xifF rfl ?_
      refine xj (fun vs w' => vs = [.bool false] ∧ Ext No w11 w') ?_ ?_
      · refine xifF rfl ?_
        refine xifF rfl ?_
        refine xifF rfl ?_
        refine (Ps.none w11).len ?_
        refine xi (r := 0) (by decide) ?_
        refine xifF rfl ?_
        refine xifF rfl ?_
        refine (c_TOwnerN hvN).mono ?_
        rintro _ w12 ⟨rfl, he12⟩
        refine xifF rfl ?_
        have hvN2 : NoTr w12 v := by
          rcases hvN with rfl | ⟨b, rfl, hb⟩
          · exact .inl rfl
          · exact .inr ⟨b, rfl, hb.ext he12 fun h => h⟩
        refine (c_TFrozenN hvN2).mono ?_
        rintro _ w13 ⟨rfl, rfl⟩
        exact ⟨rfl, he12⟩
      rintro vs g w12 ⟨rfl, he12⟩
      refine xifF rfl ?_
      refine xi (r := ((i + 1 : Nat) : Int)) (by rw [wrapI (by omega)]; omega) ?_
      exact xnext (2 - (i + 1)) (by omega) ⟨i + 1, _, _, _, _, _, _, _, _, _, _, _, _, _, rfl, rfl, by omega, he6.transN he12⟩
    · have hE6 := hE5.transN he6
      refine (c_alive (hw.extN hE6)).mono ?_
      rintro r w7 ⟨rfl, he7⟩
      exact ⟨rfl, hE6.transN he7⟩
end
end law20
end Go.Proofs.YthnegkjhciakpaaGreatDoor
