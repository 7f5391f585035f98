/-  law20: transients: the helpers; nobody's.  -/
import Derived.Test.YtlhjfenpmnejoaaGreatDoorTr3
import Derived.Test.YtlhjfenpmnejoaaGreatDoorD20
namespace Go.Proofs.YtlhjfenpmnejoaaGreatDoor
open Go Go.RowKit X
set_option linter.unusedSimpArgs false
set_option linter.unusedVariables false
set_option linter.unusedSectionVars false
variable [Floor]
namespace law20
section
variable {w : World} {v vk : Value} {l : Kv} {k : Key}
theorem c_alive (hw : Lw w) : Ret P n_law20_alive [] w fun r w' => r = .bool true ∧ Ext No w w' := by
  refine W_law20_alive ?_
  refine (c_WNew (B := w.heap.size) hw (Nat.le_refl _) hw.fl).mono ?_
  rintro _ w1 ⟨rfl, hI1, he1⟩
  refine (c_From hI1 (Ps.none w1) Pr.nil (by omega)).mono ?_
  rintro _ w2 ⟨v0, t0, rfl, -, -, hI2, -, hE2⟩
  have h20 := (hI2.ver v0 t0 [] (updV_same _ _ _)).ct.nilT
  subst h20
  have hv2 : updV (fun _ => none) v0 (T.nil, []) v0 = some (T.nil, []) := updV_same _ _ _
  generalize updV (fun _ => none) v0 (T.nil, []) = V2 at hI2 hv2
  refine (c_Edit (TI.of hI2) hv2 (by omega)).mono ?_
  rintro _ w3 ⟨tb, rfl, htb, hT3, hE3⟩
  have hr3 := updM_same (fun _ => none) tb ⟨0 + 1 + 1, v0, .nil, []⟩
  generalize updM (fun _ => none) tb ⟨0 + 1 + 1, v0, .nil, []⟩ = M3 at hT3 hr3
  refine xj (fun vs w' => vs = [.bool false] ∧ VE w.heap.size w3 w' ∧ ∃ t' n' M', TI w.heap.size w' w.heap.size n' (0 + 1 + 1) V2 M' (fun _ => False) ∧ M' tb = some ⟨0 + 1 + 1, v0, t', [([1], 5)]⟩) ?_ ?_
  · refine xpeq_vb ?_
    refine xifF rfl ?_
    refine xifF rfl ?_
    show XNew w3 ([1].map bv) T_uint8 _
    refine xnew fun a4 w4 ha4 hb4 hz4 he4 => ?_
    refine (c_TPut (k := [1]) (x := 5) (hT3.extN he4) hr3 (Bs.new (k := [1]) hb4) (by simp) (by omega) (by simp)).mono ?_
    rintro _ w5 ⟨rfl, hE5, t', n', hT5, -⟩
    exact ⟨rfl, (VE.no he4).trans hE5, t', n', _, hT5, updM_same _ _ _⟩
  rintro vs g w5 ⟨rfl, hE5, t', n', M5, hT5, hr5⟩
  refine xifF rfl ?_
  refine (c_TLen hT5 hr5).mono ?_
  rintro _ w6 ⟨rfl, rfl⟩
  refine (c_TFreeze hT5 hr5).mono ?_
  rintro _ w7 ⟨hE7, vb', rfl, ⟨-, ⟨t1, hv1, -⟩, -⟩ | ⟨-, hn, hge, hT7⟩⟩
  · rw [hv2] at hv1
    cases hv1
  have hv7 : updV V2 vb' (t', [([1], 5)]) vb' = some (t', [([1], 5)]) := updV_same _ _ _
  have hv70 : updV V2 vb' (t', [([1], 5)]) v0 = some (T.nil, []) := updV_keep hn hv2
  have hE : VE w.heap.size w1 w7 := ((hE2.trans hE3).trans hE5).trans hE7
  have hf : (fun b => b = tb ∨ (fun _ : Nat => False) b) tb := .inl rfl
  refine xj (fun vs w' => vs = [.bool true] ∧ Ext No w w') ?_ ?_
  · refine xifT rfl ?_
    refine xifT rfl ?_
    refine (c_VShape hT7.vi hv7).mono ?_
    rintro _ w8 ⟨rfl, he8⟩
    have hct1 := (hT7.vi.ver _ _ _ hv7).ct
    have s3 : t'.er.shape = [76, 48, 49, 61, 53] := by rw [hct1.can.closed (by decide +kernel)]; decide +kernel
    rw [s3]
    refine xseq ?_
    refine xifT (decide_eq_true rfl) ?_
    refine xifT rfl ?_
    show XNew w8 ([1].map bv) T_uint8 _
    refine xnew fun a9 w9 ha9 hb9 hz9 he9 => ?_
    have hT9 := (hT7.extN he8).extN he9
    refine (c_TPutF hT9 hf).mono ?_
    rintro _ w10 ⟨rfl, rfl⟩
    refine xifT rfl ?_
    refine (c_TFrozenF hT9 hf).mono ?_
    rintro _ w11 ⟨rfl, rfl⟩
    refine xifT rfl ?_
    refine (c_VShape hT9.vi hv70).mono ?_
    rintro _ w12 ⟨rfl, he12⟩
    refine xseq ?_
    refine ⟨?_, (hE.transN ((he8.transN he9).transN he12)).start he1 (Nat.le_refl _)⟩
    rw [decide_eq_true (by decide +kernel)]
  · rintro vs g w8 ⟨rfl, he⟩
    exact ⟨rfl, he⟩
end
end law20
end Go.Proofs.YtlhjfenpmnejoaaGreatDoor
