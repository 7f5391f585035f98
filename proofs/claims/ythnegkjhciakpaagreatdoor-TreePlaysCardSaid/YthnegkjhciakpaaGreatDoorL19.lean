/-  law19: versions: TreeGets.  -/
import Derived.Test.YthnegkjhciakpaaGreatDoorD19
namespace Go.Proofs.YthnegkjhciakpaaGreatDoor
open Go Go.RowKit X
set_option linter.unusedSimpArgs false
set_option linter.unusedVariables false
set_option linter.unusedSectionVars false
variable [Floor]
namespace law19
section
variable {w : World} {v vk : Value} {l : Kv} {k : Key}
theorem c_alive (hw : Lw w) : Ret P n_law19_alive [] w fun r w' => r = .bool true ∧ Ext No w w' := by
  refine W_law19_alive ?_
  refine (c_WNew (B := w.heap.size) hw (Nat.le_refl _) hw.fl).mono ?_
  rintro _ w1 ⟨rfl, hI1, he1⟩
  refine (c_From hI1 (Ps.none w1) Pr.nil (by omega)).mono ?_
  rintro _ w2 ⟨v0, t0, rfl, -, -, hI2, -, hE2⟩
  have h20 := (hI2.ver v0 t0 [] (updV_same _ _ _)).ct.nilT
  subst h20
  have hv2 : updV (fun _ => none) v0 (T.nil, []) v0 = some (T.nil, []) := updV_same _ _ _
  generalize updV (fun _ => none) v0 (T.nil, []) = V2 at hI2 hv2
  show XNew w2 ([1].map bv) T_uint8 _
  refine xnew fun a3 w3 ha3 hb3 hz3 he3 => ?_
  have hI3 := hI2.extN he3
  refine (c_VPutNil (k := [1]) (x := 5) hI3 hv2 (Bs.new (k := [1]) hb3) (by simp) (by omega) (by omega)).mono ?_
  rintro _ w4 ⟨hE4, v1, rfl, hn1, -, t1, hI4⟩
  have hne1 : v0 ≠ v1 := fun e => by subst e; rw [hv2] at hn1; cases hn1
  have hv4 : updV V2 v1 (t1, [([1], 5)]) v1 = some (t1, [([1], 5)]) := updV_same _ _ _
  have hv40 : updV V2 v1 (t1, [([1], 5)]) v0 = some (T.nil, []) := (updV_other hne1).trans hv2
  generalize updV V2 v1 (t1, [([1], 5)]) = V4 at hI4 hv4 hv40
  refine xj (fun vs w' => vs = [.bool false] ∧ w4 = w') ?_ ?_
  · refine xpeq_vb ?_
    refine xifF rfl ?_
    refine xpeq_vb ?_
    refine xifF rfl ?_
    refine xifF rfl ?_
    exact ⟨rfl, rfl⟩
  rintro vs g w5 ⟨rfl, rfl⟩
  refine xifF rfl ?_
  show XNew w4 ([1].map bv) T_uint8 _
  refine xnew fun a5 w5 ha5 hb5 hz5 he5 => ?_
  have hI5 := hI4.extN he5
  refine (c_VGet hI5 hv4 (Bs.new (k := [1]) hb5) (by simp)).mono ?_
  rintro _ w6 ⟨rfl, he6⟩
  have hI6 := hI5.extN he6
  show XNew w6 ([1].map bv) T_uint8 _
  refine xnew fun a7 w7 ha7 hb7 hz7 he7 => ?_
  have hI7 := hI6.extN he7
  refine (c_VDel hI7 hv4 (Bs.new (k := [1]) hb7) (by simp) (by omega)).mono ?_
  rintro _ w8 ⟨hE8, v2, rfl, ⟨h1, -⟩ | ⟨-, hn2, -, t2, n2, hI8, -, hnn⟩⟩
  · exact absurd h1 (by decide +kernel)
  have e1 : dropK [1] [(([1] : Key), 5)] = [] := by decide +kernel
  have hnn := hnn e1
  subst hnn
  rw [e1] at hI8
  have hne2 : v0 ≠ v2 := fun e => by subst e; rw [hv40] at hn2; cases hn2
  have hne3 : v1 ≠ v2 := fun e => by subst e; rw [hv4] at hn2; cases hn2
  have hv8 : updV V4 v2 (t2, []) v2 = some (t2, []) := updV_same _ _ _
  have hv80 : updV V4 v2 (t2, []) v0 = some (T.nil, []) := (updV_other hne2).trans hv40
  have hv81 : updV V4 v2 (t2, []) v1 = some (t1, [([1], 5)]) := (updV_other hne3).trans hv4
  generalize updV V4 v2 (t2, []) = V8 at hI8 hv8 hv80 hv81
  have hE : VE w.heap.size w1 w8 := ((((hE2.transN he3).trans hE4).transN ((he5.transN he6).transN he7))).trans hE8
  have g1 : look [(([1] : Key), 5)] [1] = some 5 := by decide +kernel
  rw [g1]
  refine xj (fun vs w' => vs = [.bool true] ∧ Ext No w w') ?_ ?_
  · refine xifT rfl ?_
    refine xifT rfl ?_
    refine (c_VShape hI8 hv81).mono ?_
    rintro _ w9 ⟨rfl, he9⟩
    have hct1 := (hI8.ver _ _ _ hv81).ct
    have s3 : t1.er.shape = [76, 48, 49, 61, 53] := by rw [hct1.can.closed (by decide +kernel)]; decide +kernel
    rw [s3]
    refine xseq ?_
    refine xifT (decide_eq_true rfl) ?_
    refine (c_VLen (hI8.extN he9) hv80).mono ?_
    rintro _ w10 ⟨rfl, hI10, hE10⟩
    refine xifT rfl ?_
    refine (c_VLen hI10 hv81).mono ?_
    rintro _ w11 ⟨rfl, hI11, hE11⟩
    refine xifT rfl ?_
    refine (c_VLen hI11 hv8).mono ?_
    rintro _ w12 ⟨rfl, hI12, hE12⟩
    refine xifT rfl ?_
    refine xifT rfl ?_
    refine xifT rfl ?_
    refine (c_WMade hI12 (by simp [T.er, E.size])).mono ?_
    rintro _ w13 ⟨rfl, rfl⟩
    refine xifT (by simp [T.er, E.size]) ?_
    refine (c_VWorld hI12 hv81).mono ?_
    rintro _ w14 ⟨rfl, rfl⟩
    refine xpeq_rp ?_
    exact ⟨rfl, ((((hE.transN he9).trans hE10).trans hE11).trans hE12).start he1 (Nat.le_refl _)⟩
  · rintro vs g w9 ⟨rfl, he⟩
    exact ⟨rfl, he⟩
end
end law19
end Go.Proofs.YthnegkjhciakpaaGreatDoor
