/-  law16: del: the helpers, DelIs.  -/
import Derived.Test.YthnegkjhciakpaaGreatDoorG1
import Derived.Test.YthnegkjhciakpaaGreatDoorC16
namespace Go.Proofs.YthnegkjhciakpaaGreatDoor
open Go Go.RowKit X
set_option linter.unusedSimpArgs false
set_option linter.unusedVariables false
set_option linter.unusedSectionVars false
variable [Floor]
namespace law16
abbrev l0 : Kv := [([1], 5), ([1, 2], 6)]
theorem l0_pr : Pr l0 := ⟨by decide +kernel, by intro p hp; simp at hp; rcases hp with rfl | rfl <;> simp, by simp⟩
section
variable {w : World}
theorem c_alive (hw : Lw w) : Ret P n_law16_alive [] w fun r w' => r = .bool true ∧ Ext No w w' := by
  refine W_law16_alive ?_
  show XNew w ([1].map bv) T_uint8 _
  refine xnew fun a1 w1 ha1 hb1 hz1 he1 => ?_
  show XNew w1 ([1, 2].map bv) T_uint8 _
  refine xnew fun a2 w2 ha2 hb2 hz2 he2 => ?_
  have k1 : Bs w2 (.slice (some ⟨a1, 0, none⟩) 1 1) [1] := (Bs.new (k := [1]) hb1).extN he2
  have k2 : Bs w2 (.slice (some ⟨a2, 0, none⟩) 2 2) [1, 2] := Bs.new (k := [1, 2]) hb2
  show XNew w2 ([.slice (some ⟨a1, 0, none⟩) 1 1, u64 5] ++ [.slice (some ⟨a2, 0, none⟩) 2 2, u64 6]) T_ref01_Pair _
  refine xnew fun a3 w3 ha3 hb3 hz3 he3 => ?_
  have hE3 := (he1.transN he2).transN he3
  have hps : Ps w3 (.slice (some ⟨a3, 0, none⟩) 2 2) l0 := Ps.new16 (l := l0) hb3 (((PC.sing k1 (by omega)).app (PC.sing k2 (by omega))).extN he3)
  have hw3 := hw.extN hE3
  refine (c_tree hps l0_pr hw3 (ow := 1) (by omega)).mono ?_
  rintro r w4 ⟨t, rfl, hct, -, how, -, he4⟩
  have hw4 := hw3.extN he4
  show XNew w4 ([1].map bv) T_uint8 _
  refine xnew fun a4 w5 ha4 hb4 hz4 he5 => ?_
  have hct5 := hct.extN he5
  have hw5 := hw4.extN he5
  have hfree : t.Free 2 := (how.q.mono fun o h => by omega).free
  refine (c_Del (o := 2) (n := 0) (mt := none) hct5.tree hfree.sep hct.can.fine hct.leafy (hct.long l0_pr) hw5.mt0 (by omega) (Bs.new (k := [1]) hb4) (by simp)).mono ?_
  rintro _ w6 ⟨t', n', rfl, hD, -, -, -⟩
  have he6 : Ext No w5 w6 := hD.res.ext.mono fun b _ hb => by rcases hb with hb | hb; cases hb; exact (hfree.foot b hb).elim
  have hct6 := hct5.del hD
  have e1 : dropK [1] l0 = [([1, 2], 6)] := by decide +kernel
  rw [e1] at hct6
  have hget : t.get [1] = some 5 := (hct.can.get [1]).trans (by decide +kernel)
  have r3 : Rises [(([1, 2] : Key), 6)] := by decide +kernel
  have s3 : t'.er.shape = [76, 48, 49, 48, 50, 61, 54] := by rw [hct6.can.closed r3]; decide +kernel
  have hw6 := hw5.extN he6
  have hE6 := ((hE3.transN he4).transN he5).transN he6
  rw [hget]
  refine xj (fun vs w' => vs = [.bool true] ∧ Ext No w w') ?_ ?_
  · refine (c_Shape hw6.tab hct6.tree hct6.leafy (by rw [s3]; simp)).mono ?_
    rintro r w7 ⟨rfl, he7⟩
    rw [s3]
    refine xseq ?_
    refine xifT (decide_eq_true rfl) ?_
    refine xifT rfl ?_
    exact ⟨rfl, hE6.transN he7⟩
  · rintro vs g w7 ⟨rfl, he⟩
    exact ⟨rfl, he⟩
end
end law16
end Go.Proofs.YthnegkjhciakpaaGreatDoor
