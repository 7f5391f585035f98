/-  law18: parts of trees.  -/
import Derived.Test.YtbneecjeifionaaGreatDoorC18
import Derived.Test.YtbneecjeifionaaGreatDoorSub
import Derived.Test.YtbneecjeifionaaGreatDoorRef18
namespace Go.Proofs.YtbneecjeifionaaGreatDoor
open Go Go.RowKit X
set_option linter.unusedSimpArgs false
set_option linter.unusedVariables false
set_option linter.unusedSectionVars false
variable [Floor]
theorem Bs.new {w : World} {b : Nat} {k : Key} (h : Blk w b (k.map bv) T_uint8) : Bs w (.slice (some ⟨b, 0, none⟩) k.length k.length) k := by
  have := h.sl (o := 0) (n := k.length) (cap := k.length) (by simp) (Nat.le_refl _)
  rw [List.drop_zero, List.take_of_length_le (by simp)] at this
  exact Bs.of this
theorem Ps.new {w : World} {b : Nat} {l : Kv} {cells : List Value} (h : Blk w b cells T_ref01_Pair) (hp : PC w l cells) : Ps w (.slice (some ⟨b, 0, none⟩) l.length l.length) l :=
  ⟨T_ref01_Pair, cells, .inr rfl, (h.sln hp.len).weak fun _ _ h => .inl h, hp⟩
namespace law18
abbrev l0 : Kv := [([1], 5), ([1, 2], 6)]
theorem l0_pr : Pr l0 := ⟨by decide +kernel, by intro p hp; simp at hp; rcases hp with rfl | rfl <;> simp, by simp⟩
section
variable {w : World}
theorem c_alive (hw : Lw w) : Ret P n_law18_alive [] w fun r w' => r = .bool true ∧ Ext No w w' := by
  refine W_law18_alive ?_
  show XNew w ([1].map bv) T_uint8 _
  refine xnew fun a1 w1 ha1 hb1 hz1 he1 => ?_
  show XNew w1 ([1, 2].map bv) T_uint8 _
  refine xnew fun a2 w2 ha2 hb2 hz2 he2 => ?_
  have k1 : Bs w2 (.slice (some ⟨a1, 0, none⟩) 1 1) [1] := (Bs.new (k := [1]) hb1).extN he2
  have k2 : Bs w2 (.slice (some ⟨a2, 0, none⟩) 2 2) [1, 2] := Bs.new (k := [1, 2]) hb2
  show XNew w2 ([.slice (some ⟨a1, 0, none⟩) 1 1, u64 5] ++ [.slice (some ⟨a2, 0, none⟩) 2 2, u64 6]) T_ref01_Pair _
  refine xnew fun a3 w3 ha3 hb3 hz3 he3 => ?_
  have hE3 := (he1.transN he2).transN he3
  have hps : Ps w3 (.slice (some ⟨a3, 0, none⟩) 2 2) l0 := Ps.new (l := l0) hb3 (((PC.sing k1 (by omega)).app (PC.sing k2 (by omega))).extN he3)
  have hw3 := hw.extN hE3
  refine (c_tree hps l0_pr hw3 (ow := 1) (by omega)).mono ?_
  rintro r w4 ⟨t, rfl, hct, -, -, -, he4⟩
  have hw4 := hw3.extN he4
  show XNew w4 ([1].map bv) T_uint8 _
  refine xnew fun a4 w5 ha4 hb4 hz4 he5 => ?_
  have hct5 := hct.extN he5
  have hw5 := hw4.extN he5
  have hlong : t.er.long ≤ 65535 := hct.long l0_pr
  refine (c_Strip (mt := none) (n := 0) (o := 2) (p := [1]) hct5.tree hw5.mt0 (by omega) (Bs.new (k := [1]) hb4) (by simp) hct5.can).mono ?_
  rintro r w6 ⟨t1, n1, rfl, hs1, hcan1, -⟩
  have he6 : Ext No w5 w6 := hs1.ext.mono fun b _ hb => by cases hb
  have hcan1' : Can t1.er (look [([], 5), ([2], 6)]) := hcan1.congr fun k => (look_strip [1] l0 k).symm
  show XNew w6 ([9].map bv) T_uint8 _
  refine xnew fun a5 w7 ha5 hb5 hz5 he7 => ?_
  have hct7 := (hct5.extN he6).extN he7
  have hw7 := (hw5.extN he6).extN he7
  refine (c_Under (mt := none) (n := 0) (o := 2) (p := [9]) hct7.tree hw7.mt0 (by omega) (Bs.new (k := [9]) hb5) hct7.can hlong (.inr (by rw [hct.can.long l0_pr.rises]; decide))).mono ?_
  rintro r w8 ⟨t2, n2, rfl, hs2, hcan2, -, -⟩
  have he8 : Ext No w7 w8 := hs2.ext.mono fun b _ hb => by cases hb
  have hcan2' : Can t2.er (look [([9, 1], 5), ([9, 1, 2], 6)]) := hcan2.congr fun k => (look_under [9] l0 k).symm
  show XNew w8 ([1, 2].map bv) T_uint8 _
  refine xnew fun a6 w9 ha6 hb6 hz6 he9 => ?_
  have hct9 := (hct7.extN he8).extN he9
  have hw9 := (hw7.extN he8).extN he9
  refine (c_Sub (mt := none) (n := 0) (o := 2) (p := [1, 2]) hct9.tree hw9.mt0 (by omega) (Bs.new (k := [1, 2]) hb6) (by simp) hct9.can hlong).mono ?_
  rintro r w10 ⟨t3, n3, rfl, hs3, hcan3, -⟩
  have he10 : Ext No w9 w10 := hs3.ext.mono fun b _ hb => by cases hb
  have hcan3' : Can t3.er (look [([1, 2], 6)]) := hcan3.congr fun k => (look_sub [1, 2] l0 k).symm
  have hw10 := hw9.extN he10
  have hE10 : Ext No w w10 := ((((((hE3.transN he4).transN he5).transN he6).transN he7).transN he8).transN he9).transN he10
  have pr : ∀ l : Kv, Rises l → l.length ≤ 2 → True := fun _ _ _ => trivial
  have r1 : Rises [(([] : Key), 5), ([2], 6)] := by decide +kernel
  have r2 : Rises [(([9, 1] : Key), 5), ([9, 1, 2], 6)] := by decide +kernel
  have r3 : Rises [(([1, 2] : Key), 6)] := by decide +kernel
  have s1 : t1.er.shape = [52, 60, 61, 53, 58, 48, 50, 76, 61, 54, 62] := by rw [hcan1'.closed r1]; decide +kernel
  have s2 : t2.er.shape = [52, 60, 48, 57, 48, 49, 61, 53, 58, 48, 50, 76, 61, 54, 62] := by rw [hcan2'.closed r2]; decide +kernel
  have s3 : t3.er.shape = [76, 48, 49, 48, 50, 61, 54] := by rw [hcan3'.closed r3]; decide +kernel
  refine xj (fun vs w' => vs = [.bool true] ∧ Ext No w w') ?_ ?_
  · have ht1 : Tree w10 t1 := ((((hs1.tree).extN he7).extN he8).extN he9).extN he10
    refine (c_Shape hw10.tab ht1 (hs1.leafy hct.leafy) (by rw [s1]; simp)).mono ?_
    rintro r w11 ⟨rfl, he11⟩
    rw [s1]
    refine xseq ?_
    refine xifT (decide_eq_true rfl) ?_
    refine xifT rfl ?_
    have ht2 : Tree w11 t2 := (((hs2.tree).extN he9).extN he10).extN he11
    refine (c_Shape (hw10.extN he11).tab ht2 (hs2.leafy hct.leafy) (by rw [s2]; simp)).mono ?_
    rintro r w12 ⟨rfl, he12⟩
    rw [s2]
    refine xseq ?_
    refine xifT (decide_eq_true rfl) ?_
    refine xifT rfl ?_
    have ht3 : Tree w12 t3 := ((hs3.tree).extN he11).extN he12
    refine (c_Shape ((hw10.extN he11).extN he12).tab ht3 (hs3.leafy hct.leafy) (by rw [s3]; simp)).mono ?_
    rintro r w13 ⟨rfl, he13⟩
    rw [s3]
    refine xseq ?_
    refine xifT (decide_eq_true rfl) ?_
    refine xifT rfl ?_
    refine (c_Longest t ((((hct9.extN he10).extN he11).extN he12).extN he13).tree (by omega)).mono ?_
    rintro r w14 ⟨rfl, he14⟩
    have hl2 : t.er.long = 2 := by rw [hct.can.long l0_pr.rises]; decide
    rw [hl2]
    exact ⟨rfl, (((hE10.transN he11).transN he12).transN he13).transN he14⟩
  · rintro vs g w11 ⟨rfl, he⟩
    exact ⟨rfl, he⟩
end
end law18
end Go.Proofs.YtbneecjeifionaaGreatDoor
