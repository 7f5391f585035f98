/-  law18: SubLong, SubIs, SubUnder.  -/
import Derived.Test.YtbneecjeifionaaGreatDoorL18
namespace Go.Proofs.YtbneecjeifionaaGreatDoor
open Go Go.RowKit X
set_option linter.unusedSimpArgs false
set_option linter.unusedVariables false
set_option linter.unusedSectionVars false
theorem repL_bv (n : Nat) : repL (cellsV (.int .u8 0)) n = (List.replicate n (0 : UInt8)).map bv := by
  induction n with
  | zero => rfl
  | succ n ih =>
    show cellsV (.int .u8 0) ++ repL _ n = _
    rw [ih]; rfl
variable [Floor]
namespace law18
section
variable {w : World}
theorem xmakeB {n : Nat} {ka : IntKind} {K : Value → World → Prop} (hn : n ≤ 1000000) (k : ∀ v w', Bs w' v (List.replicate n 0) → Ext No w w' → K v w') : XRun P (Instr.makeSlice T_s_uint8 (.int ka (n : Int)) (.int ka (n : Int))) w K := by
  refine make_own ei_u8 rfl rfl (Nat.le_refl _) (by omega) (by omega) fun b w1 hb hz hblk he => k _ w1 ?_ he
  rw [repL_bv] at hblk
  have := Bs.new hblk
  rw [List.length_replicate] at this
  exact this
theorem l_SubLong (hw : Lw w) {a b o : Nat} (ha : a < 4294967296) (hb : b < 4294967296) (ho : o < 18446744073709551616) : Ret P n_law18_SubLong [.int .u32 a, .int .u32 b, .int .u64 o] w fun r w' => r = .bool true ∧ Ext No w w' := by
  refine W_law18_SubLong ?_
  refine xrem (a := a) (b := 65536) (by omega) ?_
  refine xrem (a := b) (b := 70000) (by omega) ?_
  have ha1 : a % 65536 < 65536 := Nat.mod_lt _ (by omega)
  have hb1 : b % 70000 < 70000 := Nat.mod_lt _ (by omega)
  generalize a % 65536 = x at ha1
  generalize b % 70000 = y at hb1
  refine xj (fun vs w' => ∃ o' : Nat, o' ≠ 0 ∧ vs = [.int .u64 o'] ∧ w' = w) ?_ ?_
  · refine xifE (fun h => ⟨1, by omega, rfl, rfl⟩) fun h => ⟨o, by omega, rfl, rfl⟩
  rintro vs g w1 ⟨o', ho', rfl, rfl⟩
  refine xmakeB (by omega) fun va w2 hva he2 => ?_
  have hw2 := hw.extN he2
  refine (c_Leaf (ow := 1) (mt := none) (k := 0) hw2.mt0 hva (by simp; omega) (x := 5) (by omega)).mono ?_
  rintro r w3 ⟨na, rfl, hna, hnn, -, he3⟩
  have he3' : Ext No w2 w3 := he3.mono fun b _ hb => by cases hb
  have hw3 := hw2.extN he3'
  generalize hkey : List.replicate x (0 : UInt8) = key at hna
  have hkl : key.length = x := by rw [← hkey]; simp
  let t : T := .node na 1 key (some 5) [] fun _ => .nil
  have her0 : t.er = .node key (some 5) noE := rfl
  have ht3 : Tree w3 t := ⟨hna, fun _ => trivial⟩
  have hcan : Can t.er (fun k => if k = key then some 5 else none) := by rw [her0]; exact Can.leaf fun r => rfl
  have hlong : t.er.long = x := by
    rw [her0, E.long_node, dom_noE]
    simp [maxL, hkl]
  refine xmakeB (n := y) (by omega) fun vb w4 hvb he4 => ?_
  have hw4 := hw3.extN he4
  have ht4 := ht3.extN he4
  have hEw4 := (he2.transN he3').transN he4
  by_cases hbig : 65535 < y + x
  · refine (c_UnderBig (t := t) (mt := none) (n := 0) ht4 hw4.mt0 ho' hvb (by simp; omega) (by omega) (by simp [t]) (by rw [hlong]; simp; omega)).mono ?_
    rintro r w5 ⟨rfl, he5⟩
    refine xmakeB (n := y) (by omega) fun vc w6 hvc he6 => ?_
    refine (c_UnderNil (mt := none) ho').mono ?_
    rintro r w7 ⟨rfl, rfl⟩
    have ht7 := (ht4.extN he5).extN he6
    have hw7 := (hw4.extN he5).extN he6
    have hE7 := (hEw4.transN he5).transN he6
    refine xj (fun vs w' => vs = [.bool false] ∧ Ext No w7 w') ?_ ?_
    · refine xifF rfl ?_
      refine xifF rfl ?_
      refine xifF rfl ?_
      refine (c_Longest t ht7 (by omega)).mono ?_
      rintro r w8 ⟨rfl, he8⟩
      refine xi (r := (x : Int)) (wrapI (by omega)) ?_
      rw [hlong]
      refine xifF (by simp) ?_
      refine (c_Longest .nil trivial (by simp [E.long, T.er])).mono ?_
      rintro r w9 ⟨rfl, he9⟩
      exact ⟨rfl, he8.transN he9⟩
    rintro vs g w8 ⟨rfl, he8⟩
    refine xifF rfl ?_
    refine xi (r := (x : Int)) (wrapI (by omega)) ?_
    refine xi (r := (y : Int)) (wrapI (by omega)) ?_
    refine xi (r := ((x + y : Nat) : Int)) (by rw [wrapI (by omega)]; omega) ?_
    refine xifT (by simp; omega) ?_
    refine xj (fun vs w' => vs = [.bool true] ∧ Ext No w1 w') ?_ ?_
    · refine xifT rfl ?_
      refine xifT rfl ?_
      refine (c_alive (hw7.extN he8)).mono ?_
      rintro r w9 ⟨rfl, he9⟩
      exact ⟨rfl, (hE7.transN he8).transN he9⟩
    · rintro vs g w9 ⟨rfl, he⟩
      exact ⟨rfl, he⟩
  · refine (c_Under (t := t) (mt := none) (n := 0) ht4 hw4.mt0 ho' hvb hcan (by omega) (.inr (by rw [hlong]; simp; omega))).mono ?_
    rintro r w5 ⟨t', n', rfl, hs, hcan', -, her⟩
    have he5 : Ext No w4 w5 := hs.ext.mono fun b _ hb => by cases hb
    refine xmakeB (n := y) (by omega) fun vc w6 hvc he6 => ?_
    refine (c_UnderNil (mt := none) ho').mono ?_
    rintro r w7 ⟨rfl, rfl⟩
    have ht7 := (ht4.extN he5).extN he6
    have hw7 := (hw4.extN he5).extN he6
    have hE7 := (hEw4.transN he5).transN he6
    have hlong' : t'.er.long = y + x := by
      have e1 : partE (List.replicate y 0 ++ t.part) t.er = .node (List.replicate y 0 ++ key) (some 5) noE := rfl
      rw [her, e1, E.long_node, dom_noE]
      simp [maxL, hkl]
    refine xj (fun vs w' => vs = [.bool false] ∧ Ext No w7 w') ?_ ?_
    · refine xifF rfl ?_
      refine xifF rfl ?_
      refine xifF rfl ?_
      refine (c_Longest t ht7 (by omega)).mono ?_
      rintro r w8 ⟨rfl, he8⟩
      refine xi (r := (x : Int)) (wrapI (by omega)) ?_
      rw [hlong]
      refine xifF (by simp) ?_
      refine (c_Longest .nil trivial (by simp [E.long, T.er])).mono ?_
      rintro r w9 ⟨rfl, he9⟩
      exact ⟨rfl, he8.transN he9⟩
    rintro vs g w8 ⟨rfl, he8⟩
    refine xifF rfl ?_
    refine xi (r := (x : Int)) (wrapI (by omega)) ?_
    refine xi (r := (y : Int)) (wrapI (by omega)) ?_
    refine xi (r := ((x + y : Nat) : Int)) (by rw [wrapI (by omega)]; omega) ?_
    refine xifF (by simp; omega) ?_
    refine xj (fun vs w' => vs = [.bool true] ∧ Ext No w1 w') ?_ ?_
    · refine xifT rfl ?_
      refine (c_Longest t' ((hs.tree.extN he6).extN he8) (by omega)).mono ?_
      rintro r w9 ⟨rfl, he9⟩
      refine xi (r := (x : Int)) (wrapI (by omega)) ?_
      refine xi (r := (y : Int)) (wrapI (by omega)) ?_
      refine xi (r := ((x + y : Nat) : Int)) (by rw [wrapI (by omega)]; omega) ?_
      rw [hlong']
      refine xifT (by simp; omega) ?_
      refine (c_alive ((hw7.extN he8).extN he9)).mono ?_
      rintro r w10 ⟨rfl, he10⟩
      exact ⟨rfl, ((hE7.transN he8).transN he9).transN he10⟩
    · rintro vs g w9 ⟨rfl, he⟩
      exact ⟨rfl, he⟩
end
end law18
end Go.Proofs.YtbneecjeifionaaGreatDoor
