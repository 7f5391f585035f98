/-
  TreeOwners: the top node of a version that a put makes, where the value was not there, belongs to an owner above all that were given ahead, and below all that are given later. Conditions: none but the listed tables of the library, which the card ties to the program's text.
-/
import Derived.Test.YtbleadagnpckbaaGreatDoorOpen
import Derived.SevenTiedAt
import Derived.Test.YtbleadagnpckbaaGreatDoorFa
import Derived.Test.YtbleadagnpckbaaGreatDoorL19d
import Derived.Test.YtbleadagnpckbaaGreatDoorCards
import Derived.Test.YtbleadagnpckbaaGreatDoorTie
namespace Go.Proofs.YtbleadagnpckbaaGreatDoor
open Go Go.RowKit X Go.ChangeShapes Go.WideShapes Go.ChangeAt
set_option linter.unusedVariables false
set_option linter.unusedSimpArgs false
namespace TreeOwners
set_option maxRecDepth 100000 in
theorem lifted (os : Os) (started : os.Started) (H : Type) (enc : TypeId × Value → H) :
    ReturnsInHanded {} Tryz.checked os n_law19_TreeOwners .any (fun w args => (Rows.treeOwnersSpec.pre enc P Tryz.f12 [] false w args ∧ laidMetH P laidL w) ∧ sizedMet enc P Tryz.f12 (OpenSpec.ofChange Rows.treeOwnersSpec) false w args)
      (Rows.treeOwnersSpec.post enc P Tryz.f12 false true false false) := by
  refine returnsInHanded_of_change_and (C := Tryz.checked) (X := fun w _ => laidMetH P laidL w) (fun _ _ _ hh h => h.of_heap hh) own started (by kernel_rfl) Tryz.func12
    (ChangeSpec.witness_shaped (enc := enc) (C := Tryz.checked) (os := os) (X := fun w _ => laidMetH P laidL w) false (World.doorLaid P 400 os) #[.slice none 0 0] 8 rfl (World.shaped_of_RefB (by kernel_rfl) (by kernel_rfl)) (by kernel_rfl) (by kernel_rfl) (by kernel_rfl) (door_met os _)) ?_
  intro W base args ds gs before hval0 hW _ _ hL _
  have hval : ∀ (j : Nat) t v, Tryz.f12.params[j]? = some t → args[j]? = some v → Value.okWide P W .any base t v := hval0
  have hW' := hW
  obtain ⟨p, q, hA0, hV, rfl, hfz, hnd⟩ := hW
  have hA : DataW.TrodAll enc P W 0 (fun _ => true) true Tryz.f12.params.toList args.toList ds p := hA0
  rw [Tryz.params12] at hA hval
  obtain ⟨v0, vs0, d0, ds0, p0, q0, hargs, rfl, rfl, h0, r0⟩ := trodAll_cons hA
  obtain ⟨rfl, rfl, rfl⟩ := trodAll_nil r0
  obtain rfl : args = #[v0] := by cases args; simp_all
  letI := floorOf W
  obtain ⟨l0, hb0, hn0, hk0⟩ := open_ps (hval 0 _ v0 rfl rfl) h0
  refine (law19.l_TreeOwners (lw_of hL) hb0).out.mono fun e W' ⟨v, he, hv, hE⟩ => ?_
  subst he; subst hv
  exact ⟨_, rfl, law_post (by kernel_rfl) (by decide +kernel) rfl hW' rfl hE⟩
theorem inP : (Rows.treeOwnersRow.inPlace == P.inPlace n_law19_TreeOwners) = true := by kernel_rfl
theorem unf : (Rows.treeOwnersRow.unfollowed == P.unfollowed n_law19_TreeOwners) = true := by kernel_rfl
theorem rec' : (Rows.treeOwnersRow.recurses == P.recurses n_law19_TreeOwners) = true := by kernel_rfl
theorem nam : (Rows.treeOwnersRow.named == P.varsNamed n_law19_TreeOwners) = true := by kernel_rfl
theorem named : P.funcNamed Rows.treeOwnersRow.func = some n_law19_TreeOwners := by kernel_rfl
theorem goes : false = Rows.treeOwnersRow.goesBy P := by kernel_rfl
theorem facts : joinedFacts P n_law19_TreeOwners Tryz.f12 Rows.treeOwnersSpec Rows.treeOwnersRow = true := by
  unfold joinedFacts
  rw [Fa.laid, Fa.maps, Fa.stops, Fa.knobs, inP, unf, rec', nam, Fa.plainKeys, Fa.heard, Fa.may, Fa.lifts, Fa.make]
  kernel_rfl
theorem over : Rows.TreeOwnersSaid :=
  OpenClaim.holds_of_wide n_law19_TreeOwners Tryz.f12 rfl rfl rfl rfl rfl rfl rfl ⟨rfl, rfl, rfl, rfl, rfl⟩ rfl rfl rfl rfl rfl named Tryz.func12 facts
    (of_decide_eq_true (by kernel_rfl)) (by unfold Func.isWrapper; first | (rw [if_pos (by decide +kernel)]; kernel_rfl) | (rw [if_neg (by decide +kernel)]; exact ⟨rfl, rfl⟩))
    (fun os started H enc _ => lifted os started H enc)
theorem card : Rows.TreeOwnersCardSaid :=
  Claim7.holds_tied_plain_at .later [] [.data, .data, .data] true (true, "9601fa652f84f68cdf0ec5c69d1341cf8d186c47a8033c506bfb537af48b8c2a") false
    over (fun _ h => by cases h) (by kernel_rfl) (fun _ h => by cases h) treeOwners_row_tie rfl ⟨rfl, rfl⟩ Fa.main rfl
    (fun f fn hf hfn => by
      obtain rfl : f = n_law19_TreeOwners := Option.some.inj (named.symm.trans hf) |>.symm
      obtain rfl : fn = Tryz.f12 := (Option.some.inj (Tryz.func12.symm.trans hfn)).symm
      exact ⟨Fa.looks, fun j t ht => by
        rw [Tryz.params12] at ht
        have hm := Array.mem_of_getElem? ht
        have hall : (Tryz.f12.params.toList.all fun u => !P.wantsStandIn u) = true := by kernel_rfl
        rw [Tryz.params12] at hall
        exact (show P.wantsStandIn t = false by simpa using List.all_eq_true.1 hall t (by simpa using hm))⟩)
    goes
end TreeOwners
end Go.Proofs.YtbleadagnpckbaaGreatDoor
