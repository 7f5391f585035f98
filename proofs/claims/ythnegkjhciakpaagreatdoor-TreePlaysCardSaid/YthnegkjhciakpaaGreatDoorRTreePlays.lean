/-
  TreePlays: for steps handed over, versions made in one world by those steps answer as the document does, each keeping its own pairs, shape and world, and the call answers true. Conditions: none but the listed tables of the library, which the card ties to the program's text.
-/
import Derived.Test.YthnegkjhciakpaaGreatDoorOpen
import Derived.Test.YthnegkjhciakpaaGreatDoorSt19
import Derived.SevenTiedAt
import Derived.Test.YthnegkjhciakpaaGreatDoorFa
import Derived.Test.YthnegkjhciakpaaGreatDoorL19f
import Derived.Test.YthnegkjhciakpaaGreatDoorCards
import Derived.Test.YthnegkjhciakpaaGreatDoorTie
namespace Go.Proofs.YthnegkjhciakpaaGreatDoor
open Go Go.RowKit X Go.ChangeShapes Go.WideShapes Go.ChangeAt
set_option linter.unusedVariables false
set_option linter.unusedSimpArgs false
namespace TreePlays
set_option maxRecDepth 100000 in
theorem lifted (os : Os) (started : os.Started) (H : Type) (enc : TypeId × Value → H) :
    ReturnsInHanded {} Tryz.checked os n_law19_TreePlays .any (fun w args => (Rows.treePlaysSpec.pre enc P Tryz.f13 [] false w args ∧ laidMetH P laidL w) ∧ sizedMet enc P Tryz.f13 (OpenSpec.ofChange Rows.treePlaysSpec) false w args)
      (Rows.treePlaysSpec.post enc P Tryz.f13 false true false false) := by
  refine returnsInHanded_of_change_and (C := Tryz.checked) (X := fun w _ => laidMetH P laidL w) (fun _ _ _ hh h => h.of_heap hh) own started (by kernel_rfl) Tryz.func13
    (ChangeSpec.witness_shaped (enc := enc) (C := Tryz.checked) (os := os) (X := fun w _ => laidMetH P laidL w) false (World.doorLaid P 400 os) #[.slice none 0 0] 8 rfl (World.shaped_of_RefB (by kernel_rfl) (by kernel_rfl)) (by kernel_rfl) (by kernel_rfl) (by kernel_rfl) (door_met os _)) ?_
  intro W base args ds gs before hval0 hW _ _ hL _
  have hval : ∀ (j : Nat) t v, Tryz.f13.params[j]? = some t → args[j]? = some v → Value.okWide P W .any base t v := hval0
  have hW' := hW
  obtain ⟨p, q, hA0, hV, rfl, hfz, hnd⟩ := hW
  have hA : DataW.TrodAll enc P W 0 (fun _ => true) true Tryz.f13.params.toList args.toList ds p := hA0
  rw [Tryz.params13] at hA hval
  obtain ⟨v0, vs0, d0, ds0, p0, q0, hargs, rfl, rfl, h0, r0⟩ := trodAll_cons hA
  obtain ⟨rfl, rfl, rfl⟩ := trodAll_nil r0
  obtain rfl : args = #[v0] := by cases args; simp_all
  letI := floorOf W
  obtain ⟨ss0, hb0⟩ := law19.open_steps (hval 0 _ v0 rfl rfl) h0
  refine (law19.l_TreePlays (lw_of hL) hb0).out.mono fun e W' ⟨v, he, hv, hE⟩ => ?_
  subst he; subst hv
  exact ⟨_, rfl, law_post (by kernel_rfl) (by decide +kernel) rfl hW' rfl hE⟩
theorem inP : (Rows.treePlaysRow.inPlace == P.inPlace n_law19_TreePlays) = true := by kernel_rfl
theorem unf : (Rows.treePlaysRow.unfollowed == P.unfollowed n_law19_TreePlays) = true := by kernel_rfl
theorem rec' : (Rows.treePlaysRow.recurses == P.recurses n_law19_TreePlays) = true := by kernel_rfl
theorem nam : (Rows.treePlaysRow.named == P.varsNamed n_law19_TreePlays) = true := by kernel_rfl
theorem named : P.funcNamed Rows.treePlaysRow.func = some n_law19_TreePlays := by kernel_rfl
theorem goes : false = Rows.treePlaysRow.goesBy P := by kernel_rfl
theorem facts : joinedFacts P n_law19_TreePlays Tryz.f13 Rows.treePlaysSpec Rows.treePlaysRow = true := by
  unfold joinedFacts
  rw [Fa.laid, Fa.maps, Fa.stops, Fa.knobs, inP, unf, rec', nam, Fa.plainKeys, Fa.heard, Fa.may, Fa.lifts, Fa.make]
  kernel_rfl
theorem over : Rows.TreePlaysSaid :=
  OpenClaim.holds_of_wide n_law19_TreePlays Tryz.f13 rfl rfl rfl rfl rfl rfl rfl ⟨rfl, rfl, rfl, rfl, rfl⟩ rfl rfl rfl rfl rfl named Tryz.func13 facts
    (of_decide_eq_true (by kernel_rfl)) (by unfold Func.isWrapper; first | (rw [if_pos (by decide +kernel)]; kernel_rfl) | (rw [if_neg (by decide +kernel)]; exact ⟨rfl, rfl⟩))
    (fun os started H enc _ => lifted os started H enc)
theorem card : Rows.TreePlaysCardSaid :=
  Claim7.holds_tied_plain_at .later [] [.data, .data, .data] true (true, "a704693806137ac4fb80c92bdb3c5f2fc833f60a033a1035f2ecc40ff601c314") false
    over (fun _ h => by cases h) (by kernel_rfl) (fun _ h => by cases h) treePlays_row_tie rfl ⟨rfl, rfl⟩ Fa.main rfl
    (fun f fn hf hfn => by
      obtain rfl : f = n_law19_TreePlays := Option.some.inj (named.symm.trans hf) |>.symm
      obtain rfl : fn = Tryz.f13 := (Option.some.inj (Tryz.func13.symm.trans hfn)).symm
      exact ⟨Fa.looks, fun j t ht => by
        rw [Tryz.params13] at ht
        have hm := Array.mem_of_getElem? ht
        have hall : (Tryz.f13.params.toList.all fun u => !P.wantsStandIn u) = true := by kernel_rfl
        rw [Tryz.params13] at hall
        exact (show P.wantsStandIn t = false by simpa using List.all_eq_true.1 hall t (by simpa using hm))⟩)
    goes
end TreePlays
end Go.Proofs.YthnegkjhciakpaaGreatDoor
