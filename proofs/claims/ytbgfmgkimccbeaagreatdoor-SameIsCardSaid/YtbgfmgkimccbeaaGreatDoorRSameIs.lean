/-
  SameIs: Any two trees, that share nodes or not, are told to be the same just if they have the same pairs, and just if they have one shape, whichever stands first. Conditions: none but the listed tables of the library, which the card ties to the program's text.
-/
import Derived.Test.YtbgfmgkimccbeaaGreatDoorOpen
import Derived.Test.YtbgfmgkimccbeaaGreatDoorO28
import Derived.SevenTiedAt
import Derived.Test.YtbgfmgkimccbeaaGreatDoorFa
import Derived.Test.YtbgfmgkimccbeaaGreatDoorL28
import Derived.Test.YtbgfmgkimccbeaaGreatDoorCards
import Derived.Test.YtbgfmgkimccbeaaGreatDoorTie
namespace Go.Proofs.YtbgfmgkimccbeaaGreatDoor
open Go Go.RowKit X Go.ChangeShapes Go.WideShapes Go.ChangeAt
set_option linter.unusedVariables false
set_option linter.unusedSimpArgs false
namespace SameIs
set_option maxRecDepth 100000 in
theorem lifted (os : Os) (started : os.Started) (H : Type) (enc : TypeId × Value → H) :
    ReturnsInHanded {} Tryz.checked os n_law28_SameIs .any (fun w args => (Rows.sameIsSpec.pre enc P Tryz.f3 [] false w args ∧ laidMetH P laidL w) ∧ sizedMet enc P Tryz.f3 (OpenSpec.ofChange Rows.sameIsSpec) false w args)
      (Rows.sameIsSpec.post enc P Tryz.f3 false true false false) := by
  refine returnsInHanded_of_change_and (C := Tryz.checked) (X := fun w _ => laidMetH P laidL w) (fun _ _ _ hh h => h.of_heap hh) own started (by kernel_rfl) Tryz.func3
    (ChangeSpec.witness_shaped (enc := enc) (C := Tryz.checked) (os := os) (X := fun w _ => laidMetH P laidL w) false (World.doorLaid P 400 os) #[.slice none 0 0, .agg #[.bool false, .slice none 0 0, .slice none 0 0]] 8 rfl (World.shaped_of_RefB (by kernel_rfl) (by kernel_rfl)) (by kernel_rfl) (by kernel_rfl) (by kernel_rfl) (door_met os _)) ?_
  intro W base args ds gs before hval0 hW _ _ hL _
  have hval : ∀ (j : Nat) t v, Tryz.f3.params[j]? = some t → args[j]? = some v → Value.okWide P W .any base t v := hval0
  have hW' := hW
  obtain ⟨p, q, hA0, hV, rfl, hfz, hnd⟩ := hW
  have hA : DataW.TrodAll enc P W 0 (fun _ => true) true Tryz.f3.params.toList args.toList ds p := hA0
  rw [Tryz.params3] at hA hval
  obtain ⟨v0, vs0, d0, ds0, p0, q0, hargs, rfl, rfl, h0, r0⟩ := trodAll_cons hA
  obtain ⟨v1, vs1, d1, ds1, p1, q1, rfl, rfl, rfl, h1, r1⟩ := trodAll_cons r0
  obtain ⟨rfl, rfl, rfl⟩ := trodAll_nil r1
  obtain rfl : args = #[v0, v1] := by cases args; simp_all
  letI := floorOf W
  obtain ⟨l0, hb0, hn0, hk0⟩ := open_ps (hval 0 _ v0 rfl rfl) h0
  obtain ⟨ap1, pl1, ks1, ho1⟩ := law28.open_other h1
  refine (law28.l_SameIs (lw_of hL) hb0 ho1).out.mono fun e W' ⟨v, he, hv, hE⟩ => ?_
  subst he; subst hv
  exact ⟨_, rfl, law_post (by kernel_rfl) (by decide +kernel) rfl hW' rfl hE⟩
theorem inP : (Rows.sameIsRow.inPlace == P.inPlace n_law28_SameIs) = true := by kernel_rfl
theorem unf : (Rows.sameIsRow.unfollowed == P.unfollowed n_law28_SameIs) = true := by kernel_rfl
theorem rec' : (Rows.sameIsRow.recurses == P.recurses n_law28_SameIs) = true := by kernel_rfl
theorem nam : (Rows.sameIsRow.named == P.varsNamed n_law28_SameIs) = true := by kernel_rfl
theorem named : P.funcNamed Rows.sameIsRow.func = some n_law28_SameIs := by kernel_rfl
theorem goes : false = Rows.sameIsRow.goesBy P := by kernel_rfl
theorem facts : joinedFacts P n_law28_SameIs Tryz.f3 Rows.sameIsSpec Rows.sameIsRow = true := by
  unfold joinedFacts
  rw [Fa.laid, Fa.maps, Fa.stops, Fa.knobs, inP, unf, rec', nam, Fa.plainKeys, Fa.heard, Fa.may, Fa.lifts, Fa.make]
  kernel_rfl
theorem over : Rows.SameIsSaid :=
  OpenClaim.holds_of_wide n_law28_SameIs Tryz.f3 rfl rfl rfl rfl rfl rfl rfl ⟨rfl, rfl, rfl, rfl, rfl⟩ rfl rfl rfl rfl rfl named Tryz.func3 facts
    (of_decide_eq_true (by kernel_rfl)) (by unfold Func.isWrapper; first | (rw [if_pos (by decide +kernel)]; kernel_rfl) | (rw [if_neg (by decide +kernel)]; exact ⟨rfl, rfl⟩))
    (fun os started H enc _ => lifted os started H enc)
theorem card : Rows.SameIsCardSaid :=
  Claim7.holds_tied_plain_at .later [] [.data, .data, .data] true (true, "e6656ff8a329640e7b2c52d8e640f66c242630a4599e77e2aeee60f20d0797ad") false
    over (fun _ h => by cases h) (by kernel_rfl) (fun _ h => by cases h) sameIs_row_tie rfl ⟨rfl, rfl⟩ Fa.main rfl
    (fun f fn hf hfn => by
      obtain rfl : f = n_law28_SameIs := Option.some.inj (named.symm.trans hf) |>.symm
      obtain rfl : fn = Tryz.f3 := (Option.some.inj (Tryz.func3.symm.trans hfn)).symm
      exact ⟨Fa.looks, fun j t ht => by
        rw [Tryz.params3] at ht
        have hm := Array.mem_of_getElem? ht
        have hall : (Tryz.f3.params.toList.all fun u => !P.wantsStandIn u) = true := by kernel_rfl
        rw [Tryz.params3] at hall
        exact (show P.wantsStandIn t = false by simpa using List.all_eq_true.1 hall t (by simpa using hm))⟩)
    goes
end SameIs
end Go.Proofs.YtbgfmgkimccbeaaGreatDoor
