/-
  TransPlays: Versions and transients, made out of each other, written to in any order, and frozen, answer as the document's do; in the end each version has the pairs that it had when it was made, and their canonical tree. Conditions: none but the listed tables of the library, which the card ties to the program's text.
-/
import Derived.Test.YtlhjfenpmnejoaaGreatDoorOpen
import Derived.Test.YtlhjfenpmnejoaaGreatDoorSt20
import Derived.SevenTiedAt
import Derived.Test.YtlhjfenpmnejoaaGreatDoorFa
import Derived.Test.YtlhjfenpmnejoaaGreatDoorL20h
import Derived.Test.YtlhjfenpmnejoaaGreatDoorCards
import Derived.Test.YtlhjfenpmnejoaaGreatDoorTie
namespace Go.Proofs.YtlhjfenpmnejoaaGreatDoor
open Go Go.RowKit X Go.ChangeShapes Go.WideShapes Go.ChangeAt
set_option linter.unusedVariables false
set_option linter.unusedSimpArgs false
namespace TransPlays
set_option maxRecDepth 100000 in
theorem lifted (os : Os) (started : os.Started) (H : Type) (enc : TypeId × Value → H) :
    ReturnsInHanded {} Tryz.checked os n_law20_TransPlays .any (fun w args => (Rows.transPlaysSpec.pre enc P Tryz.f6 [] false w args ∧ laidMetH P laidL w) ∧ sizedMet enc P Tryz.f6 (OpenSpec.ofChange Rows.transPlaysSpec) false w args)
      (Rows.transPlaysSpec.post enc P Tryz.f6 false true false false) := by
  refine returnsInHanded_of_change_and (C := Tryz.checked) (X := fun w _ => laidMetH P laidL w) (fun _ _ _ hh h => h.of_heap hh) own started (by kernel_rfl) Tryz.func6
    (ChangeSpec.witness_shaped (enc := enc) (C := Tryz.checked) (os := os) (X := fun w _ => laidMetH P laidL w) false (World.doorLaid P 400 os) #[.slice none 0 0] 8 rfl (World.shaped_of_RefB (by kernel_rfl) (by kernel_rfl)) (by kernel_rfl) (by kernel_rfl) (by kernel_rfl) (door_met os _)) ?_
  intro W base args ds gs before hval0 hW _ _ hL _
  have hval : ∀ (j : Nat) t v, Tryz.f6.params[j]? = some t → args[j]? = some v → Value.okWide P W .any base t v := hval0
  have hW' := hW
  obtain ⟨p, q, hA0, hV, rfl, hfz, hnd⟩ := hW
  have hA : DataW.TrodAll enc P W 0 (fun _ => true) true Tryz.f6.params.toList args.toList ds p := hA0
  rw [Tryz.params6] at hA hval
  obtain ⟨v0, vs0, d0, ds0, p0, q0, hargs, rfl, rfl, h0, r0⟩ := trodAll_cons hA
  obtain ⟨rfl, rfl, rfl⟩ := trodAll_nil r0
  obtain rfl : args = #[v0] := by cases args; simp_all
  letI := floorOf W
  obtain ⟨ss0, hb0⟩ := law20.open_steps (hval 0 _ v0 rfl rfl) h0
  refine (law20.l_TransPlays (lw_of hL) hb0).out.mono fun e W' ⟨v, he, hv, hE⟩ => ?_
  subst he; subst hv
  exact ⟨_, rfl, law_post (by kernel_rfl) (by decide +kernel) rfl hW' rfl hE⟩
theorem inP : (Rows.transPlaysRow.inPlace == P.inPlace n_law20_TransPlays) = true := by kernel_rfl
theorem unf : (Rows.transPlaysRow.unfollowed == P.unfollowed n_law20_TransPlays) = true := by kernel_rfl
theorem rec' : (Rows.transPlaysRow.recurses == P.recurses n_law20_TransPlays) = true := by kernel_rfl
theorem nam : (Rows.transPlaysRow.named == P.varsNamed n_law20_TransPlays) = true := by kernel_rfl
theorem named : P.funcNamed Rows.transPlaysRow.func = some n_law20_TransPlays := by kernel_rfl
theorem goes : false = Rows.transPlaysRow.goesBy P := by kernel_rfl
theorem facts : joinedFacts P n_law20_TransPlays Tryz.f6 Rows.transPlaysSpec Rows.transPlaysRow = true := by
  unfold joinedFacts
  rw [Fa.laid, Fa.maps, Fa.stops, Fa.knobs, inP, unf, rec', nam, Fa.plainKeys, Fa.heard, Fa.may, Fa.lifts, Fa.make]
  kernel_rfl
theorem over : Rows.TransPlaysSaid :=
  OpenClaim.holds_of_wide n_law20_TransPlays Tryz.f6 rfl rfl rfl rfl rfl rfl rfl ⟨rfl, rfl, rfl, rfl, rfl⟩ rfl rfl rfl rfl rfl named Tryz.func6 facts
    (of_decide_eq_true (by kernel_rfl)) (by unfold Func.isWrapper; first | (rw [if_pos (by decide +kernel)]; kernel_rfl) | (rw [if_neg (by decide +kernel)]; exact ⟨rfl, rfl⟩))
    (fun os started H enc _ => lifted os started H enc)
theorem card : Rows.TransPlaysCardSaid :=
  Claim7.holds_tied_plain_at .later [] [.data, .data, .data] true (true, "4ee6a22955100c205f9df38330be5b7c985d14307fe79f38cc30e21857d6e4a5") false
    over (fun _ h => by cases h) (by kernel_rfl) (fun _ h => by cases h) transPlays_row_tie rfl ⟨rfl, rfl⟩ Fa.main rfl
    (fun f fn hf hfn => by
      obtain rfl : f = n_law20_TransPlays := Option.some.inj (named.symm.trans hf) |>.symm
      obtain rfl : fn = Tryz.f6 := (Option.some.inj (Tryz.func6.symm.trans hfn)).symm
      exact ⟨Fa.looks, fun j t ht => by
        rw [Tryz.params6] at ht
        have hm := Array.mem_of_getElem? ht
        have hall : (Tryz.f6.params.toList.all fun u => !P.wantsStandIn u) = true := by kernel_rfl
        rw [Tryz.params6] at hall
        exact (show P.wantsStandIn t = false by simpa using List.all_eq_true.1 hall t (by simpa using hm))⟩)
    goes
end TransPlays
end Go.Proofs.YtlhjfenpmnejoaaGreatDoor
