/-
  InterLaws: By Left, what is shared with a union is the union of what is shared with both; a union shares with its parts the parts; what three share is shared two by two alike; by Sum, Least and Most the order of the two is nothing. Conditions: none but the listed tables of the library, which the card ties to the program's text.
-/
import Derived.Test.YtbgfmgkimccbeaaGreatDoorOpen
import Derived.Test.YtbgfmgkimccbeaaGreatDoorOpen2
import Derived.SevenTiedAt
import Derived.Test.YtbgfmgkimccbeaaGreatDoorFa
import Derived.Test.YtbgfmgkimccbeaaGreatDoorL25b
import Derived.Test.YtbgfmgkimccbeaaGreatDoorCards
import Derived.Test.YtbgfmgkimccbeaaGreatDoorTie
namespace Go.Proofs.YtbgfmgkimccbeaaGreatDoor
open Go Go.RowKit X Go.ChangeShapes Go.WideShapes Go.ChangeAt
set_option linter.unusedVariables false
set_option linter.unusedSimpArgs false
namespace InterLaws
set_option maxRecDepth 100000 in
theorem lifted (os : Os) (started : os.Started) (H : Type) (enc : TypeId × Value → H) :
    ReturnsInHanded {} Tryz.checked os n_law25_InterLaws .any (fun w args => (Rows.interLawsSpec.pre enc P Tryz.f6 [] false w args ∧ laidMetH P laidL w) ∧ sizedMet enc P Tryz.f6 (OpenSpec.ofChange Rows.interLawsSpec) false w args)
      (Rows.interLawsSpec.post enc P Tryz.f6 false true false false) := by
  refine returnsInHanded_of_change_and (C := Tryz.checked) (X := fun w _ => laidMetH P laidL w) (fun _ _ _ hh h => h.of_heap hh) own started (by kernel_rfl) Tryz.func6
    (ChangeSpec.witness_shaped (enc := enc) (C := Tryz.checked) (os := os) (X := fun w _ => laidMetH P laidL w) false (World.doorLaid P 400 os) #[.int .i64 0, .agg #[.slice none 0 0, .slice none 0 0, .slice none 0 0]] 8 rfl (World.shaped_of_RefB (by kernel_rfl) (by kernel_rfl)) (by kernel_rfl) (by kernel_rfl) (by kernel_rfl) (door_met os _)) ?_
  intro W base args ds gs before hval0 hW _ _ hL _
  have hval : ∀ (j : Nat) t v, Tryz.f6.params[j]? = some t → args[j]? = some v → Value.okWide P W .any base t v := hval0
  have hW' := hW
  obtain ⟨p, q, hA0, hV, rfl, hfz, hnd⟩ := hW
  have hA : DataW.TrodAll enc P W 0 (fun _ => true) true Tryz.f6.params.toList args.toList ds p := hA0
  rw [Tryz.params6] at hA hval
  obtain ⟨v0, vs0, d0, ds0, p0, q0, hargs, rfl, rfl, h0, r0⟩ := trodAll_cons hA
  obtain ⟨v1, vs1, d1, ds1, p1, q1, rfl, rfl, rfl, h1, r1⟩ := trodAll_cons r0
  obtain ⟨rfl, rfl, rfl⟩ := trodAll_nil r1
  obtain rfl : args = #[v0, v1] := by cases args; simp_all
  letI := floorOf W
  obtain ⟨a0, rfl, rfl, rfl, w0⟩ := open_int intU (hval 0 _ v0 rfl rfl) h0
  obtain ⟨va1, vb1, vc1, la1, lb1, lc1, rfl, ha1, hb1, hc1⟩ := open_ps3 (aT := T_a3_s_ref01_Pair) (by kernel_rfl) (by kernel_rfl) h1
  refine (law25.l_InterLaws (lw_of hL) ha1 hb1 hc1).out.mono fun e W' ⟨v, he, hv, hE⟩ => ?_
  subst he; subst hv
  exact ⟨_, rfl, law_post (by kernel_rfl) (by decide +kernel) rfl hW' rfl hE⟩
theorem inP : (Rows.interLawsRow.inPlace == P.inPlace n_law25_InterLaws) = true := by kernel_rfl
theorem unf : (Rows.interLawsRow.unfollowed == P.unfollowed n_law25_InterLaws) = true := by kernel_rfl
theorem rec' : (Rows.interLawsRow.recurses == P.recurses n_law25_InterLaws) = true := by kernel_rfl
theorem nam : (Rows.interLawsRow.named == P.varsNamed n_law25_InterLaws) = true := by kernel_rfl
theorem named : P.funcNamed Rows.interLawsRow.func = some n_law25_InterLaws := by kernel_rfl
theorem goes : false = Rows.interLawsRow.goesBy P := by kernel_rfl
theorem facts : joinedFacts P n_law25_InterLaws Tryz.f6 Rows.interLawsSpec Rows.interLawsRow = true := by
  unfold joinedFacts
  rw [Fa.laid, Fa.maps, Fa.stops, Fa.knobs, inP, unf, rec', nam, Fa.plainKeys, Fa.heard, Fa.may, Fa.lifts, Fa.make]
  kernel_rfl
theorem over : Rows.InterLawsSaid :=
  OpenClaim.holds_of_wide n_law25_InterLaws Tryz.f6 rfl rfl rfl rfl rfl rfl rfl ⟨rfl, rfl, rfl, rfl, rfl⟩ rfl rfl rfl rfl rfl named Tryz.func6 facts
    (of_decide_eq_true (by kernel_rfl)) (by unfold Func.isWrapper; first | (rw [if_pos (by decide +kernel)]; kernel_rfl) | (rw [if_neg (by decide +kernel)]; exact ⟨rfl, rfl⟩))
    (fun os started H enc _ => lifted os started H enc)
theorem card : Rows.InterLawsCardSaid :=
  Claim7.holds_tied_plain_at .later [] [.data, .data, .data] true (true, "e6656ff8a329640e7b2c52d8e640f66c242630a4599e77e2aeee60f20d0797ad") false
    over (fun _ h => by cases h) (by kernel_rfl) (fun _ h => by cases h) interLaws_row_tie rfl ⟨rfl, rfl⟩ Fa.main rfl
    (fun f fn hf hfn => by
      obtain rfl : f = n_law25_InterLaws := Option.some.inj (named.symm.trans hf) |>.symm
      obtain rfl : fn = Tryz.f6 := (Option.some.inj (Tryz.func6.symm.trans hfn)).symm
      exact ⟨Fa.looks, fun j t ht => by
        rw [Tryz.params6] at ht
        have hm := Array.mem_of_getElem? ht
        have hall : (Tryz.f6.params.toList.all fun u => !P.wantsStandIn u) = true := by kernel_rfl
        rw [Tryz.params6] at hall
        exact (show P.wantsStandIn t = false by simpa using List.all_eq_true.1 hall t (by simpa using hm))⟩)
    goes
end InterLaws
end Go.Proofs.YtbgfmgkimccbeaaGreatDoor
