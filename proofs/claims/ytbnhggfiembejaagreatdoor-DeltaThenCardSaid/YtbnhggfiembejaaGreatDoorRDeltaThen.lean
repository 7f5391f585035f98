/-
  DeltaThen: Any two lists of changes as one are the document's, or refused. Conditions: none but the listed tables of the library, which the card ties to the program's text.
-/
import Derived.Test.YtbnhggfiembejaaGreatDoorOpen
import Derived.Test.YtbnhggfiembejaaGreatDoorC29
import Derived.SevenTiedAt
import Derived.Test.YtbnhggfiembejaaGreatDoorFa
import Derived.Test.YtbnhggfiembejaaGreatDoorCards
import Derived.Test.YtbnhggfiembejaaGreatDoorTie
namespace Go.Proofs.YtbnhggfiembejaaGreatDoor
open Go Go.RowKit X Go.ChangeShapes Go.WideShapes Go.ChangeAt
set_option linter.unusedVariables false
set_option linter.unusedSimpArgs false
namespace DeltaThen
set_option maxRecDepth 100000 in
theorem lifted (os : Os) (started : os.Started) (H : Type) (enc : TypeId × Value → H) :
    ReturnsInHanded {} Tryz.checked os Q0z .any (fun w args => (Rows.deltaThenSpec.pre enc P Tryz.f7 [] false w args ∧ laidMetH P Um w) ∧ sizedMet enc P Tryz.f7 (OpenSpec.ofChange Rows.deltaThenSpec) false w args)
      (Rows.deltaThenSpec.post enc P Tryz.f7 false true false false) := by
  refine returnsInHanded_of_change_and (C := Tryz.checked) (X := fun w _ => laidMetH P Um w) (fun _ _ _ hh h => h.of_heap hh) own started (by kernel_rfl) Tryz.func7
    (ChangeSpec.witness_shaped (enc := enc) (C := Tryz.checked) (os := os) (X := fun w _ => laidMetH P Um w) false (World.doorLaid P 400 os) #[.slice none 0 0, .slice none 0 0, .bool false] 8 rfl (World.shaped_of_RefB (by kernel_rfl) (by kernel_rfl)) (by kernel_rfl) (by kernel_rfl) (by kernel_rfl) (He os _)) ?_
  intro W base args ds gs before hval0 hW _ _ hL _
  have hval : ∀ (j : Nat) t v, Tryz.f7.params[j]? = some t → args[j]? = some v → Value.okWide P W .any base t v := hval0
  have hW' := hW
  obtain ⟨p, q, hA0, hV, rfl, hfz, hnd⟩ := hW
  have hA : DataW.TrodAll enc P W 0 (fun _ => true) true Tryz.f7.params.toList args.toList ds p := hA0
  rw [Tryz.params7] at hA hval
  obtain ⟨v0, vs0, d0, ds0, p0, q0, hargs, rfl, rfl, h0, r0⟩ := trodAll_cons hA
  obtain ⟨v1, vs1, d1, ds1, p1, q1, rfl, rfl, rfl, h1, r1⟩ := trodAll_cons r0
  obtain ⟨v2, vs2, d2, ds2, p2, q2, rfl, rfl, rfl, h2, r2⟩ := trodAll_cons r1
  obtain ⟨rfl, rfl, rfl⟩ := trodAll_nil r2
  obtain rfl : args = #[v0, v1, v2] := by cases args; simp_all
  letI := YK W
  obtain ⟨l0, hb0⟩ := Qbs.QD8 (hval 0 _ v0 rfl rfl) h0
  obtain ⟨l1, hb1⟩ := Qbs.QD8 (hval 1 _ v1 rfl rfl) h1
  obtain ⟨b2, rfl⟩ := Qbs.open_bool (hval 2 _ v2 rfl rfl)
  refine (Qbs.QEC (Q7c hL) hb0 hb1 (big := b2)).out.mono fun e W' ⟨v, he, hv, hE⟩ => ?_
  subst he; subst hv
  exact ⟨_, rfl, H6 (by kernel_rfl) (by decide +kernel) rfl hW' rfl hE⟩
theorem inP : (Rows.deltaThenRow.inPlace == P.inPlace Q0z) = true := by kernel_rfl
theorem unf : (Rows.deltaThenRow.unfollowed == P.unfollowed Q0z) = true := by kernel_rfl
theorem Q3L : (Rows.deltaThenRow.recurses == P.recurses Q0z) = true := by kernel_rfl
theorem nam : (Rows.deltaThenRow.named == P.varsNamed Q0z) = true := by kernel_rfl
theorem named : P.funcNamed Rows.deltaThenRow.func = some Q0z := by kernel_rfl
theorem goes : false = Rows.deltaThenRow.goesBy P := by kernel_rfl
theorem facts : joinedFacts P Q0z Tryz.f7 Rows.deltaThenSpec Rows.deltaThenRow = true := by
  unfold joinedFacts
  rw [Fa.laid, Fa.maps, Fa.stops, Fa.knobs, inP, unf, Q3L, nam, Fa.plainKeys, Fa.heard, Fa.may, Fa.lifts, Fa.make]
  kernel_rfl
theorem over : Rows.DeltaThenSaid :=
  OpenClaim.holds_of_wide Q0z Tryz.f7 rfl rfl rfl rfl rfl rfl rfl ⟨rfl, rfl, rfl, rfl, rfl⟩ rfl rfl rfl rfl rfl named Tryz.func7 facts
    (of_decide_eq_true (by kernel_rfl)) (by unfold Func.isWrapper; first | (rw [if_pos (by decide +kernel)]; kernel_rfl) | (rw [if_neg (by decide +kernel)]; exact ⟨rfl, rfl⟩))
    (fun os started H enc _ => lifted os started H enc)
theorem card : Rows.DeltaThenCardSaid :=
  Claim7.holds_tied_plain_at .later [] [.data, .data, .data] true (true, "02dc4d7891be407fc02eadb544f4cb442fe5fcb76d454bd5ecbe947e76053e91") false
    over (fun _ h => by cases h) (by kernel_rfl) (fun _ h => by cases h) deltaThen_row_tie rfl ⟨rfl, rfl⟩ Fa.main rfl
    (fun f fn hf hfn => by
      obtain rfl : f = Q0z := Option.some.inj (named.symm.trans hf) |>.symm
      obtain rfl : fn = Tryz.f7 := (Option.some.inj (Tryz.func7.symm.trans hfn)).symm
      exact ⟨Fa.looks, fun j t ht => by
        rw [Tryz.params7] at ht
        have hm := Array.mem_of_getElem? ht
        have hall : (Tryz.f7.params.toList.all fun u => !P.wantsStandIn u) = true := by kernel_rfl
        rw [Tryz.params7] at hall
        exact (show P.wantsStandIn t = false by simpa using List.all_eq_true.1 hall t (by simpa using hm))⟩)
    goes
end DeltaThen
end Go.Proofs.YtbnhggfiembejaaGreatDoor
