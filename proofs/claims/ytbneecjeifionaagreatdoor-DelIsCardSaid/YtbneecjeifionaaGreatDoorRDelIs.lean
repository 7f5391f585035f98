/-
  DelIs: the canonical tree of any pairs, without any key, taken out by another owner, is the canonical one of the others, or refused if the key is too long; the first tree stays what it was. Conditions: none but the listed tables of the library, which the card ties to the program's text.
-/
import Derived.Test.YtbneecjeifionaaGreatDoorOpen
import Derived.SevenTiedAt
import Derived.Test.YtbneecjeifionaaGreatDoorL16
import Derived.Test.YtbneecjeifionaaGreatDoorCards
import Derived.Test.YtbneecjeifionaaGreatDoorTie
namespace Go.Proofs.YtbneecjeifionaaGreatDoor
open Go Go.RowKit X Go.ChangeShapes Go.WideShapes Go.ChangeAt
set_option linter.unusedVariables false
set_option linter.unusedSimpArgs false
namespace DelIs
set_option maxRecDepth 100000 in
theorem lifted (os : Os) (started : os.Started) (H : Type) (enc : TypeId × Value → H) :
    ReturnsInHanded {} Tryz.checked os n_law16_DelIs .any (fun w args => (Rows.delIsSpec.pre enc P Tryz.f12 [] false w args ∧ laidMetH P laidL w) ∧ sizedMet enc P Tryz.f12 (OpenSpec.ofChange Rows.delIsSpec) false w args)
      (Rows.delIsSpec.post enc P Tryz.f12 false true false false) := by
  refine returnsInHanded_of_change_and (C := Tryz.checked) (X := fun w _ => laidMetH P laidL w) (fun _ _ _ hh h => h.of_heap hh) own started (by kernel_rfl) Tryz.func12
    (ChangeSpec.witness_shaped (enc := enc) (C := Tryz.checked) (os := os) (X := fun w _ => laidMetH P laidL w) false (World.doorLaid P 400 os) #[.slice none 0 0, .slice none 0 0, .int .u64 0] 8 rfl (World.shaped_of_RefB (by kernel_rfl) (by kernel_rfl)) (by kernel_rfl) (by kernel_rfl) (by kernel_rfl) (door_met os _)) ?_
  intro W base args ds gs before hval0 hW _ _ hL _
  have hval : ∀ (j : Nat) t v, Tryz.f12.params[j]? = some t → args[j]? = some v → Value.okWide P W .any base t v := hval0
  have hW' := hW
  obtain ⟨p, q, hA0, hV, rfl, hfz, hnd⟩ := hW
  have hA : DataW.TrodAll enc P W 0 (fun _ => true) true Tryz.f12.params.toList args.toList ds p := hA0
  rw [Tryz.params12] at hA hval
  obtain ⟨v0, vs0, d0, ds0, p0, q0, hargs, rfl, rfl, h0, r0⟩ := trodAll_cons hA
  obtain ⟨v1, vs1, d1, ds1, p1, q1, rfl, rfl, rfl, h1, r1⟩ := trodAll_cons r0
  obtain ⟨v2, vs2, d2, ds2, p2, q2, rfl, rfl, rfl, h2, r2⟩ := trodAll_cons r1
  obtain ⟨rfl, rfl, rfl⟩ := trodAll_nil r2
  obtain rfl : args = #[v0, v1, v2] := by cases args; simp_all
  letI := floorOf W
  obtain ⟨l0, hb0, hn0, hk0⟩ := open_ps (hval 0 _ v0 rfl rfl) h0
  obtain ⟨b1, hb1, hn1⟩ := open_bs (hval 1 _ v1 rfl rfl) h1
  obtain ⟨a2, rfl, rfl, rfl, w2⟩ := open_int u64U (hval 2 _ v2 rfl rfl) h2
  have e2 := nat_of_wf w2 rfl
  obtain ⟨n2, rfl⟩ := e2.1
  refine (law16.l_DelIs (lw_of hL) hb0 hb1 (by have := e2.2 n2 rfl; have h : IntKind.u64.max = 18446744073709551615 := rfl; omega)).out.mono fun e W' ⟨v, he, hv, hE⟩ => ?_
  subst he; subst hv
  exact ⟨_, rfl, law_post (by kernel_rfl) (by decide +kernel) rfl hW' rfl hE⟩
theorem over : Rows.DelIsSaid :=
  OpenClaim.holds_of_wide n_law16_DelIs Tryz.f12 rfl rfl rfl rfl rfl rfl rfl ⟨rfl, rfl, rfl, rfl, rfl⟩ rfl rfl rfl rfl rfl (by kernel_rfl) Tryz.func12 (by kernel_rfl)
    (of_decide_eq_true (by kernel_rfl)) (by unfold Func.isWrapper; first | (rw [if_pos (by decide +kernel)]; kernel_rfl) | (rw [if_neg (by decide +kernel)]; exact ⟨rfl, rfl⟩))
    (fun os started H enc _ => lifted os started H enc)
theorem card : Rows.DelIsCardSaid :=
  Claim7.holds_tied_plain_at .later [] [.data, .data, .data] true (true, "347932ae680d32c14590396eac471733bac086ec97ecbc76a0f1f3a091466714") false
    over (fun _ h => by cases h) (by kernel_rfl) (fun _ h => by cases h) delIs_row_tie rfl ⟨rfl, rfl⟩ (by kernel_rfl) rfl
    (fun f fn hf hfn => by
      obtain rfl : f = n_law16_DelIs := Option.some.inj ((show P.funcNamed Rows.delIsRow.func = some n_law16_DelIs by kernel_rfl).symm.trans hf) |>.symm
      obtain rfl : fn = Tryz.f12 := (Option.some.inj (Tryz.func12.symm.trans hfn)).symm
      exact ⟨by kernel_rfl, fun j t ht => by
        rw [Tryz.params12] at ht
        have hm := Array.mem_of_getElem? ht
        have hall : (Tryz.f12.params.toList.all fun u => !P.wantsStandIn u) = true := by kernel_rfl
        rw [Tryz.params12] at hall
        exact (show P.wantsStandIn t = false by simpa using List.all_eq_true.1 hall t (by simpa using hm))⟩)
    (by kernel_rfl)
end DelIs
end Go.Proofs.YtbneecjeifionaaGreatDoor
