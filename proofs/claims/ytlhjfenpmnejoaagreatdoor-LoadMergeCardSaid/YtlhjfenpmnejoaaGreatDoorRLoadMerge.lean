/-
  LoadMerge: A version with pairs, merged at once, in two parts, and one pair by one, is one shape; a version of nothing with pairs is what they make afresh. Conditions: none but the listed tables of the library, which the card ties to the program's text.
-/
import Derived.Test.YtlhjfenpmnejoaaGreatDoorOpen
import Derived.SevenTiedAt
import Derived.Test.YtlhjfenpmnejoaaGreatDoorFa
import Derived.Test.YtlhjfenpmnejoaaGreatDoorL21b
import Derived.Test.YtlhjfenpmnejoaaGreatDoorCards
import Derived.Test.YtlhjfenpmnejoaaGreatDoorTie
namespace Go.Proofs.YtlhjfenpmnejoaaGreatDoor
open Go Go.RowKit X Go.ChangeShapes Go.WideShapes Go.ChangeAt
set_option linter.unusedVariables false
set_option linter.unusedSimpArgs false
namespace LoadMerge
set_option maxRecDepth 100000 in
theorem lifted (os : Os) (started : os.Started) (H : Type) (enc : TypeId × Value → H) :
    ReturnsInHanded {} Tryz.checked os n_law21_LoadMerge .any (fun w args => (Rows.loadMergeSpec.pre enc P Tryz.f5 [] false w args ∧ laidMetH P laidL w) ∧ sizedMet enc P Tryz.f5 (OpenSpec.ofChange Rows.loadMergeSpec) false w args)
      (Rows.loadMergeSpec.post enc P Tryz.f5 false true false false) := by
  refine returnsInHanded_of_change_and (C := Tryz.checked) (X := fun w _ => laidMetH P laidL w) (fun _ _ _ hh h => h.of_heap hh) own started (by kernel_rfl) Tryz.func5
    (ChangeSpec.witness_shaped (enc := enc) (C := Tryz.checked) (os := os) (X := fun w _ => laidMetH P laidL w) false (World.doorLaid P 400 os) #[.slice none 0 0, .slice none 0 0, .slice none 0 0] 8 rfl (World.shaped_of_RefB (by kernel_rfl) (by kernel_rfl)) (by kernel_rfl) (by kernel_rfl) (by kernel_rfl) (door_met os _)) ?_
  intro W base args ds gs before hval0 hW _ _ hL _
  have hval : ∀ (j : Nat) t v, Tryz.f5.params[j]? = some t → args[j]? = some v → Value.okWide P W .any base t v := hval0
  have hW' := hW
  obtain ⟨p, q, hA0, hV, rfl, hfz, hnd⟩ := hW
  have hA : DataW.TrodAll enc P W 0 (fun _ => true) true Tryz.f5.params.toList args.toList ds p := hA0
  rw [Tryz.params5] at hA hval
  obtain ⟨v0, vs0, d0, ds0, p0, q0, hargs, rfl, rfl, h0, r0⟩ := trodAll_cons hA
  obtain ⟨v1, vs1, d1, ds1, p1, q1, rfl, rfl, rfl, h1, r1⟩ := trodAll_cons r0
  obtain ⟨v2, vs2, d2, ds2, p2, q2, rfl, rfl, rfl, h2, r2⟩ := trodAll_cons r1
  obtain ⟨rfl, rfl, rfl⟩ := trodAll_nil r2
  obtain rfl : args = #[v0, v1, v2] := by cases args; simp_all
  letI := floorOf W
  obtain ⟨l0, hb0, hn0, hk0⟩ := open_ps (hval 0 _ v0 rfl rfl) h0
  obtain ⟨l1, hb1, hn1, hk1⟩ := open_ps (hval 1 _ v1 rfl rfl) h1
  obtain ⟨l2, hb2, hn2, hk2⟩ := open_ps (hval 2 _ v2 rfl rfl) h2
  refine (law21.l_LoadMerge (lw_of hL) hb0 hb1 hb2).out.mono fun e W' ⟨v, he, hv, hE⟩ => ?_
  subst he; subst hv
  exact ⟨_, rfl, law_post (by kernel_rfl) (by decide +kernel) rfl hW' rfl hE⟩
theorem inP : (Rows.loadMergeRow.inPlace == P.inPlace n_law21_LoadMerge) = true := by kernel_rfl
theorem unf : (Rows.loadMergeRow.unfollowed == P.unfollowed n_law21_LoadMerge) = true := by kernel_rfl
theorem rec' : (Rows.loadMergeRow.recurses == P.recurses n_law21_LoadMerge) = true := by kernel_rfl
theorem nam : (Rows.loadMergeRow.named == P.varsNamed n_law21_LoadMerge) = true := by kernel_rfl
theorem named : P.funcNamed Rows.loadMergeRow.func = some n_law21_LoadMerge := by kernel_rfl
theorem goes : false = Rows.loadMergeRow.goesBy P := by kernel_rfl
theorem facts : joinedFacts P n_law21_LoadMerge Tryz.f5 Rows.loadMergeSpec Rows.loadMergeRow = true := by
  unfold joinedFacts
  rw [Fa.laid, Fa.maps, Fa.stops, Fa.knobs, inP, unf, rec', nam, Fa.plainKeys, Fa.heard, Fa.may, Fa.lifts, Fa.make]
  kernel_rfl
theorem over : Rows.LoadMergeSaid :=
  OpenClaim.holds_of_wide n_law21_LoadMerge Tryz.f5 rfl rfl rfl rfl rfl rfl rfl ⟨rfl, rfl, rfl, rfl, rfl⟩ rfl rfl rfl rfl rfl named Tryz.func5 facts
    (of_decide_eq_true (by kernel_rfl)) (by unfold Func.isWrapper; first | (rw [if_pos (by decide +kernel)]; kernel_rfl) | (rw [if_neg (by decide +kernel)]; exact ⟨rfl, rfl⟩))
    (fun os started H enc _ => lifted os started H enc)
theorem card : Rows.LoadMergeCardSaid :=
  Claim7.holds_tied_plain_at .later [] [.data, .data, .data] true (true, "4ee6a22955100c205f9df38330be5b7c985d14307fe79f38cc30e21857d6e4a5") false
    over (fun _ h => by cases h) (by kernel_rfl) (fun _ h => by cases h) loadMerge_row_tie rfl ⟨rfl, rfl⟩ Fa.main rfl
    (fun f fn hf hfn => by
      obtain rfl : f = n_law21_LoadMerge := Option.some.inj (named.symm.trans hf) |>.symm
      obtain rfl : fn = Tryz.f5 := (Option.some.inj (Tryz.func5.symm.trans hfn)).symm
      exact ⟨Fa.looks, fun j t ht => by
        rw [Tryz.params5] at ht
        have hm := Array.mem_of_getElem? ht
        have hall : (Tryz.f5.params.toList.all fun u => !P.wantsStandIn u) = true := by kernel_rfl
        rw [Tryz.params5] at hall
        exact (show P.wantsStandIn t = false by simpa using List.all_eq_true.1 hall t (by simpa using hm))⟩)
    goes
end LoadMerge
end Go.Proofs.YtlhjfenpmnejoaaGreatDoor
