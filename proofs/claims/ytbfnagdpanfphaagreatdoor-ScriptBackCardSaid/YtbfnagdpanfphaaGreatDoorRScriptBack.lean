/-
  ScriptBack: What script.Text writes of an operation, script.Parse reads back, bare, and it is one line; or Text refuses and writes nothing; the law answers true at every operation and leaves the input as it was. Conditions: none but the listed tables of the library, which the card ties to the program's text. Conditions: none but the listed tables of the library, which the card ties to the program's text.
-/
import Derived.Test.YtbfnagdpanfphaaGreatDoorOpen
import Derived.Test.YtbfnagdpanfphaaGreatDoorOp36
import Derived.SevenTiedAt
import Derived.Test.YtbfnagdpanfphaaGreatDoorFa
import Derived.Test.YtbfnagdpanfphaaGreatDoorOp36
import Derived.Test.YtbfnagdpanfphaaGreatDoorCards
import Derived.Test.YtbfnagdpanfphaaGreatDoorTie
namespace Go.Proofs.YtbfnagdpanfphaaGreatDoor
open Go Go.RowKit X Go.ChangeShapes Go.WideShapes Go.ChangeAt
set_option linter.unusedVariables false
set_option linter.unusedSimpArgs false
namespace ScriptBack
set_option maxRecDepth 100000 in
theorem lifted (os : Os) (started : os.Started) (H : Type) (enc : TypeId × Value → H) :
    ReturnsInHanded {} Tryz.checked os n_law36_ScriptBack .any (fun w args => (Rows.scriptBackSpec.pre enc P Tryz.f4 [] false w args ∧ laidMetH P laidL w) ∧ sizedMet enc P Tryz.f4 (OpenSpec.ofChange Rows.scriptBackSpec) false w args)
      (Rows.scriptBackSpec.post enc P Tryz.f4 false true false false) := by
  refine returnsInHanded_of_change_and (C := Tryz.checked) (X := fun w _ => laidMetH P laidL w) (fun _ _ _ hh h => h.of_heap hh) own started (by kernel_rfl) Tryz.func4
    (ChangeSpec.witness_shaped (enc := enc) (C := Tryz.checked) (os := os) (X := fun w _ => laidMetH P laidL w) false (World.laidAll P os laidL) #[.agg #[.int .i64 0, .int .i64 0, .int .i64 0, .slice none 0 0, .slice none 0 0, .bool false, .int .u64 0, .int .i64 0, .bool false, .slice none 0 0, .slice none 0 0, .slice none 0 0]] 8 (World.laidAll_os _ _ _) (World.shaped_of_ZipB (by kernel_rfl) (by kernel_rfl)) (by kernel_rfl) (by kernel_rfl) (by kernel_rfl) (door_met os _)) ?_
  intro W base args ds gs before hval0 hW _ _ hL _
  have hval : ∀ (j : Nat) t v, Tryz.f4.params[j]? = some t → args[j]? = some v → Value.okWide P W .any base t v := hval0
  have hW' := hW
  obtain ⟨p, q, hA0, hV, rfl, hfz, hnd⟩ := hW
  have hA : DataW.TrodAll enc P W 0 (fun _ => true) true Tryz.f4.params.toList args.toList ds p := hA0
  rw [Tryz.params4] at hA hval
  obtain ⟨v0, vs0, d0, ds0, p0, q0, hargs, rfl, rfl, h0, r0⟩ := trodAll_cons hA
  obtain ⟨rfl, rfl, rfl⟩ := trodAll_nil r0
  obtain rfl : args = #[v0] := by cases args; simp_all
  letI := floorOf W
  obtain ⟨cs0, o0, rfl, ho0, hn0⟩ := law36.open_op h0
  refine (law36.l_ScriptBack (lw_of hL) ho0 hn0).out.mono fun e W' ⟨v, he, hv, hE⟩ => ?_
  subst he; subst hv
  exact ⟨_, rfl, law_post (by kernel_rfl) (by decide +kernel) rfl hW' rfl hE⟩
theorem inP : (Rows.scriptBackRow.inPlace == P.inPlace n_law36_ScriptBack) = true := by kernel_rfl
theorem unf : (Rows.scriptBackRow.unfollowed == P.unfollowed n_law36_ScriptBack) = true := by kernel_rfl
theorem rec' : (Rows.scriptBackRow.recurses == P.recurses n_law36_ScriptBack) = true := by kernel_rfl
theorem nam : (Rows.scriptBackRow.named == P.varsNamed n_law36_ScriptBack) = true := by kernel_rfl
theorem named : P.funcNamed Rows.scriptBackRow.func = some n_law36_ScriptBack := by kernel_rfl
theorem goes : false = Rows.scriptBackRow.goesBy P := by kernel_rfl
theorem facts : joinedFacts P n_law36_ScriptBack Tryz.f4 Rows.scriptBackSpec Rows.scriptBackRow = true := by
  unfold joinedFacts
  rw [Fa.laid, Fa.maps, Fa.stops, Fa.knobs, inP, unf, rec', nam, Fa.plainKeys, Fa.heard, Fa.may, Fa.lifts, Fa.make]
  kernel_rfl
theorem over : Rows.ScriptBackSaid :=
  OpenClaim.holds_of_wide n_law36_ScriptBack Tryz.f4 rfl rfl rfl rfl rfl rfl rfl ⟨rfl, rfl, rfl, rfl, rfl⟩ rfl rfl rfl rfl rfl named Tryz.func4 facts
    (of_decide_eq_true (by kernel_rfl)) (by unfold Func.isWrapper; first | (rw [if_pos (by decide +kernel)]; kernel_rfl) | (rw [if_neg (by decide +kernel)]; exact ⟨rfl, rfl⟩))
    (fun os started H enc _ => lifted os started H enc)
theorem card : Rows.ScriptBackCardSaid :=
  Claim7.holds_tied_plain_at .later [] [.data, .data, .data, .data, .sentinel, .sentinel, .pinned] true (true, "2fa7c52225d8e15660fd74b1a982eef38944c399c2ee6e41ce8fa401c5176f7a") true
    over (fun _ h => by cases h) (by kernel_rfl) (fun _ h => by cases h) scriptBack_row_tie rfl ⟨rfl, rfl⟩ Fa.main rfl
    (fun f fn hf hfn => by
      obtain rfl : f = n_law36_ScriptBack := Option.some.inj (named.symm.trans hf) |>.symm
      obtain rfl : fn = Tryz.f4 := (Option.some.inj (Tryz.func4.symm.trans hfn)).symm
      exact ⟨Fa.looks, fun j t ht => by
        rw [Tryz.params4] at ht
        have hm := Array.mem_of_getElem? ht
        have hall : (Tryz.f4.params.toList.all fun u => !P.wantsStandIn u) = true := by kernel_rfl
        rw [Tryz.params4] at hall
        exact (show P.wantsStandIn t = false by simpa using List.all_eq_true.1 hall t (by simpa using hm))⟩)
    goes
end ScriptBack
end Go.Proofs.YtbfnagdpanfphaaGreatDoor
