/-
  LoadOrder: Pairs by unlike keys, loaded in any two orders, make one shape. Conditions: none but the listed tables of the library, which the card ties to the program's text.
-/
import Derived.Test.YtlhjfenpmnejoaaGreatDoorOpen
import Derived.SevenTiedAt
import Derived.Test.YtlhjfenpmnejoaaGreatDoorFa
import Derived.Test.YtlhjfenpmnejoaaGreatDoorL21c
import Derived.Test.YtlhjfenpmnejoaaGreatDoorCards
import Derived.Test.YtlhjfenpmnejoaaGreatDoorTie
namespace Go.Proofs.YtlhjfenpmnejoaaGreatDoor
open Go Go.RowKit X Go.ChangeShapes Go.WideShapes Go.ChangeAt
set_option linter.unusedVariables false
set_option linter.unusedSimpArgs false
namespace LoadOrder
set_option maxRecDepth 100000 in
theorem lifted (os : Os) (started : os.Started) (H : Type) (enc : TypeId × Value → H) :
    ReturnsInHanded {} Tryz.checked os n_law21_LoadOrder .any (fun w args => (Rows.loadOrderSpec.pre enc P Tryz.f3 [] false w args ∧ laidMetH P laidL w) ∧ sizedMet enc P Tryz.f3 (OpenSpec.ofChange Rows.loadOrderSpec) false w args)
      (Rows.loadOrderSpec.post enc P Tryz.f3 false true false false) := by
  refine returnsInHanded_of_change_and (C := Tryz.checked) (X := fun w _ => laidMetH P laidL w) (fun _ _ _ hh h => h.of_heap hh) own started (by kernel_rfl) Tryz.func3
    (ChangeSpec.witness_shaped (enc := enc) (C := Tryz.checked) (os := os) (X := fun w _ => laidMetH P laidL w) false (World.doorLaid P 400 os) #[.slice none 0 0, .slice none 0 0] 8 rfl (World.shaped_of_RefB (by kernel_rfl) (by kernel_rfl)) (by kernel_rfl) (by kernel_rfl) (by kernel_rfl) (door_met os _)) ?_
  intro W base args ds gs before hval0 hW _ _ hL _
  have hval : ∀ (j : Nat) t v, Tryz.f3.params[j]? = some t → args[j]? = some v → Value.okWide P W .any base t v := hval0
  have hW' := hW
  obtain ⟨p, q, hA0, hV, rfl, hfz, hnd⟩ := hW
  have hA : DataW.TrodAll enc P W 0 (fun _ => true) true Tryz.f3.params.toList args.toList ds p := hA0
  rw [Tryz.params3] at hA hval
  obtain ⟨v0, vs0, d0, ds0, p0, q0, hargs, rfl, rfl, h0, r0⟩ := trodAll_cons hA
  obtain ⟨v1, vs1, d1, ds1, p1, q1, rfl, rfl, rfl, h1, r1⟩ := trodAll_cons r0
  obtain ⟨rfl, rfl, rfl⟩ := trodAll_nil r1
  obtain rfl : args = #[v0, v1] := by cases args; simp_all
  letI := floorOf W
  obtain ⟨l0, hb0, hn0, hk0⟩ := open_ps (hval 0 _ v0 rfl rfl) h0
  obtain ⟨l1, hb1, hn1, hk1⟩ := open_us (sT := T_s_uint16) (by kernel_rfl) (by kernel_rfl) (hval 1 _ v1 rfl rfl) h1
  refine (law21.l_LoadOrder (lw_of hL) hb0 hb1 hk1).out.mono fun e W' ⟨v, he, hv, hE⟩ => ?_
  subst he; subst hv
  exact ⟨_, rfl, law_post (by kernel_rfl) (by decide +kernel) rfl hW' rfl hE⟩
theorem inP : (Rows.loadOrderRow.inPlace == P.inPlace n_law21_LoadOrder) = true := by kernel_rfl
theorem unf : (Rows.loadOrderRow.unfollowed == P.unfollowed n_law21_LoadOrder) = true := by kernel_rfl
theorem rec' : (Rows.loadOrderRow.recurses == P.recurses n_law21_LoadOrder) = true := by kernel_rfl
theorem nam : (Rows.loadOrderRow.named == P.varsNamed n_law21_LoadOrder) = true := by kernel_rfl
theorem named : P.funcNamed Rows.loadOrderRow.func = some n_law21_LoadOrder := by kernel_rfl
theorem goes : false = Rows.loadOrderRow.goesBy P := by kernel_rfl
theorem facts : joinedFacts P n_law21_LoadOrder Tryz.f3 Rows.loadOrderSpec Rows.loadOrderRow = true := by
  unfold joinedFacts
  rw [Fa.laid, Fa.maps, Fa.stops, Fa.knobs, inP, unf, rec', nam, Fa.plainKeys, Fa.heard, Fa.may, Fa.lifts, Fa.make]
  kernel_rfl
theorem over : Rows.LoadOrderSaid :=
  OpenClaim.holds_of_wide n_law21_LoadOrder Tryz.f3 rfl rfl rfl rfl rfl rfl rfl ⟨rfl, rfl, rfl, rfl, rfl⟩ rfl rfl rfl rfl rfl named Tryz.func3 facts
    (of_decide_eq_true (by kernel_rfl)) (by unfold Func.isWrapper; first | (rw [if_pos (by decide +kernel)]; kernel_rfl) | (rw [if_neg (by decide +kernel)]; exact ⟨rfl, rfl⟩))
    (fun os started H enc _ => lifted os started H enc)
theorem card : Rows.LoadOrderCardSaid :=
  Claim7.holds_tied_plain_at .later [] [.data, .data, .data] true (true, "4ee6a22955100c205f9df38330be5b7c985d14307fe79f38cc30e21857d6e4a5") false
    over (fun _ h => by cases h) (by kernel_rfl) (fun _ h => by cases h) loadOrder_row_tie rfl ⟨rfl, rfl⟩ Fa.main rfl
    (fun f fn hf hfn => by
      obtain rfl : f = n_law21_LoadOrder := Option.some.inj (named.symm.trans hf) |>.symm
      obtain rfl : fn = Tryz.f3 := (Option.some.inj (Tryz.func3.symm.trans hfn)).symm
      exact ⟨Fa.looks, fun j t ht => by
        rw [Tryz.params3] at ht
        have hm := Array.mem_of_getElem? ht
        have hall : (Tryz.f3.params.toList.all fun u => !P.wantsStandIn u) = true := by kernel_rfl
        rw [Tryz.params3] at hall
        exact (show P.wantsStandIn t = false by simpa using List.all_eq_true.1 hall t (by simpa using hm))⟩)
    goes
end LoadOrder
end Go.Proofs.YtlhjfenpmnejoaaGreatDoor
