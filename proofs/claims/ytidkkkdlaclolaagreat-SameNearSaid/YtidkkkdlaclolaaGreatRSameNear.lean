/-
  SameNear: A tree, and what a put or a deletion by a key makes of it, are the same just if nothing was to be done, and are looked into no more often than the key has steps. Conditions: none.
-/
import Derived.Test.YtidkkkdlaclolaaGreatOpen
import Derived.SevenTiedAt
import Derived.Test.YtidkkkdlaclolaaGreatFa
import Derived.Test.YtidkkkdlaclolaaGreatL28n
namespace Go.Proofs.YtidkkkdlaclolaaGreat
open Go Go.RowKit X Go.ChangeShapes Go.WideShapes Go.ChangeAt
set_option linter.unusedVariables false
set_option linter.unusedSimpArgs false
namespace SameNear
set_option maxRecDepth 100000 in
theorem lifted (os : Os) (started : os.Started) (H : Type) (enc : TypeId × Value → H) :
    ReturnsInHanded {} Tryz.checked os n_law28_SameNear .any (Rows.sameNearSpec.pre6 enc P Tryz.f3 [] false)
      (Rows.sameNearSpec.post enc P Tryz.f3 false true false false) := by
  refine returnsInHanded_of_change (C := Tryz.checked) own started (by kernel_rfl) Tryz.func3
    (ChangeSpec.witness6 (enc := enc) (C := Tryz.checked) false ⟨#[], #[.slice none 0 0, .agg #[.slice none 0 0, .int .u64 0]], []⟩ 8 (by kernel_rfl) (by kernel_rfl) (by kernel_rfl) (by kernel_rfl)) ?_
  intro W base args ds gs before hval0 hW _ _
  have hval : ∀ (j : Nat) t v, Tryz.f3.params[j]? = some t → args[j]? = some v → Value.okWide P W .any base t v := hval0
  have hW' := hW
  obtain ⟨p, q, hA0, hV, rfl, hfz, hnd⟩ := hW
  have hA : DataW.TrodAll enc P W 0 (fun _ => true) true Tryz.f3.params.toList args.toList ds p := hA0
  rw [Tryz.params3] at hA hval
  obtain ⟨v0, vs0, d0, ds0, p0, q0, hargs, rfl, rfl, h0, r0⟩ := trodAll_cons hA
  obtain ⟨v1, vs1, d1, ds1, p1, q1, rfl, rfl, rfl, h1, r1⟩ := trodAll_cons r0
  obtain ⟨rfl, rfl, rfl⟩ := trodAll_nil r1
  obtain rfl : args = #[v0, v1] := by cases args; simp_all
  letI := floorOf W
  obtain ⟨l0, hb0, hn0, hk0⟩ := open_ps (hval 0 _ v0 rfl rfl) h0
  obtain ⟨kv1, k1, x1, rfl, hb1, hx1, hn1⟩ := open_pair h1
  refine (law28.l_SameNear (lw_of W) hb0 hb1 hx1).out.mono fun e W' ⟨v, he, hv, hE⟩ => ?_
  subst he; subst hv
  exact ⟨_, rfl, law_post (by kernel_rfl) (by decide +kernel) rfl hW' rfl hE⟩
theorem inP : (Rows.sameNearRow.inPlace == P.inPlace n_law28_SameNear) = true := by kernel_rfl
theorem unf : (Rows.sameNearRow.unfollowed == P.unfollowed n_law28_SameNear) = true := by kernel_rfl
theorem rec' : (Rows.sameNearRow.recurses == P.recurses n_law28_SameNear) = true := by kernel_rfl
theorem nam : (Rows.sameNearRow.named == P.varsNamed n_law28_SameNear) = true := by kernel_rfl
theorem named : P.funcNamed Rows.sameNearRow.func = some n_law28_SameNear := by kernel_rfl
theorem goes : false = Rows.sameNearRow.goesBy P := by kernel_rfl
theorem facts : joinedFacts P n_law28_SameNear Tryz.f3 Rows.sameNearSpec Rows.sameNearRow = true := by
  unfold joinedFacts
  rw [Fa.laid, Fa.maps, Fa.stops, Fa.knobs, inP, unf, rec', nam, Fa.plainKeys, Fa.heard, Fa.may, Fa.lifts, Fa.make]
  kernel_rfl
theorem over : Rows.SameNearSaid :=
  OpenClaim.holds_of_wide n_law28_SameNear Tryz.f3 rfl rfl rfl rfl rfl rfl rfl ⟨rfl, rfl, rfl, rfl, rfl⟩ rfl rfl rfl rfl rfl named Tryz.func3 facts
    (of_decide_eq_true (by kernel_rfl)) (by unfold Func.isWrapper; first | (rw [if_pos (by decide +kernel)]; kernel_rfl) | (rw [if_neg (by decide +kernel)]; exact ⟨rfl, rfl⟩))
    (fun os started H enc _ => lifted os started H enc)
end SameNear
end Go.Proofs.YtidkkkdlaclolaaGreat
