/-
  LoadPlays: Pairs that are loaded into what a version has, and keys that are dropped then, leave what the document leaves, or nothing is done, if one key may not be. Conditions: none.
-/
import Derived.Test.YtlhjfenpmnejoaaGreatOpen
import Derived.SevenTiedAt
import Derived.Test.YtlhjfenpmnejoaaGreatFa
import Derived.Test.YtlhjfenpmnejoaaGreatL21p
namespace Go.Proofs.YtlhjfenpmnejoaaGreat
open Go Go.RowKit X Go.ChangeShapes Go.WideShapes Go.ChangeAt
set_option linter.unusedVariables false
set_option linter.unusedSimpArgs false
namespace LoadPlays
set_option maxRecDepth 100000 in
theorem lifted (os : Os) (started : os.Started) (H : Type) (enc : TypeId × Value → H) :
    ReturnsInHanded {} Tryz.checked os n_law21_LoadPlays .any (Rows.loadPlaysSpec.pre6 enc P Tryz.f3 [] false)
      (Rows.loadPlaysSpec.post enc P Tryz.f3 false true false false) := by
  refine returnsInHanded_of_change (C := Tryz.checked) own started (by kernel_rfl) Tryz.func3
    (ChangeSpec.witness6 (enc := enc) (C := Tryz.checked) false ⟨#[], #[.slice none 0 0, .slice none 0 0, .slice none 0 0], []⟩ 8 (by kernel_rfl) (by kernel_rfl) (by kernel_rfl) (by kernel_rfl)) ?_
  intro W base args ds gs before hval0 hW _ _
  have hval : ∀ (j : Nat) t v, Tryz.f3.params[j]? = some t → args[j]? = some v → Value.okWide P W .any base t v := hval0
  have hW' := hW
  obtain ⟨p, q, hA0, hV, rfl, hfz, hnd⟩ := hW
  have hA : DataW.TrodAll enc P W 0 (fun _ => true) true Tryz.f3.params.toList args.toList ds p := hA0
  rw [Tryz.params3] at hA hval
  obtain ⟨v0, vs0, d0, ds0, p0, q0, hargs, rfl, rfl, h0, r0⟩ := trodAll_cons hA
  obtain ⟨v1, vs1, d1, ds1, p1, q1, rfl, rfl, rfl, h1, r1⟩ := trodAll_cons r0
  obtain ⟨v2, vs2, d2, ds2, p2, q2, rfl, rfl, rfl, h2, r2⟩ := trodAll_cons r1
  obtain ⟨rfl, rfl, rfl⟩ := trodAll_nil r2
  obtain rfl : args = #[v0, v1, v2] := by cases args; simp_all
  letI := floorOf W
  obtain ⟨l0, hb0, hn0, hk0⟩ := open_ps (hval 0 _ v0 rfl rfl) h0
  obtain ⟨l1, hb1, hn1, hk1⟩ := open_ps (hval 1 _ v1 rfl rfl) h1
  obtain ⟨ks2, hb2, hn2, hk2⟩ := open_bss (sT := T_s_s_uint8) (by kernel_rfl) (hval 2 _ v2 rfl rfl) h2
  refine (law21.l_LoadPlays (lw_of W) hb0 hb1 hb2).out.mono fun e W' ⟨v, he, hv, hE⟩ => ?_
  subst he; subst hv
  exact ⟨_, rfl, law_post (by kernel_rfl) (by decide +kernel) rfl hW' rfl hE⟩
theorem inP : (Rows.loadPlaysRow.inPlace == P.inPlace n_law21_LoadPlays) = true := by kernel_rfl
theorem unf : (Rows.loadPlaysRow.unfollowed == P.unfollowed n_law21_LoadPlays) = true := by kernel_rfl
theorem rec' : (Rows.loadPlaysRow.recurses == P.recurses n_law21_LoadPlays) = true := by kernel_rfl
theorem nam : (Rows.loadPlaysRow.named == P.varsNamed n_law21_LoadPlays) = true := by kernel_rfl
theorem named : P.funcNamed Rows.loadPlaysRow.func = some n_law21_LoadPlays := by kernel_rfl
theorem goes : false = Rows.loadPlaysRow.goesBy P := by kernel_rfl
theorem facts : joinedFacts P n_law21_LoadPlays Tryz.f3 Rows.loadPlaysSpec Rows.loadPlaysRow = true := by
  unfold joinedFacts
  rw [Fa.laid, Fa.maps, Fa.stops, Fa.knobs, inP, unf, rec', nam, Fa.plainKeys, Fa.heard, Fa.may, Fa.lifts, Fa.make]
  kernel_rfl
theorem over : Rows.LoadPlaysSaid :=
  OpenClaim.holds_of_wide n_law21_LoadPlays Tryz.f3 rfl rfl rfl rfl rfl rfl rfl ⟨rfl, rfl, rfl, rfl, rfl⟩ rfl rfl rfl rfl rfl named Tryz.func3 facts
    (of_decide_eq_true (by kernel_rfl)) (by unfold Func.isWrapper; first | (rw [if_pos (by decide +kernel)]; kernel_rfl) | (rw [if_neg (by decide +kernel)]; exact ⟨rfl, rfl⟩))
    (fun os started H enc _ => lifted os started H enc)
end LoadPlays
end Go.Proofs.YtlhjfenpmnejoaaGreat
