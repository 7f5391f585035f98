/-  What a law's pair holds.  -/
import Derived.Test.YtbleadagnpckbaaGreatDoorOpen
namespace Go.Proofs.YtbleadagnpckbaaGreatDoor
open Go Go.RowKit X Go.ChangeShapes Go.WideShapes Go.ChangeAt
set_option linter.unusedSimpArgs false
set_option linter.unusedVariables false
set_option linter.unusedSectionVars false
section
variable {H : Type} {enc : TypeId × Value → H} {W : World}
theorem agg_of {v a b : Value} (h : v.cells.toList = [a, b]) : v = .agg #[a, b] := by
  cases v with
  | agg cs =>
    have h3 : cs.toList = [a, b] := h
    congr 1
    rw [← h3]
  | _ => exact absurd (congrArg List.length h) (by simp [Value.cells])
theorem open_pair {v : Value} {d : DataW H} {p : List MemPlace} (h : DataW.Trod enc P W 0 (fun _ => true) true T_ref01_Pair v d p) :
    letI := floorOf W; ∃ kv k x, v = .agg #[kv, u64 x] ∧ Bs W kv k ∧ x < 18446744073709551616 ∧ k.length ≤ maxLen := by
  letI := floorOf W
  obtain ⟨f0, f1, hS, hC, ho0, ho1, ht0, ht1⟩ := pairS
  obtain ⟨fuel, hf⟩ := h
  obtain ⟨xs, k, hk, hxy, hcl, hxl, hfi⟩ := DataW.trod_struct hS hf
  have g0 := hfi 0 f0 rfl
  have g1 := hfi 1 f1 rfl
  rw [ht0, ho0, su8C] at g0
  rw [ht1, ho1, u64C] at g1
  rw [hC] at hcl
  obtain ⟨y0, hy0⟩ : ∃ y, xs[0]? = some y := ⟨_, List.getElem?_eq_getElem (by rw [hxl]; simp)⟩
  obtain ⟨y1, hy1⟩ : ∃ y, xs[1]? = some y := ⟨_, List.getElem?_eq_getElem (by rw [hxl]; simp)⟩
  rw [hy0] at g0
  rw [hy1] at g1
  obtain ⟨kv, bs, hv, hb, hbl⟩ := bs_core g0
  obtain ⟨z, e1, -, hwf⟩ := DataW.trod_int u64U g1
  obtain ⟨⟨n, rfl⟩, hmax⟩ := nat_of_wf hwf rfl
  have e3 : IntKind.u64.max = 18446744073709551615 := rfl
  have := hmax n rfl
  refine ⟨kv, bs, n, agg_of ?_, hb, by omega, hbl⟩
  match hm : v.cells.toList, hcl with
  | [a, b], _ =>
    rw [hm] at hv e1
    simp at hv e1
    rw [hv, e1]
end
end Go.Proofs.YtbleadagnpckbaaGreatDoor
