/-  law16: a slot, as it is handed over.  -/
import Derived.Test.YthnegkjhciakpaaGreatDoorOpen2
namespace Go.Proofs.YthnegkjhciakpaaGreatDoor
open Go Go.RowKit X Go.ChangeShapes Go.WideShapes Go.ChangeAt
set_option linter.unusedSimpArgs false
set_option linter.unusedVariables false
set_option linter.unusedSectionVars false
namespace law16
noncomputable abbrev sltF (i : Nat) : Field := (P.fieldsOf T_law16_Slot).getD i { name := "", type := 0, offset := 0, embedded := false, tag := "", pkgPath := "", byteOffset := 0 }
theorem sltU : P.underlying T_law16_Slot = some (.struct #[sltF 0, sltF 1]) := by kernel_rfl
theorem sltC : P.cellsOf T_law16_Slot = 2 := by kernel_rfl
theorem slt0 : (sltF 0).type = T_bool ∧ (sltF 0).offset = 0 := ⟨by kernel_rfl, by kernel_rfl⟩
theorem slt1 : (sltF 1).type = T_uint64 ∧ (sltF 1).offset = 1 := ⟨by kernel_rfl, by kernel_rfl⟩
theorem agg_of2' {v a b : Value} (h : v.cells.toList = [a, b]) : v = .agg #[a, b] := by
  cases v with
  | agg cs =>
    have h3 : cs.toList = [a, b] := h
    congr 1
    rw [← h3]
  | _ => exact absurd (congrArg List.length h) (by simp [Value.cells])
set_option maxRecDepth 100000 in
theorem open_slot {H : Type} {enc : TypeId × Value → H} {W : World} {v : Value} {d : DataW H} {p : List MemPlace} (h : DataW.Trod enc P W 0 (fun _ => true) true T_law16_Slot v d p) :
    ∃ (has : Bool) (x : Nat), v = .agg #[.bool has, u64 x] ∧ x < 18446744073709551616 := by
  obtain ⟨fuel, hf⟩ := h
  obtain ⟨xs, k, hk, hxy, hcl, hxl, hfi⟩ := DataW.trod_struct sltU hf
  rw [sltC] at hcl
  have hxl : xs.length = 2 := by simpa using hxl
  have g0 := hfi 0 (sltF 0) rfl
  have g1 := hfi 1 (sltF 1) rfl
  rw [slt0.1, slt0.2] at g0
  rw [slt1.1, slt1.2] at g1
  obtain ⟨u0, e0, y0, h0⟩ := field1 (by omega) (by kernel_rfl) (by omega) g0
  obtain ⟨u1, e1, y1, h1⟩ := field1 (by omega) (by kernel_rfl) (by omega) g1
  obtain ⟨b, hb, -⟩ := DataW.trod_bool (by kernel_rfl) h0
  obtain ⟨n, hn, -, hw⟩ := DataW.trod_int (k := .u64) (by kernel_rfl) h1
  obtain ⟨⟨q, rfl⟩, h2⟩ := nat_of_wf hw rfl
  have h3 := h2 q rfl
  have h4 : IntKind.u64.max = 18446744073709551615 := rfl
  obtain rfl : u0 = .bool b := by simpa using hb
  obtain rfl : u1 = .int .u64 (q : Int) := by simpa using hn
  refine ⟨b, q, agg_of2' ?_, by omega⟩
  match hm : v.cells.toList, hcl with
  | [a, b], _ =>
    rw [hm] at e0 e1
    simp at e0 e1
    rw [e0, e1]
end law16
end Go.Proofs.YthnegkjhciakpaaGreatDoor
