/-  law25: how a second tree is made, as it is handed over.  -/
import Derived.Test.YtbgfmgkimccbeaaGreatDoorOpen2
import Derived.Test.YtbgfmgkimccbeaaGreatDoorE25
namespace Go.Proofs.YtbgfmgkimccbeaaGreatDoor
open Go Go.RowKit X Go.ChangeShapes Go.WideShapes Go.ChangeAt
set_option linter.unusedSimpArgs false
set_option linter.unusedVariables false
set_option linter.unusedSectionVars false
namespace law25
noncomputable abbrev othF (i : Nat) : Field := (P.fieldsOf T_law25_Other).getD i { name := "", type := 0, offset := 0, embedded := false, tag := "", pkgPath := "", byteOffset := 0 }
theorem othU : P.underlying T_law25_Other = some (.struct #[othF 0, othF 1, othF 2]) := by kernel_rfl
theorem othC : P.cellsOf T_law25_Other = 3 := by kernel_rfl
theorem oth0 : (othF 0).type = T_bool ∧ (othF 0).offset = 0 := ⟨by kernel_rfl, by kernel_rfl⟩
theorem oth1 : (othF 1).type = T_s_ref01_Pair ∧ (othF 1).offset = 1 := ⟨by kernel_rfl, by kernel_rfl⟩
theorem oth2 : (othF 2).type = T_s_s_uint8 ∧ (othF 2).offset = 2 := ⟨by kernel_rfl, by kernel_rfl⟩
set_option maxRecDepth 100000 in
theorem open_other {H : Type} {enc : TypeId × Value → H} {W : World} {v : Value} {d : DataW H} {p : List MemPlace} (h : DataW.Trod enc P W 0 (fun _ => true) true T_law25_Other v d p) :
    letI := floorOf W; ∃ ap pl ks, Ot W v ap pl ks := by
  letI := floorOf W
  obtain ⟨fuel, hf⟩ := h
  obtain ⟨xs, k, hk, hxy, hcl, hxl, hfi⟩ := DataW.trod_struct othU hf
  rw [othC] at hcl
  have hxl : xs.length = 3 := by simpa using hxl
  have g0 := hfi 0 (othF 0) rfl
  have g1 := hfi 1 (othF 1) rfl
  have g2 := hfi 2 (othF 2) rfl
  rw [oth0.1, oth0.2] at g0
  rw [oth1.1, oth1.2] at g1
  rw [oth2.1, oth2.2] at g2
  obtain ⟨u0, e0, y0, h0⟩ := field1 (by omega) (by kernel_rfl) (by omega) g0
  obtain ⟨u1, e1, y1, h1⟩ := field1 (by omega) (by kernel_rfl) (by omega) g1
  obtain ⟨u2, e2, y2, h2⟩ := field1 (by omega) (by kernel_rfl) (by omega) g2
  obtain ⟨b, hb, -⟩ := DataW.trod_bool (by kernel_rfl) h0
  obtain ⟨pv, pl, hpv, hps, -, -⟩ := ps_core h1
  obtain ⟨dv, ks, hdv, hbs, -, -⟩ := bss_core (by kernel_rfl) h2
  obtain rfl : u0 = .bool b := by simpa using hb
  obtain rfl : u1 = pv := by simpa using hpv
  obtain rfl : u2 = dv := by simpa using hdv
  refine ⟨b, pl, ks, ⟨_, _, agg_of3 ?_, hps, hbs⟩⟩
  match hm : v.cells.toList, hcl with
  | [a, b, c], _ =>
    rw [hm] at e0 e1 e2
    simp at e0 e1 e2
    rw [e0, e1, e2]
end law25
end Go.Proofs.YtbgfmgkimccbeaaGreatDoor
