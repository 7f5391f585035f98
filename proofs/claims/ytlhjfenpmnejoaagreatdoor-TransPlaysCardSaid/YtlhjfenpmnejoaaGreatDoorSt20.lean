/-  law20: steps of transients, as they are handed over.  -/
import Derived.Test.YtlhjfenpmnejoaaGreatDoorOpen
import Derived.Test.YtlhjfenpmnejoaaGreatDoorL20h
namespace Go.Proofs.YtlhjfenpmnejoaaGreatDoor
open Go Go.RowKit X Go.ChangeShapes Go.WideShapes Go.ChangeAt
set_option linter.unusedSimpArgs false
set_option linter.unusedVariables false
set_option linter.unusedSectionVars false
namespace law20
noncomputable abbrev stpF (i : Nat) : Field := (P.fieldsOf T_law20_Step).getD i { name := "", type := 0, offset := 0, embedded := false, tag := "", pkgPath := "", byteOffset := 0 }
theorem stpU : P.underlying T_law20_Step = some (.struct #[stpF 0, stpF 1, stpF 2, stpF 3, stpF 4]) := by kernel_rfl
theorem stpC : P.cellsOf T_law20_Step = 5 := by kernel_rfl
theorem stp0 : (stpF 0).type = T_uint8 ∧ (stpF 0).offset = 0 := ⟨by kernel_rfl, by kernel_rfl⟩
theorem stp1 : (stpF 1).type = T_uint16 ∧ (stpF 1).offset = 1 := ⟨by kernel_rfl, by kernel_rfl⟩
theorem stp2 : (stpF 2).type = T_uint16 ∧ (stpF 2).offset = 2 := ⟨by kernel_rfl, by kernel_rfl⟩
theorem stp3 : (stpF 3).type = T_s_uint8 ∧ (stpF 3).offset = 3 := ⟨by kernel_rfl, by kernel_rfl⟩
theorem stp4 : (stpF 4).type = T_uint64 ∧ (stpF 4).offset = 4 := ⟨by kernel_rfl, by kernel_rfl⟩
section
variable {H : Type} {enc : TypeId × Value → H} {W : World}
theorem nat_core {t : TypeId} {k : IntKind} {m : Nat} (ht : P.underlying t = some (.int k)) (h0 : k.min = 0) (hm : k.max = m) {fuel : Nat} {u : Value} {x : DataW H × List MemPlace} (h : DataW.trod enc P W 0 (fun _ => true) true fuel t [u] = some x) : ∃ n : Nat, u = .int k n ∧ n ≤ m := by
  obtain ⟨n, hn, -, hw⟩ := DataW.trod_int ht h
  obtain ⟨⟨q, rfl⟩, h2⟩ := nat_of_wf hw h0
  have := h2 q rfl
  exact ⟨q, by simpa using hn, by omega⟩
set_option maxRecDepth 100000 in
theorem step_core {fuel : Nat} {cs : List Value} {x : DataW H × List MemPlace} (h : DataW.trod enc P W 0 (fun _ => true) true fuel T_law20_Step cs = some x) :
    letI := floorOf W; ∃ (s : Stp) (kv : Value), cs = [.int .u8 s.d, .int .u16 s.i, .int .u16 s.j, kv, u64 s.x] ∧ Bs W kv s.k ∧ s.d < 256 ∧ s.i < 65536 ∧ s.j < 65536 ∧ s.x < 18446744073709551616 := by
  letI := floorOf W
  obtain ⟨xs, k, hk, hxy, hcl, hxl, hfi⟩ := DataW.trod_struct stpU h
  rw [stpC] at hcl
  have hxl : xs.length = 5 := by simpa using hxl
  have g0 := hfi 0 (stpF 0) rfl
  have g1 := hfi 1 (stpF 1) rfl
  have g2 := hfi 2 (stpF 2) rfl
  have g3 := hfi 3 (stpF 3) rfl
  have g4 := hfi 4 (stpF 4) rfl
  rw [stp0.1, stp0.2] at g0
  rw [stp1.1, stp1.2] at g1
  rw [stp2.1, stp2.2] at g2
  rw [stp3.1, stp3.2] at g3
  rw [stp4.1, stp4.2] at g4
  obtain ⟨u0, e0, y0, h0⟩ := field1 (by omega) (by kernel_rfl) (by omega) g0
  obtain ⟨u1, e1, y1, h1⟩ := field1 (by omega) (by kernel_rfl) (by omega) g1
  obtain ⟨u2, e2, y2, h2⟩ := field1 (by omega) (by kernel_rfl) (by omega) g2
  obtain ⟨u3, e3, y3, h3⟩ := field1 (by omega) (by kernel_rfl) (by omega) g3
  obtain ⟨u4, e4, y4, h4⟩ := field1 (by omega) (by kernel_rfl) (by omega) g4
  obtain ⟨d, rfl, hd⟩ := nat_core (k := .u8) (m := 255) (by kernel_rfl) rfl rfl h0
  obtain ⟨i, rfl, hi⟩ := nat_core (k := .u16) (m := 65535) (by kernel_rfl) rfl rfl h1
  obtain ⟨jn, rfl, hj⟩ := nat_core (k := .u16) (m := 65535) (by kernel_rfl) rfl rfl h2
  obtain ⟨kv, kb, hkv, hbs, -⟩ := bs_core h3
  obtain ⟨z, rfl, hz⟩ := nat_core (k := .u64) (m := 18446744073709551615) (by kernel_rfl) rfl rfl h4
  obtain rfl : u3 = kv := by simpa using hkv
  refine ⟨⟨d, i, jn, kb, z⟩, _, ?_, hbs, by show d < _; omega, by show i < _; omega, by show jn < _; omega, by show z < _; omega⟩
  match cs, hcl with
  | [a, b, c, d', e], _ =>
    simp at e0 e1 e2 e3 e4
    rw [e0, e1, e2, e3, e4]
set_option maxRecDepth 100000 in
theorem open_steps {base : Nat} {v : Value} {d : DataW H} {p : List MemPlace} (hval : Value.okWide P W .any base T_s_law20_Step v) (h : DataW.Trod enc P W 0 (fun _ => true) true T_s_law20_Step v d p) :
    letI := floorOf W; ∃ ss, Sts W v ss := by
  letI := floorOf W
  have hs : P.underlying T_s_law20_Step = some (.slice T_law20_Step) := by kernel_rfl
  obtain ⟨a1, len, cap, rfl⟩ := okWide_slice hs hval
  obtain ⟨fuel, hf⟩ := h
  obtain ⟨v, n, cells, hv, hsl, hn, hel⟩ := row_core hs stpC (by omega) hf
  have each : ∀ i, ∃ s : Stp, i < n → ∃ kv, (cells.drop (i * 5)).take 5 = [.int .u8 s.d, .int .u16 s.i, .int .u16 s.j, kv, u64 s.x] ∧ Bs W kv s.k ∧ s.d < 256 ∧ s.i < 65536 ∧ s.j < 65536 ∧ s.x < 18446744073709551616 := fun i => by
    by_cases hi : i < n
    · obtain ⟨f, x', hx⟩ := hel i hi
      obtain ⟨s, kv, hs⟩ := step_core hx
      exact ⟨s, fun _ => ⟨kv, hs⟩⟩
    · exact ⟨⟨0, 0, 0, [], 0⟩, fun h => absurd h hi⟩
  obtain ⟨q, hq⟩ := Classical.axiomOfChoice each
  simp [Value.cells] at hv
  subst hv
  refine ⟨(List.range n).map q, cells, by simpa using hsl, fun i s hs => ?_⟩
  rw [List.getElem?_map] at hs
  have hi : i < n := by
    rcases Nat.lt_or_ge i n with h | h
    · exact h
    · rw [List.getElem?_eq_none (by simpa using h)] at hs; cases hs
  rw [List.getElem?_range hi] at hs
  obtain rfl : q i = s := by simpa using hs
  exact hq i hi
end
end law20
end Go.Proofs.YtlhjfenpmnejoaaGreatDoor
