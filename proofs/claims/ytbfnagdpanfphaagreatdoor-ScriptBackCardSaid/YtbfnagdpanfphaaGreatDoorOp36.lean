/-  law36: an operation, as it is handed over; the laws over the world of a law.  -/
import Derived.Test.YtbfnagdpanfphaaGreatDoorOpen
import Derived.Test.YtbfnagdpanfphaaGreatDoorSb
namespace Go.Proofs.YtbfnagdpanfphaaGreatDoor
open Go Go.RowKit X Go.ChangeShapes Go.WideShapes Go.ChangeAt
set_option linter.unusedSimpArgs false
set_option linter.unusedVariables false
set_option linter.unusedSectionVars false
namespace law36
noncomputable abbrev chgF (i : Nat) : Field := (P.fieldsOf T_ref29_Change).getD i { name := "", type := 0, offset := 0, embedded := false, tag := "", pkgPath := "", byteOffset := 0 }
theorem chgU : P.underlying T_ref29_Change = some (.struct #[chgF 0, chgF 1, chgF 2, chgF 3]) := by kernel_rfl
theorem chgCe : P.cellsOf T_ref29_Change = 4 := by kernel_rfl
theorem chg0 : (chgF 0).type = T_s_uint8 ∧ (chgF 0).offset = 0 := ⟨by kernel_rfl, by kernel_rfl⟩
theorem chg1 : (chgF 1).type = T_int ∧ (chgF 1).offset = 1 := ⟨by kernel_rfl, by kernel_rfl⟩
theorem chg2 : (chgF 2).type = T_uint64 ∧ (chgF 2).offset = 2 := ⟨by kernel_rfl, by kernel_rfl⟩
theorem chg3 : (chgF 3).type = T_uint64 ∧ (chgF 3).offset = 3 := ⟨by kernel_rfl, by kernel_rfl⟩
noncomputable abbrev opF (i : Nat) : Field := (P.fieldsOf T_ref35_Op).getD i { name := "", type := 0, offset := 0, embedded := false, tag := "", pkgPath := "", byteOffset := 0 }
theorem opU : P.underlying T_ref35_Op = some (.struct #[opF 0, opF 1, opF 2, opF 3, opF 4, opF 5, opF 6, opF 7, opF 8, opF 9, opF 10, opF 11]) := by kernel_rfl
theorem opCe : P.cellsOf T_ref35_Op = 12 := by kernel_rfl
theorem op0 : (opF 0).type = T_int ∧ (opF 0).offset = 0 := ⟨by kernel_rfl, by kernel_rfl⟩
theorem op1 : (opF 1).type = T_int ∧ (opF 1).offset = 1 := ⟨by kernel_rfl, by kernel_rfl⟩
theorem op2 : (opF 2).type = T_int ∧ (opF 2).offset = 2 := ⟨by kernel_rfl, by kernel_rfl⟩
theorem op3 : (opF 3).type = T_s_uint8 ∧ (opF 3).offset = 3 := ⟨by kernel_rfl, by kernel_rfl⟩
theorem op4 : (opF 4).type = T_s_uint8 ∧ (opF 4).offset = 4 := ⟨by kernel_rfl, by kernel_rfl⟩
theorem op5 : (opF 5).type = T_bool ∧ (opF 5).offset = 5 := ⟨by kernel_rfl, by kernel_rfl⟩
theorem op6 : (opF 6).type = T_uint64 ∧ (opF 6).offset = 6 := ⟨by kernel_rfl, by kernel_rfl⟩
theorem op7 : (opF 7).type = T_int ∧ (opF 7).offset = 7 := ⟨by kernel_rfl, by kernel_rfl⟩
theorem op8 : (opF 8).type = T_bool ∧ (opF 8).offset = 8 := ⟨by kernel_rfl, by kernel_rfl⟩
theorem op9 : (opF 9).type = T_s_ref01_Pair ∧ (opF 9).offset = 9 := ⟨by kernel_rfl, by kernel_rfl⟩
theorem op10 : (opF 10).type = T_s_ref29_Change ∧ (opF 10).offset = 10 := ⟨by kernel_rfl, by kernel_rfl⟩
theorem op11 : (opF 11).type = T_s_uint8 ∧ (opF 11).offset = 11 := ⟨by kernel_rfl, by kernel_rfl⟩
section
variable {H : Type} {enc : TypeId × Value → H} {W : World}
theorem i64_core {t : TypeId} (ht : P.underlying t = some (.int .i64)) {fuel : Nat} {u : Value} {x : DataW H × List MemPlace} (h : DataW.trod enc P W 0 (fun _ => true) true fuel t [u] = some x) : ∃ n : Int, u = .int .i64 n ∧ I64 n := by
  obtain ⟨n, hn, -, hw⟩ := DataW.trod_int ht h
  simp only [Lit.wf, Bool.and_eq_true, decide_eq_true_eq] at hw
  have e1 : IntKind.i64.min = -9223372036854775808 := rfl
  have e2 : IntKind.i64.max = 9223372036854775807 := rfl
  rw [e1, e2] at hw
  exact ⟨n, by simpa using hn, hw⟩
theorem nat_core {t : TypeId} {k : IntKind} {m : Nat} (ht : P.underlying t = some (.int k)) (h0 : k.min = 0) (hm : k.max = m) {fuel : Nat} {u : Value} {x : DataW H × List MemPlace} (h : DataW.trod enc P W 0 (fun _ => true) true fuel t [u] = some x) : ∃ n : Nat, u = .int k n ∧ n ≤ m := by
  obtain ⟨n, hn, -, hw⟩ := DataW.trod_int ht h
  obtain ⟨⟨q, rfl⟩, h2⟩ := nat_of_wf hw h0
  have := h2 q rfl
  exact ⟨q, by simpa using hn, by omega⟩
set_option maxRecDepth 100000 in
theorem chg_core {fuel : Nat} {cs : List Value} {x : DataW H × List MemPlace} (h : DataW.trod enc P W 0 (fun _ => true) true fuel T_ref29_Change cs = some x) :
    letI := floorOf W; ∃ (c : Chg) (kv : Value), cs = chC kv c ∧ Bs W kv c.key ∧ c.ok ∧ I64 c.kind := by
  letI := floorOf W
  obtain ⟨xs, k, hk, hxy, hcl, hxl, hfi⟩ := DataW.trod_struct chgU h
  rw [chgCe] at hcl
  have hxl : xs.length = 4 := by simpa using hxl
  have g0 := hfi 0 (chgF 0) rfl
  have g1 := hfi 1 (chgF 1) rfl
  have g2 := hfi 2 (chgF 2) rfl
  have g3 := hfi 3 (chgF 3) rfl
  rw [chg0.1, chg0.2] at g0
  rw [chg1.1, chg1.2] at g1
  rw [chg2.1, chg2.2] at g2
  rw [chg3.1, chg3.2] at g3
  obtain ⟨u0, e0, y0, h0⟩ := field1 (by omega) (by kernel_rfl) (by omega) g0
  obtain ⟨u1, e1, y1, h1⟩ := field1 (by omega) (by kernel_rfl) (by omega) g1
  obtain ⟨u2, e2, y2, h2⟩ := field1 (by omega) (by kernel_rfl) (by omega) g2
  obtain ⟨u3, e3, y3, h3⟩ := field1 (by omega) (by kernel_rfl) (by omega) g3
  obtain ⟨kv, kb, hkv, hbs, -⟩ := bs_core h0
  obtain ⟨n1, rfl, hn1⟩ := i64_core (by kernel_rfl) h1
  obtain ⟨z2, rfl, hz2⟩ := nat_core (k := .u64) (m := 18446744073709551615) (by kernel_rfl) rfl rfl h2
  obtain ⟨z3, rfl, hz3⟩ := nat_core (k := .u64) (m := 18446744073709551615) (by kernel_rfl) rfl rfl h3
  obtain rfl : u0 = kv := by simpa using hkv
  refine ⟨⟨kb, n1, z2, z3⟩, _, ?_, hbs, ⟨by show z2 < _; omega, by show z3 < _; omega⟩, hn1⟩
  match cs, hcl with
  | [a, b, c, d], _ =>
    simp at e0 e1 e2 e3
    rw [e0, e1, e2, e3]
set_option maxRecDepth 100000 in
theorem chgs_core {fuel : Nat} {cs : List Value} {x : DataW H × List MemPlace} (h : DataW.trod enc P W 0 (fun _ => true) true fuel T_s_ref29_Change cs = some x) :
    letI := floorOf W; ∃ v l, cs = [v] ∧ Cs W v l ∧ ∀ c ∈ l, I64 c.kind := by
  letI := floorOf W
  have hs : P.underlying T_s_ref29_Change = some (.slice T_ref29_Change) := by kernel_rfl
  obtain ⟨v, n, cells, hv, hsl, hn, hel⟩ := row_core hs chgCe (by omega) h
  have each : ∀ i, ∃ c : Chg, i < n → (∃ kv, (cells.drop (i * 4)).take 4 = chC kv c ∧ Bs W kv c.key ∧ c.ok) ∧ I64 c.kind := fun i => by
    by_cases hi : i < n
    · obtain ⟨f, x', hx⟩ := hel i hi
      obtain ⟨c, kv, h1, h2, h3, h4⟩ := chg_core hx
      exact ⟨c, fun _ => ⟨⟨kv, h1, h2, h3⟩, h4⟩⟩
    · exact ⟨⟨[], 0, 0, 0⟩, fun h => absurd h hi⟩
  obtain ⟨q, hq⟩ := Classical.axiomOfChoice each
  have hlen : ((List.range n).map q).length = n := by simp
  refine ⟨v, (List.range n).map q, hv, ⟨T_ref29_Change, cells, .inr rfl, by rw [hlen]; exact hsl.weak fun _ _ h => .inr h, ⟨by rw [hlen]; exact hsl.len, fun i c hs => ?_⟩⟩, fun c hc => ?_⟩
  · rw [List.getElem?_map] at hs
    have hi : i < n := by
      rcases Nat.lt_or_ge i n with h | h
      · exact h
      · rw [List.getElem?_eq_none (by simpa using h)] at hs; cases hs
    rw [List.getElem?_range hi] at hs
    obtain rfl : q i = c := by simpa using hs
    exact (hq i hi).1
  · obtain ⟨i, hi, rfl⟩ := List.mem_map.1 hc
    exact (hq i (List.mem_range.1 hi)).2
theorem agg_ofL {v : Value} {l : List Value} (h : v.cells.toList = l) (hl : l.length ≠ 1) : v = .agg l.toArray := by
  cases v with
  | agg cs =>
    have h3 : cs.toList = l := h
    rw [← h3]
  | _ => exact absurd (congrArg List.length h) (by simp [Value.cells]; omega)
set_option maxRecDepth 100000 in
theorem open_op {v : Value} {d : DataW H} {p : List MemPlace} (h : DataW.Trod enc P W 0 (fun _ => true) true T_ref35_Op v d p) :
    letI := floorOf W; ∃ (cs : List Value) (o : OpV), v = .agg cs.toArray ∧ OpC W o cs ∧ (o.Little → o.Near) := by
  letI := floorOf W
  obtain ⟨fuel, hf⟩ := h
  obtain ⟨xs, k, hk, hxy, hcl, hxl, hfi⟩ := DataW.trod_struct opU hf
  rw [opCe] at hcl
  have hxl : xs.length = 12 := by simpa using hxl
  have g0 := hfi 0 (opF 0) rfl
  rw [op0.1, op0.2] at g0
  obtain ⟨u0, e0, y0, h0⟩ := field1 (by omega) (by kernel_rfl) (by omega) g0
  have g1 := hfi 1 (opF 1) rfl
  rw [op1.1, op1.2] at g1
  obtain ⟨u1, e1, y1, h1⟩ := field1 (by omega) (by kernel_rfl) (by omega) g1
  have g2 := hfi 2 (opF 2) rfl
  rw [op2.1, op2.2] at g2
  obtain ⟨u2, e2, y2, h2⟩ := field1 (by omega) (by kernel_rfl) (by omega) g2
  have g3 := hfi 3 (opF 3) rfl
  rw [op3.1, op3.2] at g3
  obtain ⟨u3, e3, y3, h3⟩ := field1 (by omega) (by kernel_rfl) (by omega) g3
  have g4 := hfi 4 (opF 4) rfl
  rw [op4.1, op4.2] at g4
  obtain ⟨u4, e4, y4, h4⟩ := field1 (by omega) (by kernel_rfl) (by omega) g4
  have g5 := hfi 5 (opF 5) rfl
  rw [op5.1, op5.2] at g5
  obtain ⟨u5, e5, y5, h5⟩ := field1 (by omega) (by kernel_rfl) (by omega) g5
  have g6 := hfi 6 (opF 6) rfl
  rw [op6.1, op6.2] at g6
  obtain ⟨u6, e6, y6, h6⟩ := field1 (by omega) (by kernel_rfl) (by omega) g6
  have g7 := hfi 7 (opF 7) rfl
  rw [op7.1, op7.2] at g7
  obtain ⟨u7, e7, y7, h7⟩ := field1 (by omega) (by kernel_rfl) (by omega) g7
  have g8 := hfi 8 (opF 8) rfl
  rw [op8.1, op8.2] at g8
  obtain ⟨u8, e8, y8, h8⟩ := field1 (by omega) (by kernel_rfl) (by omega) g8
  have g9 := hfi 9 (opF 9) rfl
  rw [op9.1, op9.2] at g9
  obtain ⟨u9, e9, y9, h9⟩ := field1 (by omega) (by kernel_rfl) (by omega) g9
  have g10 := hfi 10 (opF 10) rfl
  rw [op10.1, op10.2] at g10
  obtain ⟨u10, e10, y10, h10⟩ := field1 (by omega) (by kernel_rfl) (by omega) g10
  have g11 := hfi 11 (opF 11) rfl
  rw [op11.1, op11.2] at g11
  obtain ⟨u11, e11, y11, h11⟩ := field1 (by omega) (by kernel_rfl) (by omega) g11
  obtain ⟨m0, rfl, r0⟩ := i64_core (by kernel_rfl) h0
  obtain ⟨m1, rfl, r1⟩ := i64_core (by kernel_rfl) h1
  obtain ⟨m2, rfl, r2⟩ := i64_core (by kernel_rfl) h2
  obtain ⟨kv, key, hkv, hb3, -⟩ := bs_core h3
  obtain ⟨tv, tok, htv, hb4, -⟩ := bs_core h4
  obtain ⟨b5, hb5, -⟩ := DataW.trod_bool (by kernel_rfl) h5
  obtain ⟨z6, rfl, hz6⟩ := nat_core (k := .u64) (m := 18446744073709551615) (by kernel_rfl) rfl rfl h6
  obtain ⟨m7, rfl, r7⟩ := i64_core (by kernel_rfl) h7
  obtain ⟨b8, hb8, -⟩ := DataW.trod_bool (by kernel_rfl) h8
  obtain ⟨pv, pl, hpv, hps, -, -⟩ := ps_core h9
  obtain ⟨cv, cl, hcv, hcs, hck⟩ := chgs_core h10
  obtain ⟨bv', byt, hbv, hb11, -⟩ := bs_core h11
  obtain rfl : u3 = kv := by simpa using hkv
  obtain rfl : u4 = tv := by simpa using htv
  obtain rfl : u5 = .bool b5 := by simpa using hb5
  obtain rfl : u8 = .bool b8 := by simpa using hb8
  obtain rfl : u9 = pv := by simpa using hpv
  obtain rfl : u10 = cv := by simpa using hcv
  obtain rfl : u11 = bv' := by simpa using hbv
  refine ⟨v.cells.toList, ⟨m0, m1, m2, key, tok, b5, z6, m7, b8, pl, cl, byt⟩, agg_ofL rfl (by omega), ⟨u3, u4, u9, u10, u11, ?_, hb3, hb4, hps, hcs, hb11⟩, fun hl => ⟨r0, r1, r2, r7, by show z6 < _; omega, hl.key, hl.to, hl.bytes, hl.prs, hl.chg, hl.pk, hl.ck, hck, hps.v64, hcs.ok⟩⟩
  match hm : v.cells.toList, hcl with
  | [a0, a1, a2, a3, a4, a5, a6, a7, a8, a9, a10, a11], _ =>
    rw [hm] at e0 e1 e2 e3 e4 e5 e6 e7 e8 e9 e10 e11
    simp at e0 e1 e2 e3 e4 e5 e6 e7 e8 e9 e10 e11
    rw [e0, e1, e2, e3, e4, e5, e6, e7, e8, e9, e10, e11]
end
section
variable [Floor] {w : World} {o : OpV} {cs : List Value}
theorem l_ScriptTexts (hw : Lw w) (ho : OpC w o cs) (hN : o.Little → o.Near) : Ret P n_law36_ScriptTexts [.agg cs.toArray] w fun r w' => r = .bool true ∧ Ext No w w' :=
  _root_.Go.Proofs.YtbfnagdpanfphaaGreatDoor.l_ScriptTexts hw.tab hw.fl ho hN
theorem l_ScriptBack (hw : Lw w) (ho : OpC w o cs) (hN : o.Little → o.Near) : Ret P n_law36_ScriptBack [.agg cs.toArray] w fun r w' => r = .bool true ∧ Ext No w w' :=
  _root_.Go.Proofs.YtbfnagdpanfphaaGreatDoor.l_ScriptBack hw.tab hw.fl ho hN
end
end law36
end Go.Proofs.YtbfnagdpanfphaaGreatDoor
