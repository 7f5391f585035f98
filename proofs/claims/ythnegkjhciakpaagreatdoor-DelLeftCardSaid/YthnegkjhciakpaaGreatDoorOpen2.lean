/-  What a law's slices hold, further: rows of anything; rows of bytes; a second tree's making.  -/
import Derived.Test.YthnegkjhciakpaaGreatDoorOpen
import Derived.Test.YthnegkjhciakpaaGreatDoorG1
namespace Go.Proofs.YthnegkjhciakpaaGreatDoor
open Go Go.RowKit X Go.ChangeShapes Go.WideShapes Go.ChangeAt
set_option linter.unusedSimpArgs false
set_option linter.unusedVariables false
set_option linter.unusedSectionVars false
section
variable {H : Type} {enc : TypeId × Value → H} {W : World}
/-- a slice of anything -/
theorem row_core {sT eT : TypeId} {sz : Nat} (hs : P.underlying sT = some (.slice eT)) (hc : P.cellsOf eT = sz) (h0 : 0 < sz) {fuel : Nat} {cs : List Value} {x : DataW H × List MemPlace} (h : DataW.trod enc P W 0 (fun _ => true) true fuel sT cs = some x) :
    letI := floorOf W; ∃ v n cells, cs = [v] ∧ Sl W (fun b _ => b < Floor.n) v sz n cells ∧ n ≤ maxLen ∧ ∀ i, i < n → ∃ fuel' x', DataW.trod enc P W 0 (fun _ => true) true fuel' eT ((cells.drop (i * sz)).take sz) = some x' := by
  letI := floorOf W
  rcases Deep.open_slice hs h with ⟨rfl, -⟩ | ⟨a, len, cap, m, n, D, Pl, rfl, -, hl, hm, hme, -, hel⟩
  · exact ⟨_, 0, [], rfl, Sl.nil, Nat.zero_le _, fun i hi => absurd hi (by omega)⟩
  · simp only [if_true] at hme
    subst hme
    rw [hc] at hel
    have hrd : ∀ j, j < m * sz → ∃ u, W.cell? (a.add j) = some u := fun j hj => by
      obtain ⟨cs', h1, -⟩ := hel (j / sz) (Nat.div_lt_of_lt_mul (by rw [Nat.mul_comm]; exact hj))
      obtain ⟨-, hlen, hcell⟩ := World.cells?_some h1
      have h2 := hcell (j % sz) (Nat.mod_lt _ h0)
      rw [Go.Deep.add_add] at h2
      rw [show j / sz * sz + j % sz = j by rw [Nat.mul_comm]; exact Nat.div_add_mod j sz] at h2
      rw [h2]
      exact ⟨_, List.getElem?_eq_getElem (by rw [hlen]; exact Nat.mod_lt _ h0)⟩
    have each : ∀ j, ∃ u, j < m * sz → W.cell? (a.add j) = some u := fun j => by
      by_cases hj : j < m * sz
      · obtain ⟨u, hu⟩ := hrd j hj
        exact ⟨u, fun _ => hu⟩
      · exact ⟨.pointer none, fun h => absurd h hj⟩
    obtain ⟨q, hq⟩ := Classical.axiomOfChoice each
    have hle : len * sz ≤ m * sz := Nat.mul_le_mul_right sz hl
    refine ⟨_, len, (List.range (len * sz)).map q, rfl, ⟨some a, m, rfl, by simp, hl, ?_⟩, by omega, fun i hi => ?_⟩
    · by_cases hc0 : m = 0
      · exact .inl hc0
      · obtain ⟨c, t, fz, ha, hh, hsz, hce⟩ := row_at (w := W) (a := a) (n := m * sz) (Nat.mul_pos (by omega) h0) hrd
        refine .inr ⟨a.block, a.off, c, t, fz, ha, lt_of_heap hh, hh, hsz, fun j hj => ?_⟩
        rw [hce j (by omega), hq j (by omega), List.getElem?_map, List.getElem?_range hj]
        rfl
    · obtain ⟨cs', h1, h2⟩ := hel i (by omega)
      obtain ⟨-, hlen, hcell⟩ := World.cells?_some h1
      have hle2 : (i + 1) * sz ≤ len * sz := Nat.mul_le_mul_right sz hi
      rw [Nat.succ_mul] at hle2
      have e : (((List.range (len * sz)).map q).drop (i * sz)).take sz = cs' := by
        apply List.ext_getElem?
        intro j
        rw [List.getElem?_take]
        split
        · rename_i hj
          have h3 := hcell j hj
          rw [Go.Deep.add_add] at h3
          rw [List.getElem?_drop, List.getElem?_map, List.getElem?_range (by omega), ← h3, hq _ (by omega)]
          rfl
        · rw [List.getElem?_eq_none (by omega)]
      rw [e]
      exact ⟨_, _, h2⟩
set_option maxRecDepth 100000 in
theorem bss_core {sT : TypeId} (hs : P.underlying sT = some (.slice T_s_uint8)) {fuel : Nat} {cs : List Value} {x : DataW H × List MemPlace} (h : DataW.trod enc P W 0 (fun _ => true) true fuel sT cs = some x) :
    letI := floorOf W; ∃ v ks, cs = [v] ∧ Bss W v ks ∧ ks.length ≤ maxLen ∧ ∀ k ∈ ks, k.length ≤ maxLen := by
  letI := floorOf W
  obtain ⟨v, n, cells, rfl, hsl, hn, hel⟩ := row_core hs su8C (by omega) h
  have each : ∀ i, ∃ k : Key, i < n → ∃ kv, cells[i]? = some kv ∧ Bs W kv k ∧ k.length ≤ maxLen := fun i => by
    by_cases hi : i < n
    · obtain ⟨f, x', hx⟩ := hel i hi
      obtain ⟨kv, bs, hv, hb, hl⟩ := bs_core hx
      refine ⟨bs, fun _ => ⟨kv, ?_, hb, hl⟩⟩
      have := congrArg (·[0]?) hv
      simp only [List.getElem?_take, List.getElem?_drop, Nat.mul_one, Nat.add_zero] at this
      simpa using this
    · exact ⟨[], fun h => absurd h hi⟩
  obtain ⟨q, hq⟩ := Classical.axiomOfChoice each
  refine ⟨v, (List.range n).map q, rfl, ⟨cells, by simpa using hsl, fun i k hk => ?_⟩, by simpa using hn, fun k hk => ?_⟩
  · rw [List.getElem?_map] at hk
    have hi : i < n := by
      rcases Nat.lt_or_ge i n with h | h
      · exact h
      · rw [List.getElem?_eq_none (by simpa using h)] at hk; cases hk
    rw [List.getElem?_range hi] at hk
    obtain rfl : q i = k := by simpa using hk
    obtain ⟨kv, h1, h2, -⟩ := hq i hi
    exact ⟨kv, h1, h2⟩
  · obtain ⟨i, hi, rfl⟩ := List.mem_map.1 hk
    obtain ⟨kv, -, -, h3⟩ := hq i (List.mem_range.1 hi)
    exact h3
set_option maxRecDepth 100000 in
theorem open_bss {sT : TypeId} (hs : P.underlying sT = some (.slice T_s_uint8)) {base : Nat} {v : Value} {d : DataW H} {p : List MemPlace} (hval : Value.okWide P W .any base sT v) (h : DataW.Trod enc P W 0 (fun _ => true) true sT v d p) :
    letI := floorOf W; ∃ ks, Bss W v ks ∧ ks.length ≤ maxLen ∧ ∀ k ∈ ks, k.length ≤ maxLen := by
  obtain ⟨a1, len, cap, rfl⟩ := okWide_slice hs hval
  obtain ⟨fuel, hf⟩ := h
  obtain ⟨v, ks, hv, hb, hl⟩ := bss_core hs hf
  simp [Value.cells] at hv
  subst hv
  exact ⟨ks, hb, hl⟩
theorem agg_of3 {v a b c : Value} (h : v.cells.toList = [a, b, c]) : v = .agg #[a, b, c] := by
  cases v with
  | agg cs =>
    have h3 : cs.toList = [a, b, c] := h
    congr 1
    rw [← h3]
  | _ => exact absurd (congrArg List.length h) (by simp [Value.cells])
set_option maxRecDepth 100000 in
/-- a struct's field, of one cell -/
theorem field1 {t : TypeId} {cs : List Value} {n : Nat} {xs : List (DataW H × List MemPlace)} {i o : Nat} (hi : i < xs.length) (hc : P.cellsOf t = 1) (ho : o < cs.length)
    (h : DataW.trod enc P W 0 (fun _ => true) true n t ((cs.drop o).take (P.cellsOf t)) = xs[i]?) : ∃ u, cs[o]? = some u ∧ ∃ y, DataW.trod enc P W 0 (fun _ => true) true n t [u] = some y := by
  rw [hc] at h
  refine ⟨cs[o], List.getElem?_eq_getElem ho, xs[i], ?_⟩
  rw [List.getElem?_eq_getElem hi] at h
  rw [← h]
  congr 1
  apply List.ext_getElem?
  intro j
  rw [List.getElem?_take]
  cases j with
  | zero => simp [ho]
  | succ j => simp
/-- three slices of pairs -/
theorem open_ps3 {aT : TypeId} (ha : P.underlying aT = some (.array 3 T_s_ref01_Pair)) (hc : P.cellsOf aT = 3) {v : Value} {d : DataW H} {p : List MemPlace} (h : DataW.Trod enc P W 0 (fun _ => true) true aT v d p) :
    letI := floorOf W; ∃ va vb vc la lb lc, v = .agg #[va, vb, vc] ∧ Ps W va la ∧ Ps W vb lb ∧ Ps W vc lc := by
  letI := floorOf W
  obtain ⟨fuel, hf⟩ := h
  obtain ⟨xs, k, hk, hxy, hcl, hxl, hel⟩ := DataW.trod_array ha hf
  rw [hc] at hcl
  have c1 : P.cellsOf T_s_ref01_Pair = 1 := by kernel_rfl
  have g : ∀ i, i < 3 → ∃ u, v.cells.toList[i]? = some u ∧ ∃ y, DataW.trod enc P W 0 (fun _ => true) true k T_s_ref01_Pair [u] = some y := fun i hi => by
    have := hel i hi
    refine field1 (i := i) (xs := xs) (by omega) c1 (by omega) ?_
    rw [c1, Nat.mul_one] at this
    rw [c1]; exact this
  obtain ⟨u0, e0, y0, h0⟩ := g 0 (by omega)
  obtain ⟨u1, e1, y1, h1⟩ := g 1 (by omega)
  obtain ⟨u2, e2, y2, h2⟩ := g 2 (by omega)
  obtain ⟨v0, l0, q0, p0, -, -⟩ := ps_core h0
  obtain ⟨v1, l1, q1, p1, -, -⟩ := ps_core h1
  obtain ⟨v2, l2, q2, p2, -, -⟩ := ps_core h2
  obtain rfl : u0 = v0 := by simpa using q0
  obtain rfl : u1 = v1 := by simpa using q1
  obtain rfl : u2 = v2 := by simpa using q2
  refine ⟨_, _, _, l0, l1, l2, agg_of3 ?_, p0, p1, p2⟩
  match hm : v.cells.toList, hcl with
  | [a, b, c], _ =>
    rw [hm] at e0 e1 e2
    simp at e0 e1 e2
    rw [e0, e1, e2]
end
end Go.Proofs.YthnegkjhciakpaaGreatDoor
