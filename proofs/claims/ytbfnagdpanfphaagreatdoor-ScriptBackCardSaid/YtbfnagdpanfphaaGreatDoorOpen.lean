/-  What a law's slices hold: bytes, and pairs.  -/
import Derived.Test.YtbfnagdpanfphaaGreatDoorFr
import Derived.Deep.SlicePairs
import Derived.ChangeSlices
import Derived.Test.YtbfnagdpanfphaaGreatDoorStr
import Derived.Test.YtbfnagdpanfphaaGreatDoorG1
section
section
namespace Go.Proofs.YtbfnagdpanfphaaGreatDoor
open Go Go.RowKit X Go.ChangeShapes Go.WideShapes Go.ChangeAt
set_option linter.unusedSimpArgs false
set_option linter.unusedVariables false
set_option linter.unusedSectionVars false
theorem cell_at {w : World} {a : Addr} {i : Nat} {v : Value} (h : w.cell? (a.add i) = some v) : ∃ c t fz, w.heap[a.block]? = some (.cells c t fz) ∧ (i = 0 → a.spot = none) ∧ c[a.off + i]? = some v := by
  have hb : (a.add i).block = a.block := by unfold Addr.add; split <;> rfl
  unfold World.cell? at h
  rw [hb] at h
  cases hh : w.heap[a.block]? with
  | none => rw [hh] at h; cases h
  | some blk =>
    rw [hh] at h
    cases blk with
    | cells c t fz =>
      refine ⟨c, t, fz, rfl, ?_⟩
      simp only at h
      split at h
      · cases h
      · rename_i hs
        unfold Addr.add at h hs
        by_cases h0 : i = 0
        · rw [if_pos h0] at h hs
          subst h0
          exact ⟨fun _ => by simpa using hs, h⟩
        · rw [if_neg h0] at h
          exact ⟨fun h => absurd h h0, h⟩
    | _ => cases h
/-- where the cells of a slice lie -/
theorem row_at {w : World} {a : Addr} {n : Nat} (hn : 0 < n) (h : ∀ i, i < n → ∃ v, w.cell? (a.add i) = some v) :
    ∃ c t fz, a = ⟨a.block, a.off, none⟩ ∧ w.heap[a.block]? = some (.cells c t fz) ∧ a.off + n ≤ c.size ∧ ∀ i, i < n → c[a.off + i]? = w.cell? (a.add i) := by
  obtain ⟨v0, h0⟩ := h 0 hn
  obtain ⟨c, t, fz, hc, hs, -⟩ := cell_at h0
  have each : ∀ i, i < n → c[a.off + i]? = w.cell? (a.add i) := fun i hi => by
    obtain ⟨v, hv⟩ := h i hi
    obtain ⟨c', t', fz', hc', -, he⟩ := cell_at hv
    rw [hc] at hc'
    obtain ⟨rfl, rfl, rfl⟩ := by simpa using hc'
    rw [he, hv]
  refine ⟨c, t, fz, ?_, hc, ?_, each⟩
  · have := hs rfl
    cases a
    simp_all
  · obtain ⟨v, hv⟩ := h (n - 1) (by omega)
    have h1 := each (n - 1) (by omega)
    rw [hv] at h1
    have := (Array.getElem?_eq_some_iff.1 h1).1
    omega
theorem lt_of_heap {w : World} {b : Nat} {x : Obj} (h : w.heap[b]? = some x) : b < w.heap.size := (Array.getElem?_eq_some_iff.1 h).1
section
variable {H : Type} {enc : TypeId × Value → H} {W : World}
theorem u8U : P.underlying T_uint8 = some (.int .u8) := by kernel_rfl
theorem su8U : P.underlying T_s_uint8 = some (.slice T_uint8) := by kernel_rfl
theorem u8C : P.cellsOf T_uint8 = 1 := by kernel_rfl
theorem bs_core {fuel : Nat} {cs : List Value} {x : DataW H × List MemPlace} (h : DataW.trod enc P W 0 (fun _ => true) true fuel T_s_uint8 cs = some x) :
    letI := floorOf W; ∃ v bs, cs = [v] ∧ Bs W v bs ∧ bs.length ≤ maxLen := by
  letI := floorOf W
  rcases open_ints su8U u8U u8C h with ⟨rfl, -⟩ | ⟨a, len, cap, zs, rfl, -, hl, hm, hz, -, hcell, hwf⟩
  · exact ⟨_, [], rfl, Sl.nil, Nat.zero_le _⟩
  · simp only [if_true] at hz
    have hlen : ((zs.take len).map fun n => UInt8.ofNat n.toNat).length = len := by simp; omega
    have hbv : ((zs.take len).map fun n => UInt8.ofNat n.toNat).map bv = (zs.take len).map (Value.int .u8) := by
      rw [List.map_map]
      refine List.map_congr_left fun n hn => ?_
      have := hwf n (List.mem_of_mem_take hn)
      simp only [Lit.wf, Bool.and_eq_true, decide_eq_true_eq] at this
      have e1 : IntKind.u8.min = 0 := rfl
      have e2 : IntKind.u8.max = 255 := rfl
      rw [e1, e2] at this
      show Value.int .u8 _ = _
      congr 1
      rw [UInt8.toNat_ofNat']
      omega
    refine ⟨_, (zs.take len).map fun n => UInt8.ofNat n.toNat, rfl, ?_, by rw [hlen]; omega⟩
    show Sl W _ _ 1 _ _
    rw [hlen, hbv]
    refine ⟨some a, cap, rfl, by simp; omega, hl, ?_⟩
    by_cases hc : cap = 0
    · exact .inl hc
    · obtain ⟨c, t, fz, ha, hh, hsz, hel⟩ := row_at (w := W) (a := a) (n := cap) (by omega) fun i hi => ⟨_, hcell i (by omega)⟩
      refine .inr ⟨a.block, a.off, c, t, fz, ha, .inr (lt_of_heap hh), hh, by omega, fun i hi => ?_⟩
      rw [hel i (by omega), hcell i (by omega), List.getElem?_map, List.getElem?_take_of_lt (by omega), List.getElem?_eq_getElem (by omega)]
      simp [List.getD_eq_getElem?_getD, List.getElem?_eq_getElem (show i < zs.length by omega)]
set_option maxRecDepth 100000 in
theorem open_bs {base : Nat} {v : Value} {d : DataW H} {p : List MemPlace} (hval : Value.okWide P W .any base T_s_uint8 v) (h : DataW.Trod enc P W 0 (fun _ => true) true T_s_uint8 v d p) :
    letI := floorOf W; ∃ bs, Bs W v bs ∧ bs.length ≤ maxLen := by
  obtain ⟨a1, len, cap, rfl⟩ := okWide_slice su8U hval
  obtain ⟨fuel, hf⟩ := h
  obtain ⟨v, bs, hv, hb, hl⟩ := bs_core hf
  simp [Value.cells] at hv
  subst hv
  exact ⟨bs, hb, hl⟩
theorem pairS : ∃ f0 f1, P.underlying T_ref01_Pair = some (.struct #[f0, f1]) ∧ P.cellsOf T_ref01_Pair = 2 ∧ f0.offset = 0 ∧ f1.offset = 1 ∧ f0.type = T_s_uint8 ∧ f1.type = T_uint64 :=
  ⟨{ name := "Key", type := T_s_uint8, offset := 0, embedded := false, tag := "", pkgPath := "", byteOffset := 0 }, { name := "Val", type := T_uint64, offset := 1, embedded := false, tag := "", pkgPath := "", byteOffset := 24 }, by kernel_rfl, by kernel_rfl, rfl, rfl, rfl, rfl⟩
theorem spairU : P.underlying T_s_ref01_Pair = some (.slice T_ref01_Pair) := by kernel_rfl
theorem u64C : P.cellsOf T_uint64 = 1 := by kernel_rfl
theorem su8C : P.cellsOf T_s_uint8 = 1 := by kernel_rfl
theorem ps_core {fuel : Nat} {cs : List Value} {x : DataW H × List MemPlace} (h : DataW.trod enc P W 0 (fun _ => true) true fuel T_s_ref01_Pair cs = some x) :
    letI := floorOf W; ∃ v l, cs = [v] ∧ Ps W v l ∧ l.length ≤ maxLen ∧ ∀ p ∈ l, p.1.length ≤ maxLen := by
  letI := floorOf W
  obtain ⟨f0, f1, hS, hC, ho0, ho1, ht0, ht1⟩ := pairS
  rcases Deep.open_slice_pairs spairU hS hC ho0 ho1 (by rw [ht0]; exact su8C) (by rw [ht1]; exact u64C) h with ⟨rfl, -⟩ | ⟨a, len, cap, m, n, V0, V1, D0, D1, P0, P1, rfl, -, hl, hm, hme, -, hel⟩
  · exact ⟨_, [], rfl, ⟨T_ref01_Pair, [], .inr rfl, Sl.nil, PC.nil _⟩, Nat.zero_le _, fun p h => by cases h⟩
  · simp only [if_true] at hme
    subst hme
    have each : ∀ i, ∃ q : Key × Nat, i < m → Bs W (V0 i) q.1 ∧ q.1.length ≤ maxLen ∧ V1 i = u64 q.2 ∧ q.2 < 18446744073709551616 := fun i => by
      by_cases hi : i < m
      · obtain ⟨-, -, h0, h1⟩ := hel i hi
        rw [ht0] at h0
        rw [ht1] at h1
        obtain ⟨v, bs, hv, hb, hbl⟩ := bs_core h0
        obtain ⟨k, e1, -, hwf⟩ := DataW.trod_int u64U h1
        obtain ⟨⟨n, rfl⟩, hmax⟩ := nat_of_wf hwf rfl
        have e3 : IntKind.u64.max = 18446744073709551615 := rfl
        have := hmax n rfl
        obtain rfl : V0 i = v := by simpa using hv
        exact ⟨(bs, n), fun _ => ⟨hb, hbl, by simpa using e1, by simp only; omega⟩⟩
      · exact ⟨([], 0), fun h => absurd h hi⟩
    obtain ⟨q, hq⟩ := Classical.axiomOfChoice each
    have hlen : ((List.range len).map q).length = len := by simp
    refine ⟨_, (List.range len).map q, rfl, ⟨T_ref01_Pair, (List.range (len * 2)).map fun j => if j % 2 = 0 then V0 (j / 2) else V1 (j / 2), .inr rfl, ?_, ?_⟩, by rw [hlen]; omega, fun p hp => ?_⟩
    · rw [hlen]
      refine ⟨some a, m, rfl, by simp, hl, ?_⟩
      by_cases hc : m = 0
      · exact .inl hc
      · have hrd : ∀ j, j < m * 2 → W.cell? (a.add j) = some (if j % 2 = 0 then V0 (j / 2) else V1 (j / 2)) := fun j hj => by
          obtain ⟨g0, g1, -, -⟩ := hel (j / 2) (by omega)
          by_cases hj2 : j % 2 = 0
          · rw [if_pos hj2, ← g0]; exact congrArg (fun i => W.cell? (a.add i)) (by omega)
          · rw [if_neg hj2, ← g1]; exact congrArg (fun i => W.cell? (a.add i)) (by omega)
        obtain ⟨c, t, fz, ha, hh, hsz, hce⟩ := row_at (w := W) (a := a) (n := m * 2) (by omega) fun j hj => ⟨_, hrd j hj⟩
        refine .inr ⟨a.block, a.off, c, t, fz, ha, .inr (lt_of_heap hh), hh, hsz, fun j hj => ?_⟩
        rw [hce j (by omega), hrd j (by omega), List.getElem?_map, List.getElem?_range hj]
        rfl
    · refine ⟨by simp, fun i p hp => ?_⟩
      rw [List.getElem?_map] at hp
      have hi : i < len := by
        rcases Nat.lt_or_ge i len with h | h
        · exact h
        · rw [List.getElem?_eq_none (by simpa using h)] at hp; cases hp
      rw [List.getElem?_range hi] at hp
      obtain rfl : q i = p := by simpa using hp
      obtain ⟨h1, h2, h3, h4⟩ := hq i (by omega)
      refine ⟨V0 i, ?_, h1, ?_, h4⟩
      · rw [List.getElem?_map, List.getElem?_range (by omega)]
        simp
      · rw [List.getElem?_map, List.getElem?_range (by omega)]
        have e1 : (i * 2 + 1) % 2 ≠ 0 := by omega
        have e2 : (i * 2 + 1) / 2 = i := by omega
        simp [e1, e2, h3]
    · obtain ⟨i, hi, rfl⟩ := List.mem_map.1 hp
      have := List.mem_range.1 hi
      exact (hq i (by omega)).2.1
set_option maxRecDepth 100000 in
theorem open_ps {base : Nat} {v : Value} {d : DataW H} {p : List MemPlace} (hval : Value.okWide P W .any base T_s_ref01_Pair v) (h : DataW.Trod enc P W 0 (fun _ => true) true T_s_ref01_Pair v d p) :
    letI := floorOf W; ∃ l, Ps W v l ∧ l.length ≤ maxLen ∧ ∀ p ∈ l, p.1.length ≤ maxLen := by
  obtain ⟨a1, len, cap, rfl⟩ := okWide_slice spairU hval
  obtain ⟨fuel, hf⟩ := h
  obtain ⟨v, l, hv, hb, hl⟩ := ps_core hf
  simp [Value.cells] at hv
  subst hv
  exact ⟨l, hb, hl⟩
end
end Go.Proofs.YtbfnagdpanfphaaGreatDoor
end
section
namespace Go.Proofs.YtbfnagdpanfphaaGreatDoor
open Go Go.RowKit X Go.ChangeShapes Go.WideShapes Go.ChangeAt
set_option linter.unusedSimpArgs false
set_option linter.unusedVariables false
set_option linter.unusedSectionVars false
section
variable {H : Type} {enc : TypeId × Value → H} {W : World}
theorem agg_of {v a b : Value} (h : v.cells.toList = [a, b]) : v = .agg #[a, b] := by
  cases v with
  | agg cs =>
    have h3 : cs.toList = [a, b] := h
    congr 1
    rw [← h3]
  | _ => exact absurd (congrArg List.length h) (by simp [Value.cells])
theorem open_pair {v : Value} {d : DataW H} {p : List MemPlace} (h : DataW.Trod enc P W 0 (fun _ => true) true T_ref01_Pair v d p) :
    letI := floorOf W; ∃ kv k x, v = .agg #[kv, u64 x] ∧ Bs W kv k ∧ x < 18446744073709551616 ∧ k.length ≤ maxLen := by
  letI := floorOf W
  obtain ⟨f0, f1, hS, hC, ho0, ho1, ht0, ht1⟩ := pairS
  obtain ⟨fuel, hf⟩ := h
  obtain ⟨xs, k, hk, hxy, hcl, hxl, hfi⟩ := DataW.trod_struct hS hf
  have g0 := hfi 0 f0 rfl
  have g1 := hfi 1 f1 rfl
  rw [ht0, ho0, su8C] at g0
  rw [ht1, ho1, u64C] at g1
  rw [hC] at hcl
  obtain ⟨y0, hy0⟩ : ∃ y, xs[0]? = some y := ⟨_, List.getElem?_eq_getElem (by rw [hxl]; simp)⟩
  obtain ⟨y1, hy1⟩ : ∃ y, xs[1]? = some y := ⟨_, List.getElem?_eq_getElem (by rw [hxl]; simp)⟩
  rw [hy0] at g0
  rw [hy1] at g1
  obtain ⟨kv, bs, hv, hb, hbl⟩ := bs_core g0
  obtain ⟨z, e1, -, hwf⟩ := DataW.trod_int u64U g1
  obtain ⟨⟨n, rfl⟩, hmax⟩ := nat_of_wf hwf rfl
  have e3 : IntKind.u64.max = 18446744073709551615 := rfl
  have := hmax n rfl
  refine ⟨kv, bs, n, agg_of ?_, hb, by omega, hbl⟩
  match hm : v.cells.toList, hcl with
  | [a, b], _ =>
    rw [hm] at hv e1
    simp at hv e1
    rw [hv, e1]
end
end Go.Proofs.YtbfnagdpanfphaaGreatDoor
end
section
namespace Go.Proofs.YtbfnagdpanfphaaGreatDoor
open Go Go.RowKit X Go.ChangeShapes Go.WideShapes Go.ChangeAt
set_option linter.unusedSimpArgs false
set_option linter.unusedVariables false
set_option linter.unusedSectionVars false
/-- v is a slice of these numbers, and was there before -/
def Us [Floor] (w : World) (kd : IntKind) (v : Value) (ns : List Nat) : Prop := Sl w (fun b _ => b < Floor.n) v 1 ns.length (ns.map fun n : Nat => Value.int kd n)
section
variable [Floor] {w w' : World} {kd : IntKind} {v : Value} {ns : List Nat}
theorem Us.ext {X : Nat → Prop} (h : Us w kd v ns) (e : Ext X w w') (hx : ∀ b, X b → Floor.n ≤ b) : Us w' kd v ns := Sl.ext h e fun b _ _ _ hb _ hX => by have := hx b hX; omega
theorem Us.extN (h : Us w kd v ns) (e : Ext No w w') : Us w' kd v ns := Sl.extN h e
theorem Us.len {K : Value → Prop} (h : Us w kd v ns) (k : K (.int .i64 ns.length)) : xLen v K := xLen_sl h k
theorem Us.rd {K : Value → Prop} {ki : IntKind} {i : Int} (h : Us w kd v ns) (m : Nat) (hi : i = (m : Int)) (hm : m < ns.length) (k : K (.int kd (ns[m] : Nat))) : xIxS v (.int ki i) 1 fun u => xAt u fun a => XLd w a K :=
  Sl.rd1 h m hi hm (by simp [hm]) k
end
section
variable {H : Type} {enc : TypeId × Value → H} {W : World}
set_option maxRecDepth 100000 in
theorem us_core {sT eT : TypeId} {kd : IntKind} (hs : P.underlying sT = some (.slice eT)) (he : P.underlying eT = some (.int kd)) (hc : P.cellsOf eT = 1) (h0 : kd.min = 0) {fuel : Nat} {cs : List Value} {x : DataW H × List MemPlace} (h : DataW.trod enc P W 0 (fun _ => true) true fuel sT cs = some x) :
    letI := floorOf W; ∃ v ns, cs = [v] ∧ Us W kd v ns ∧ ns.length ≤ maxLen ∧ ∀ n ∈ ns, (n : Int) ≤ kd.max := by
  letI := floorOf W
  rcases open_ints hs he hc h with ⟨rfl, -⟩ | ⟨a, len, cap, zs, rfl, -, hl, hm, hz, -, hcell, hwf⟩
  · exact ⟨_, [], rfl, Sl.nil, Nat.zero_le _, fun n h => by cases h⟩
  · simp only [if_true] at hz
    have hw : ∀ n ∈ zs, 0 ≤ n ∧ n ≤ kd.max := fun n hn => by
      have := hwf n hn
      simp only [Lit.wf, Bool.and_eq_true, decide_eq_true_eq] at this
      rw [h0] at this
      exact this
    have hlen : ((zs.take len).map fun n => n.toNat).length = len := by simp; omega
    have hbv : (((zs.take len).map fun n => n.toNat).map fun n : Nat => Value.int kd n) = (zs.take len).map (Value.int kd) := by
      rw [List.map_map]
      refine List.map_congr_left fun n hn => ?_
      have := (hw n (List.mem_of_mem_take hn)).1
      show Value.int kd ((n.toNat : Nat) : Int) = Value.int kd n
      congr 1
      omega
    refine ⟨_, (zs.take len).map fun n => n.toNat, rfl, ?_, by rw [hlen]; omega, fun n hn => ?_⟩
    · show Sl W _ _ 1 _ _
      rw [hlen, hbv]
      refine ⟨some a, cap, rfl, by simp; omega, hl, ?_⟩
      by_cases hc : cap = 0
      · exact .inl hc
      · obtain ⟨c, t, fz, ha, hh, hsz, hel⟩ := row_at (w := W) (a := a) (n := cap) (by omega) fun i hi => ⟨_, hcell i (by omega)⟩
        refine .inr ⟨a.block, a.off, c, t, fz, ha, lt_of_heap hh, hh, by omega, fun i hi => ?_⟩
        rw [hel i (by omega), hcell i (by omega), List.getElem?_map, List.getElem?_take_of_lt (by omega), List.getElem?_eq_getElem (by omega)]
        simp [List.getD_eq_getElem?_getD, List.getElem?_eq_getElem (show i < zs.length by omega)]
    · obtain ⟨z, hz, rfl⟩ := List.mem_map.1 hn
      have := hw z (List.mem_of_mem_take hz)
      show ((z.toNat : Nat) : Int) ≤ _
      omega
end
end Go.Proofs.YtbfnagdpanfphaaGreatDoor
end
end
section
namespace Go.Proofs.YtbfnagdpanfphaaGreatDoor
open Go Go.RowKit X Go.ChangeShapes Go.WideShapes Go.ChangeAt
set_option linter.unusedSimpArgs false
set_option linter.unusedVariables false
set_option linter.unusedSectionVars false
section
variable {H : Type} {enc : TypeId × Value → H} {W : World}
/-- a slice of anything -/
theorem row_core {sT eT : TypeId} {sz : Nat} (hs : P.underlying sT = some (.slice eT)) (hc : P.cellsOf eT = sz) (h0 : 0 < sz) {fuel : Nat} {cs : List Value} {x : DataW H × List MemPlace} (h : DataW.trod enc P W 0 (fun _ => true) true fuel sT cs = some x) :
    letI := floorOf W; ∃ v n cells, cs = [v] ∧ Sl W (fun b _ => b < Floor.n) v sz n cells ∧ n ≤ maxLen ∧ ∀ i, i < n → ∃ fuel' x', DataW.trod enc P W 0 (fun _ => true) true fuel' eT ((cells.drop (i * sz)).take sz) = some x' := by
  letI := floorOf W
  rcases Deep.open_slice hs h with ⟨rfl, -⟩ | ⟨a, len, cap, m, n, D, Pl, rfl, -, hl, hm, hme, -, hel⟩
  · exact ⟨_, 0, [], rfl, Sl.nil, Nat.zero_le _, fun i hi => absurd hi (by omega)⟩
  · simp only [if_true] at hme
    subst hme
    rw [hc] at hel
    have hrd : ∀ j, j < m * sz → ∃ u, W.cell? (a.add j) = some u := fun j hj => by
      obtain ⟨cs', h1, -⟩ := hel (j / sz) (Nat.div_lt_of_lt_mul (by rw [Nat.mul_comm]; exact hj))
      obtain ⟨-, hlen, hcell⟩ := World.cells?_some h1
      have h2 := hcell (j % sz) (Nat.mod_lt _ h0)
      rw [Go.Deep.add_add] at h2
      rw [show j / sz * sz + j % sz = j by rw [Nat.mul_comm]; exact Nat.div_add_mod j sz] at h2
      rw [h2]
      exact ⟨_, List.getElem?_eq_getElem (by rw [hlen]; exact Nat.mod_lt _ h0)⟩
    have each : ∀ j, ∃ u, j < m * sz → W.cell? (a.add j) = some u := fun j => by
      by_cases hj : j < m * sz
      · obtain ⟨u, hu⟩ := hrd j hj
        exact ⟨u, fun _ => hu⟩
      · exact ⟨.pointer none, fun h => absurd h hj⟩
    obtain ⟨q, hq⟩ := Classical.axiomOfChoice each
    have hle : len * sz ≤ m * sz := Nat.mul_le_mul_right sz hl
    refine ⟨_, len, (List.range (len * sz)).map q, rfl, ⟨some a, m, rfl, by simp, hl, ?_⟩, by omega, fun i hi => ?_⟩
    · by_cases hc0 : m = 0
      · exact .inl hc0
      · obtain ⟨c, t, fz, ha, hh, hsz, hce⟩ := row_at (w := W) (a := a) (n := m * sz) (Nat.mul_pos (by omega) h0) hrd
        refine .inr ⟨a.block, a.off, c, t, fz, ha, lt_of_heap hh, hh, hsz, fun j hj => ?_⟩
        rw [hce j (by omega), hq j (by omega), List.getElem?_map, List.getElem?_range hj]
        rfl
    · obtain ⟨cs', h1, h2⟩ := hel i (by omega)
      obtain ⟨-, hlen, hcell⟩ := World.cells?_some h1
      have hle2 : (i + 1) * sz ≤ len * sz := Nat.mul_le_mul_right sz hi
      rw [Nat.succ_mul] at hle2
      have e : (((List.range (len * sz)).map q).drop (i * sz)).take sz = cs' := by
        apply List.ext_getElem?
        intro j
        rw [List.getElem?_take]
        split
        · rename_i hj
          have h3 := hcell j hj
          rw [Go.Deep.add_add] at h3
          rw [List.getElem?_drop, List.getElem?_map, List.getElem?_range (by omega), ← h3, hq _ (by omega)]
          rfl
        · rw [List.getElem?_eq_none (by omega)]
      rw [e]
      exact ⟨_, _, h2⟩
set_option maxRecDepth 100000 in
theorem bss_core {sT : TypeId} (hs : P.underlying sT = some (.slice T_s_uint8)) {fuel : Nat} {cs : List Value} {x : DataW H × List MemPlace} (h : DataW.trod enc P W 0 (fun _ => true) true fuel sT cs = some x) :
    letI := floorOf W; ∃ v ks, cs = [v] ∧ Bss W v ks ∧ ks.length ≤ maxLen ∧ ∀ k ∈ ks, k.length ≤ maxLen := by
  letI := floorOf W
  obtain ⟨v, n, cells, rfl, hsl, hn, hel⟩ := row_core hs su8C (by omega) h
  have each : ∀ i, ∃ k : Key, i < n → ∃ kv, cells[i]? = some kv ∧ Bs W kv k ∧ k.length ≤ maxLen := fun i => by
    by_cases hi : i < n
    · obtain ⟨f, x', hx⟩ := hel i hi
      obtain ⟨kv, bs, hv, hb, hl⟩ := bs_core hx
      refine ⟨bs, fun _ => ⟨kv, ?_, hb, hl⟩⟩
      have := congrArg (·[0]?) hv
      simp only [List.getElem?_take, List.getElem?_drop, Nat.mul_one, Nat.add_zero] at this
      simpa using this
    · exact ⟨[], fun h => absurd h hi⟩
  obtain ⟨q, hq⟩ := Classical.axiomOfChoice each
  refine ⟨v, (List.range n).map q, rfl, ⟨cells, by simpa using hsl, fun i k hk => ?_⟩, by simpa using hn, fun k hk => ?_⟩
  · rw [List.getElem?_map] at hk
    have hi : i < n := by
      rcases Nat.lt_or_ge i n with h | h
      · exact h
      · rw [List.getElem?_eq_none (by simpa using h)] at hk; cases hk
    rw [List.getElem?_range hi] at hk
    obtain rfl : q i = k := by simpa using hk
    obtain ⟨kv, h1, h2, -⟩ := hq i hi
    exact ⟨kv, h1, h2⟩
  · obtain ⟨i, hi, rfl⟩ := List.mem_map.1 hk
    obtain ⟨kv, -, -, h3⟩ := hq i (List.mem_range.1 hi)
    exact h3
set_option maxRecDepth 100000 in
theorem open_bss {sT : TypeId} (hs : P.underlying sT = some (.slice T_s_uint8)) {base : Nat} {v : Value} {d : DataW H} {p : List MemPlace} (hval : Value.okWide P W .any base sT v) (h : DataW.Trod enc P W 0 (fun _ => true) true sT v d p) :
    letI := floorOf W; ∃ ks, Bss W v ks ∧ ks.length ≤ maxLen ∧ ∀ k ∈ ks, k.length ≤ maxLen := by
  obtain ⟨a1, len, cap, rfl⟩ := okWide_slice hs hval
  obtain ⟨fuel, hf⟩ := h
  obtain ⟨v, ks, hv, hb, hl⟩ := bss_core hs hf
  simp [Value.cells] at hv
  subst hv
  exact ⟨ks, hb, hl⟩
theorem agg_of3 {v a b c : Value} (h : v.cells.toList = [a, b, c]) : v = .agg #[a, b, c] := by
  cases v with
  | agg cs =>
    have h3 : cs.toList = [a, b, c] := h
    congr 1
    rw [← h3]
  | _ => exact absurd (congrArg List.length h) (by simp [Value.cells])
set_option maxRecDepth 100000 in
/-- a struct's field, of one cell -/
theorem field1 {t : TypeId} {cs : List Value} {n : Nat} {xs : List (DataW H × List MemPlace)} {i o : Nat} (hi : i < xs.length) (hc : P.cellsOf t = 1) (ho : o < cs.length)
    (h : DataW.trod enc P W 0 (fun _ => true) true n t ((cs.drop o).take (P.cellsOf t)) = xs[i]?) : ∃ u, cs[o]? = some u ∧ ∃ y, DataW.trod enc P W 0 (fun _ => true) true n t [u] = some y := by
  rw [hc] at h
  refine ⟨cs[o], List.getElem?_eq_getElem ho, xs[i], ?_⟩
  rw [List.getElem?_eq_getElem hi] at h
  rw [← h]
  congr 1
  apply List.ext_getElem?
  intro j
  rw [List.getElem?_take]
  cases j with
  | zero => simp [ho]
  | succ j => simp
/-- three slices of pairs -/
theorem open_ps3 {aT : TypeId} (ha : P.underlying aT = some (.array 3 T_s_ref01_Pair)) (hc : P.cellsOf aT = 3) {v : Value} {d : DataW H} {p : List MemPlace} (h : DataW.Trod enc P W 0 (fun _ => true) true aT v d p) :
    letI := floorOf W; ∃ va vb vc la lb lc, v = .agg #[va, vb, vc] ∧ Ps W va la ∧ Ps W vb lb ∧ Ps W vc lc := by
  letI := floorOf W
  obtain ⟨fuel, hf⟩ := h
  obtain ⟨xs, k, hk, hxy, hcl, hxl, hel⟩ := DataW.trod_array ha hf
  rw [hc] at hcl
  have c1 : P.cellsOf T_s_ref01_Pair = 1 := by kernel_rfl
  have g : ∀ i, i < 3 → ∃ u, v.cells.toList[i]? = some u ∧ ∃ y, DataW.trod enc P W 0 (fun _ => true) true k T_s_ref01_Pair [u] = some y := fun i hi => by
    have := hel i hi
    refine field1 (i := i) (xs := xs) (by omega) c1 (by omega) ?_
    rw [c1, Nat.mul_one] at this
    rw [c1]; exact this
  obtain ⟨u0, e0, y0, h0⟩ := g 0 (by omega)
  obtain ⟨u1, e1, y1, h1⟩ := g 1 (by omega)
  obtain ⟨u2, e2, y2, h2⟩ := g 2 (by omega)
  obtain ⟨v0, l0, q0, p0, -, -⟩ := ps_core h0
  obtain ⟨v1, l1, q1, p1, -, -⟩ := ps_core h1
  obtain ⟨v2, l2, q2, p2, -, -⟩ := ps_core h2
  obtain rfl : u0 = v0 := by simpa using q0
  obtain rfl : u1 = v1 := by simpa using q1
  obtain rfl : u2 = v2 := by simpa using q2
  refine ⟨_, _, _, l0, l1, l2, agg_of3 ?_, p0, p1, p2⟩
  match hm : v.cells.toList, hcl with
  | [a, b, c], _ =>
    rw [hm] at e0 e1 e2
    simp at e0 e1 e2
    rw [e0, e1, e2]
end
end Go.Proofs.YtbfnagdpanfphaaGreatDoor
end
