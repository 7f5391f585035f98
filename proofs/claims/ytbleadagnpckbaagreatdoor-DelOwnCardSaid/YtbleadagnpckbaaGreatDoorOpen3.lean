/-  arguments that lie in old blocks: slices of numbers.  -/
import Derived.Test.YtbleadagnpckbaaGreatDoorOpen
import Derived.Test.YtbleadagnpckbaaGreatDoorNum
namespace Go.Proofs.YtbleadagnpckbaaGreatDoor
open Go Go.RowKit X Go.ChangeShapes Go.WideShapes Go.ChangeAt
set_option linter.unusedSimpArgs false
set_option linter.unusedVariables false
set_option linter.unusedSectionVars false
/-- v is a slice of these numbers, and was there before -/
def Us [Floor] (w : World) (kd : IntKind) (v : Value) (ns : List Nat) : Prop := Sl w (fun b _ => b < Floor.n) v 1 ns.length (ns.map fun n : Nat => Value.int kd n)
section
variable [Floor] {w w' : World} {kd : IntKind} {v : Value} {ns : List Nat}
theorem Us.ext {X : Nat → Prop} (h : Us w kd v ns) (e : Ext X w w') (hx : ∀ b, X b → Floor.n ≤ b) : Us w' kd v ns := Sl.ext h e fun b _ _ _ hb _ hX => by have := hx b hX; omega
theorem Us.extN (h : Us w kd v ns) (e : Ext No w w') : Us w' kd v ns := Sl.extN h e
theorem Us.len {K : Value → Prop} (h : Us w kd v ns) (k : K (.int .i64 ns.length)) : xLen v K := xLen_sl h k
theorem Us.rd {K : Value → Prop} {ki : IntKind} {i : Int} (h : Us w kd v ns) (m : Nat) (hi : i = (m : Int)) (hm : m < ns.length) (k : K (.int kd (ns[m] : Nat))) : xIxS v (.int ki i) 1 fun u => xAt u fun a => XLd w a K :=
  Sl.rd1 h m hi hm (by simp [hm]) k
end
section
variable {H : Type} {enc : TypeId × Value → H} {W : World}
set_option maxRecDepth 100000 in
theorem us_core {sT eT : TypeId} {kd : IntKind} (hs : P.underlying sT = some (.slice eT)) (he : P.underlying eT = some (.int kd)) (hc : P.cellsOf eT = 1) (h0 : kd.min = 0) {fuel : Nat} {cs : List Value} {x : DataW H × List MemPlace} (h : DataW.trod enc P W 0 (fun _ => true) true fuel sT cs = some x) :
    letI := floorOf W; ∃ v ns, cs = [v] ∧ Us W kd v ns ∧ ns.length ≤ maxLen ∧ ∀ n ∈ ns, (n : Int) ≤ kd.max := by
  letI := floorOf W
  rcases open_ints hs he hc h with ⟨rfl, -⟩ | ⟨a, len, cap, zs, rfl, -, hl, hm, hz, -, hcell, hwf⟩
  · exact ⟨_, [], rfl, Sl.nil, Nat.zero_le _, fun n h => by cases h⟩
  · simp only [if_true] at hz
    have hw : ∀ n ∈ zs, 0 ≤ n ∧ n ≤ kd.max := fun n hn => by
      have := hwf n hn
      simp only [Lit.wf, Bool.and_eq_true, decide_eq_true_eq] at this
      rw [h0] at this
      exact this
    have hlen : ((zs.take len).map fun n => n.toNat).length = len := by simp; omega
    have hbv : (((zs.take len).map fun n => n.toNat).map fun n : Nat => Value.int kd n) = (zs.take len).map (Value.int kd) := by
      rw [List.map_map]
      refine List.map_congr_left fun n hn => ?_
      have := (hw n (List.mem_of_mem_take hn)).1
      show Value.int kd ((n.toNat : Nat) : Int) = Value.int kd n
      congr 1
      omega
    refine ⟨_, (zs.take len).map fun n => n.toNat, rfl, ?_, by rw [hlen]; omega, fun n hn => ?_⟩
    · show Sl W _ _ 1 _ _
      rw [hlen, hbv]
      refine ⟨some a, cap, rfl, by simp; omega, hl, ?_⟩
      by_cases hc : cap = 0
      · exact .inl hc
      · obtain ⟨c, t, fz, ha, hh, hsz, hel⟩ := row_at (w := W) (a := a) (n := cap) (by omega) fun i hi => ⟨_, hcell i (by omega)⟩
        refine .inr ⟨a.block, a.off, c, t, fz, ha, lt_of_heap hh, hh, by omega, fun i hi => ?_⟩
        rw [hel i (by omega), hcell i (by omega), List.getElem?_map, List.getElem?_take_of_lt (by omega), List.getElem?_eq_getElem (by omega)]
        simp [List.getD_eq_getElem?_getD, List.getElem?_eq_getElem (show i < zs.length by omega)]
    · obtain ⟨z, hz, rfl⟩ := List.mem_map.1 hn
      have := hw z (List.mem_of_mem_take hz)
      show ((z.toNat : Nat) : Int) ≤ _
      omega
theorem u16U' : P.underlying T_uint16 = some (.int .u16) := by kernel_rfl
theorem u16C : P.cellsOf T_uint16 = 1 := by kernel_rfl
set_option maxRecDepth 100000 in
theorem open_us {sT : TypeId} (hs : P.underlying sT = some (.slice T_uint16)) (h1 : P.cellsOf sT = 1) {base : Nat} {v : Value} {d : DataW H} {p : List MemPlace} (hval : Value.okWide P W .any base sT v) (h : DataW.Trod enc P W 0 (fun _ => true) true sT v d p) :
    letI := floorOf W; ∃ ns, Us W .u16 v ns ∧ ns.length ≤ maxLen ∧ ∀ n ∈ ns, n < 65536 := by
  obtain ⟨a1, len, cap, rfl⟩ := okWide_slice hs hval
  obtain ⟨fuel, hf⟩ := h
  obtain ⟨v, ns, hv, hb, hl, hn⟩ := us_core hs u16U' u16C rfl hf
  simp [Value.cells] at hv
  subst hv
  refine ⟨ns, hb, hl, fun n hm => ?_⟩
  have := hn n hm
  have e : IntKind.u16.max = 65535 := rfl
  omega
end
end Go.Proofs.YtbleadagnpckbaaGreatDoor
