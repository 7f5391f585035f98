/-  a call's answer is one; so what a tree is, hangs on its place alone.  -/
import Derived.Test.YtidkkkdlaclolaaGreatNode
namespace Go.Proofs.YtidkkkdlaclolaaGreat
open Go Go.RowKit X
set_option linter.unusedSimpArgs false
set_option linter.unusedVariables false
set_option linter.unusedSectionVars false
theorem runN_det {Q : Program} {m1 m2 : Machine} {o1 o2 : Outcome} {w1 w2 : World} (h1 : step Q m1 = .ended o1 w1) (h2 : step Q m2 = .ended o2 w2) : ∀ (n k : Nat) (m : Machine), runN Q n m = .next m1 → runN Q k m = .next m2 → m1 = m2 := by
  intro n
  induction n with
  | zero =>
    intro k m hn hk
    have hn : m = m1 := by simpa [runN] using hn
    subst hn
    cases k with
    | zero => simpa [runN] using hk
    | succ k => simp [runN, h1] at hk
  | succ n ih =>
    intro k m hn hk
    cases hs : step Q m with
    | next m' =>
      simp [runN, hs] at hn
      cases k with
      | zero =>
        have hk : m = m2 := by simpa [runN] using hk
        subst hk
        rw [h2] at hs; cases hs
      | succ k =>
        simp [runN, hs] at hk
        exact ih k m' hn hk
    | _ => simp [runN, hs] at hn
theorem Ret.det {Q : Program} {f : FuncId} {args : List Value} {w : World} {K1 K2 : Value → World → Prop} (hi : Q.inits.idxOf? f = none) (h1 : Ret Q f args w K1) (h2 : Ret Q f args w K2) : ∃ v w', K1 v w' ∧ K2 v w' := by
  obtain ⟨e1, w1, fr1, ⟨v1, rfl, hk1⟩, ⟨n1, hs1⟩, hf1, hl1⟩ := h1.out []
  obtain ⟨e2, w2, fr2, ⟨v2, rfl, hk2⟩, ⟨n2, hs2⟩, hf2, hl2⟩ := h2.out []
  have d1 := step_leave_done hl1 (by rw [hf1]; exact hi)
  have d2 := step_leave_done hl2 (by rw [hf2]; exact hi)
  have e := runN_det d1 d2 _ _ _ hs1 hs2
  rw [e] at d1
  have := d1.symm.trans d2
  simp at this
  obtain ⟨rfl, rfl⟩ := this
  exact ⟨v1, w1, hk1, hk2⟩
variable [Floor]
theorem Bs.inj {w : World} {v : Value} {a b : Key} (h : Bs w v a) (h' : Bs w v b) : a = b := by
  obtain ⟨x, c, rfl, hl, hc, hx⟩ := h
  obtain ⟨x', c', e, hl', hc', hx'⟩ := h'
  simp only [Value.slice.injEq] at e
  obtain ⟨rfl, hlen, rfl⟩ := e
  have hbv : a.map bv = b.map bv := by
    cases x with
    | none =>
      have hx : c = 0 := hx
      have ha : a = [] := List.length_eq_zero_iff.1 (by omega)
      have hb : b = [] := List.length_eq_zero_iff.1 (by omega)
      rw [ha, hb]
    | some ad =>
      rcases hx with hx | ⟨g, o, cs, t, fz, rfl, -, h2, -, h4⟩
      · have ha : a = [] := List.length_eq_zero_iff.1 (by omega)
        have hb : b = [] := List.length_eq_zero_iff.1 (by omega)
        rw [ha, hb]
      · rcases hx' with hx' | ⟨g', o', cs', t', fz', e', -, h2', -, h4'⟩
        · have ha : a = [] := List.length_eq_zero_iff.1 (by omega)
          have hb : b = [] := List.length_eq_zero_iff.1 (by omega)
          rw [ha, hb]
        · simp only [Addr.mk.injEq] at e'
          obtain ⟨rfl, rfl, -⟩ := e'
          rw [h2] at h2'
          obtain ⟨rfl, -, -⟩ := by simpa using h2'
          refine List.ext_getElem? fun i => ?_
          by_cases hi : i < a.length
          · rw [← h4 i (by omega), ← h4' i (by omega)]
          · rw [List.getElem?_eq_none (by simp; omega), List.getElem?_eq_none (by simp; omega)]
  have hinj : ∀ (x y : List UInt8), x.map bv = y.map bv → x = y := by
    intro x
    induction x with
    | nil => intro y h; cases y with
      | nil => rfl
      | cons => cases h
    | cons c r ih => intro y h; cases y with
      | nil => cases h
      | cons d s =>
        simp only [List.map_cons, List.cons.injEq] at h
        obtain ⟨h1, h2⟩ := h
        have h1 : ((c.toNat : Nat) : Int) = (d.toNat : Int) := by
          have : bv c = bv d := h1
          simpa [bv] using this
        rw [UInt8.toNat_inj.1 (by omega : c.toNat = d.toNat), ih s h2]
  exact hinj a b hbv
theorem next2_le {m m' : UInt8 → Option Addr} (h : ∀ i, i ≤ 256 → next2 m i = next2 m' i) {c : UInt8} {p : Addr} (hc : m c = some p) : m' c = some p := by
  have h1 : nextB m c.toNat = some c := nextB_some.2 ⟨by rw [hc]; rfl, Nat.le_refl _, fun d h1 h2 => by omega⟩
  have h2 := h c.toNat (by have := c.toNat_lt; omega)
  unfold next2 at h2
  rw [h1] at h2
  cases hq : nextB m' c.toNat with
  | none =>
    rw [hq] at h2
    have h2 : Value.tuple #[bv c, .pointer (m c)] = Value.tuple #[.int .u8 0, .pointer none] := h2
    rw [hc] at h2
    simp at h2
  | some d =>
    rw [hq] at h2
    have h2 : Value.tuple #[bv c, .pointer (m c)] = Value.tuple #[bv d, .pointer (m' d)] := h2
    rw [hc] at h2
    simp only [Value.tuple.injEq, Array.mk.injEq, List.cons.injEq, bv, Value.int.injEq, Value.pointer.injEq, and_true, true_and] at h2
    obtain ⟨h3, h4⟩ := h2
    have e : c = d := UInt8.toNat_inj.1 (by omega)
    rw [e]; exact h4.symm
theorem next2_inj {m m' : UInt8 → Option Addr} (h : ∀ i, i ≤ 256 → next2 m i = next2 m' i) (c : UInt8) : m c = m' c := by
  cases h1 : m c with
  | some p => exact (next2_le h h1).symm
  | none =>
    cases h2 : m' c with
    | none => rfl
    | some p => rw [next2_le (fun i hi => (h i hi).symm) h2] at h1; cases h1
set_option maxRecDepth 100000 in
theorem Tree.inj {w : World} : ∀ {t t' : T}, Tree w t → Tree w t' → t.ptr = t'.ptr → t.er = t'.er := by
  intro t
  induction t with
  | nil =>
    intro t' _ _ h
    cases t' with
    | nil => rfl
    | node => cases h
  | node a ow part val ks kids ih =>
    intro t' ht ht' h
    cases t' with
    | nil => cases h
    | node a' ow' part' val' ks' kids' =>
      obtain rfl : a = a' := by simpa [T.ptr] using h
      obtain ⟨pv, hb, hp⟩ := ht.1.blk
      obtain ⟨pv', hb', hp'⟩ := ht'.1.blk
      have hc := (hb.inj hb').1
      simp only [List.cons.injEq, Value.int.injEq, Value.bool.injEq, true_and] at hc
      obtain ⟨-, rfl, hv, hs, -, -⟩ := hc
      obtain rfl := Bs.inj hp hp'
      have hval : val = val' := by
        cases val with
        | none => cases val' with
          | none => rfl
          | some => cases hs
        | some x => cases val' with
          | none => cases hs
          | some y =>
            simp at hv
            congr 1
            omega
      subst hval
      show E.node part val _ = E.node part val _
      congr 1
      funext c
      refine ih c (ht.2 c) (ht'.2 c) ?_
      obtain ⟨v, w', ⟨h1, -⟩, ⟨h2, -⟩⟩ := Ret.det (by kernel_rfl) (c_NKid ht.1 (b := c)) (c_NKid ht'.1 (b := c))
      have := h1.symm.trans h2
      simpa [ptrs] using this
end Go.Proofs.YtidkkkdlaclolaaGreat
