/-  law28: same: two leaves; alive.  -/
import Derived.Test.YtidkkkdlaclolaaGreatC28
import Derived.Test.YtidkkkdlaclolaaGreatSame
import Derived.Test.YtidkkkdlaclolaaGreatShp
import Derived.Test.YtidkkkdlaclolaaGreatRefV
namespace Go.Proofs.YtidkkkdlaclolaaGreat
open Go Go.RowKit X
set_option linter.unusedSimpArgs false
set_option linter.unusedVariables false
set_option linter.unusedSectionVars false
variable [Floor]
theorem xbeq_self {b : Bool} {K : Value → Prop} (k : K (.bool true)) : xBEq (.bool b) (.bool b) K := by cases b <;> exact k
theorem look_self (a : T) : lookT a a = (true, 0) := by
  cases a with
  | nil => rfl
  | node => rw [lookT, if_pos rfl]
theorem look_pair {w : World} {a b : T} {l m : Kv} (ha : Ct w a l) (hb : Ct w b m) (hl : Rises l) (hm : Rises m) : (lookT a b).1 = decide (l = m) := by
  have h := look_true ha.tree hb.tree
  by_cases e : l = m
  · subst e
    rw [decide_eq_true rfl, h]
    exact ha.can.uniq hb.can
  · rw [decide_eq_false e]
    cases hq : (lookT a b).1 with
    | false => rfl
    | true =>
      refine absurd (hl.ext hm fun k => ?_) e
      rw [← ha.can.get k, ← hb.can.get k, h.1 hq]
namespace law28
abbrev lx (x : Nat) : Kv := [([1], x)]
theorem lx_pr (x : Nat) : Pr (lx x) := ⟨List.pairwise_singleton _ _, (by intro p hp; simp at hp; subst hp; simp), by simp⟩
section
variable {w : World} {v ov : Value} {l pl : Kv}
theorem one_tree (hw : Lw w) {x o : Nat} (hx : x < 18446744073709551616) (ho : o ≠ 0) {K : Value → World → Prop} (k : ∀ (t : T) (w' : World), Ct w' t (lx x) → Ext No w w' → K t.v w') :
    XNew w ([1].map bv) T_uint8 fun a w1 => XNew w1 [.slice (some a) 1 1, u64 x] T_ref01_Pair fun a2 w2 => Ret P n_law28_tree [.slice (some a2) 1 1, .int .u64 o] w2 K := by
  refine xnew fun a1 w1 ha1 hb1 hz1 he1 => ?_
  have k1 : Bs w1 (.slice (some ⟨a1, 0, none⟩) 1 1) [1] := Bs.new (k := [1]) hb1
  refine xnew fun a2 w2 ha2 hb2 hz2 he2 => ?_
  have hps : Ps w2 (.slice (some ⟨a2, 0, none⟩) 1 1) (lx x) := Ps.new16 (l := lx x) hb2 ((PC.sing k1 hx).extN he2)
  have hE2 := he1.transN he2
  refine (c_tree hps (lx_pr x) (hw.extN hE2) (ow := o) ho).mono ?_
  rintro r w3 ⟨ta, rfl, hca, -, -, -, he3⟩
  exact k ta w3 hca (hE2.transN he3)
theorem one_size {t : T} {x : Nat} (h : Ct w t (lx x)) : t.er.size < 1000000000 := by
  have := h.can.size (lx_pr x).rises
  simp at this
  omega
theorem one_er {t : T} {x : Nat} (h : Ct w t (lx x)) : t.er = .node [1] (some x) noE :=
  h.can.uniq (Can.leaf fun r => by
    by_cases e : r = [1]
    · subst e; simp [look]
    · have e' : ¬ [1] = r := fun h => e h.symm
      simp [look, e, e'])
theorem one_looks {a b : T} {x y : Nat} (h : Ct w a (lx x)) (h' : Ct w b (lx y)) (hxy : x ≠ y) : (lookT a b).2 = 1 := by
  have ea := one_er h
  have eb := one_er h'
  have ht := h.tree
  have ht' := h'.tree
  cases a with
  | nil => cases ea
  | node a ow part val ks kids =>
    cases b with
    | nil => cases eb
    | node a' ow' part' val' ks' kids' =>
      have hv : val = some x := by
        have : E.node part val (fun c => (kids c).er) = .node [1] (some x) noE := ea
        injection this
      have hv' : val' = some y := by
        have : E.node part' val' (fun c => (kids' c).er) = .node [1] (some y) noE := eb
        injection this
      rw [lookT]
      by_cases e : a = a'
      · subst e
        have := Tree.inj ht ht' rfl
        rw [ea, eb] at this
        injection this with _ h2 _
        exact absurd (Option.some.inj h2) hxy
      · rw [if_neg e, if_neg fun h => hxy (by have := h.2.2; rw [hv, hv'] at this; exact Option.some.inj this)]
theorem c_alive (hw : Lw w) : Ret P n_law28_alive [] w fun r w' => r = .bool true ∧ Ext No w w' := by
  refine W_law28_alive ?_
  show XNew w ([1].map bv) T_uint8 _
  refine one_tree hw (x := 5) (o := 1) (by omega) (by omega) fun ta w1 hca he1 => ?_
  have hw1 := hw.extN he1
  show XNew w1 ([1].map bv) T_uint8 _
  refine one_tree hw1 (x := 6) (o := 1) (by omega) (by omega) fun tb w2 hcb he2 => ?_
  have hw2 := hw1.extN he2
  have hca2 := hca.extN he2
  refine xj (fun vs w' => vs = [.bool true] ∧ Ext No w w') ?_ ?_
  · refine (c_SameX hw2.fl hca2.tree hcb.tree hca2.leafy hcb.leafy (one_size hca)).mono ?_
    rintro _ w3 ⟨rfl, he3⟩
    rw [look_pair hca2 hcb (lx_pr 5).rises (lx_pr 6).rises, decide_eq_false (by simp)]
    refine xifT rfl ?_
    have hw3 := hw2.extN he3
    have hca3 := hca2.extN he3
    have hcb3 := hcb.extN he3
    refine (c_Looks hw3.fl hca3.tree hcb3.tree hca3.leafy hcb3.leafy (one_size hca)).mono ?_
    rintro _ w4 ⟨rfl, he4⟩
    rw [one_looks hca3 hcb3 (by omega)]
    refine xifT rfl ?_
    have hw4 := hw3.extN he4
    have hca4 := hca3.extN he4
    refine (c_SameX hw4.fl hca4.tree hca4.tree hca4.leafy hca4.leafy (one_size hca)).mono ?_
    rintro _ w5 ⟨rfl, he5⟩
    rw [look_self]
    refine xifT rfl ?_
    have hw5 := hw4.extN he5
    have hca5 := hca4.extN he5
    refine (c_Looks hw5.fl hca5.tree hca5.tree hca5.leafy hca5.leafy (one_size hca)).mono ?_
    rintro _ w6 ⟨rfl, he6⟩
    rw [look_self]
    refine xifT rfl ?_
    have hw6 := hw5.extN he6
    have hca6 := hca5.extN he6
    show XNew w6 ([1].map bv) T_uint8 _
    refine one_tree hw6 (x := 5) (o := 2) (by omega) (by omega) fun tc w7 hcc he7 => ?_
    have hw7 := hw6.extN he7
    have hca7 := hca6.extN he7
    refine (c_SameX hw7.fl hca7.tree hcc.tree hca7.leafy hcc.leafy (one_size hca)).mono ?_
    rintro _ w8 ⟨rfl, he8⟩
    rw [look_pair hca7 hcc (lx_pr 5).rises (lx_pr 5).rises, decide_eq_true rfl]
    refine xifT rfl ?_
    have hw8 := hw7.extN he8
    refine Ret.mono (show Ret P n_same_Same [T.nil.v, T.nil.v] w8 _ from c_SameX hw8.fl trivial trivial trivial trivial (by show 0 < _; omega)) ?_
    rintro _ w9 ⟨rfl, he9⟩
    exact ⟨rfl, ((((((((he1.transN he2).transN he3).transN he4).transN he5).transN he6).transN he7).transN he8).transN he9)⟩
  · rintro vs g w3 ⟨rfl, he⟩
    exact ⟨rfl, he⟩
end
end law28
end Go.Proofs.YtidkkkdlaclolaaGreat
