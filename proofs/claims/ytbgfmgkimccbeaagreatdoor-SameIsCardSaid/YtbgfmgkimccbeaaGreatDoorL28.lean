/-  law28: same: SameIs.  -/
import Derived.Test.YtbgfmgkimccbeaaGreatDoorC28
import Derived.Test.YtbgfmgkimccbeaaGreatDoorE28
import Derived.Test.YtbgfmgkimccbeaaGreatDoorSame
import Derived.Test.YtbgfmgkimccbeaaGreatDoorShp
import Derived.Test.YtbgfmgkimccbeaaGreatDoorRefV
namespace Go.Proofs.YtbgfmgkimccbeaaGreatDoor
open Go Go.RowKit X
set_option linter.unusedSimpArgs false
set_option linter.unusedVariables false
set_option linter.unusedSectionVars false
variable [Floor]
theorem xbeq_self {b : Bool} {K : Value → Prop} (k : K (.bool true)) : xBEq (.bool b) (.bool b) K := by cases b <;> exact k
theorem look_self (a : T) : lookT a a = (true, 0) := by
  cases a with
  | nil => rfl
  | node => rw [lookT, if_pos rfl]
theorem look_pair {w : World} {a b : T} {l m : Kv} (ha : Ct w a l) (hb : Ct w b m) (hl : Rises l) (hm : Rises m) : (lookT a b).1 = decide (l = m) := by
  have h := look_true ha.tree hb.tree
  by_cases e : l = m
  · subst e
    rw [decide_eq_true rfl, h]
    exact ha.can.uniq hb.can
  · rw [decide_eq_false e]
    cases hq : (lookT a b).1 with
    | false => rfl
    | true =>
      refine absurd (hl.ext hm fun k => ?_) e
      rw [← ha.can.get k, ← hb.can.get k, h.1 hq]
namespace law28
abbrev lx (x : Nat) : Kv := [([1], x)]
theorem lx_pr (x : Nat) : Pr (lx x) := ⟨List.pairwise_singleton _ _, (by intro p hp; simp at hp; subst hp; simp), by simp⟩
section
variable {w : World} {v ov : Value} {l pl : Kv} {ks : List Key} {ap : Bool}
theorem one_tree (hw : Lw w) {x o : Nat} (hx : x < 18446744073709551616) (ho : o ≠ 0) {K : Value → World → Prop} (k : ∀ (t : T) (w' : World), Ct w' t (lx x) → Ext No w w' → K t.v w') :
    XNew w ([1].map bv) T_uint8 fun a w1 => XNew w1 [.slice (some a) 1 1, u64 x] T_ref01_Pair fun a2 w2 => Ret P n_law28_tree [.slice (some a2) 1 1, .int .u64 o] w2 K := by
  refine xnew fun a1 w1 ha1 hb1 hz1 he1 => ?_
  have k1 : Bs w1 (.slice (some ⟨a1, 0, none⟩) 1 1) [1] := Bs.new (k := [1]) hb1
  refine xnew fun a2 w2 ha2 hb2 hz2 he2 => ?_
  have hps : Ps w2 (.slice (some ⟨a2, 0, none⟩) 1 1) (lx x) := Ps.new16 (l := lx x) hb2 ((PC.sing k1 hx).extN he2)
  have hE2 := he1.transN he2
  refine (c_tree hps (lx_pr x) (hw.extN hE2) (ow := o) ho).mono ?_
  rintro r w3 ⟨ta, rfl, hca, -, -, -, he3⟩
  exact k ta w3 hca (hE2.transN he3)
theorem one_size {t : T} {x : Nat} (h : Ct w t (lx x)) : t.er.size < 1000000000 := by
  have := h.can.size (lx_pr x).rises
  simp at this
  omega
theorem one_er {t : T} {x : Nat} (h : Ct w t (lx x)) : t.er = .node [1] (some x) noE :=
  h.can.uniq (Can.leaf fun r => by
    by_cases e : r = [1]
    · subst e; simp [look]
    · have e' : ¬ [1] = r := fun h => e h.symm
      simp [look, e, e'])
theorem one_looks {a b : T} {x y : Nat} (h : Ct w a (lx x)) (h' : Ct w b (lx y)) (hxy : x ≠ y) : (lookT a b).2 = 1 := by
  have ea := one_er h
  have eb := one_er h'
  have ht := h.tree
  have ht' := h'.tree
  cases a with
  | nil => cases ea
  | node a ow part val ks kids =>
    cases b with
    | nil => cases eb
    | node a' ow' part' val' ks' kids' =>
      have hv : val = some x := by
        have : E.node part val (fun c => (kids c).er) = .node [1] (some x) noE := ea
        injection this
      have hv' : val' = some y := by
        have : E.node part' val' (fun c => (kids' c).er) = .node [1] (some y) noE := eb
        injection this
      rw [lookT]
      by_cases e : a = a'
      · subst e
        have := Tree.inj ht ht' rfl
        rw [ea, eb] at this
        injection this with _ h2 _
        exact absurd (Option.some.inj h2) hxy
      · rw [if_neg e, if_neg fun h => hxy (by have := h.2.2; rw [hv, hv'] at this; exact Option.some.inj this)]
theorem c_alive (hw : Lw w) : Ret P n_law28_alive [] w fun r w' => r = .bool true ∧ Ext No w w' := by
  refine W_law28_alive ?_
  show XNew w ([1].map bv) T_uint8 _
  refine one_tree hw (x := 5) (o := 1) (by omega) (by omega) fun ta w1 hca he1 => ?_
  have hw1 := hw.extN he1
  show XNew w1 ([1].map bv) T_uint8 _
  refine one_tree hw1 (x := 6) (o := 1) (by omega) (by omega) fun tb w2 hcb he2 => ?_
  have hw2 := hw1.extN he2
  have hca2 := hca.extN he2
  refine xj (fun vs w' => vs = [.bool true] ∧ Ext No w w') ?_ ?_
  · refine (c_SameX hw2.fl hca2.tree hcb.tree hca2.leafy hcb.leafy (one_size hca)).mono ?_
    rintro _ w3 ⟨rfl, he3⟩
    rw [look_pair hca2 hcb (lx_pr 5).rises (lx_pr 6).rises, decide_eq_false (by simp)]
    refine xifT rfl ?_
    have hw3 := hw2.extN he3
    have hca3 := hca2.extN he3
    have hcb3 := hcb.extN he3
    refine (c_Looks hw3.fl hca3.tree hcb3.tree hca3.leafy hcb3.leafy (one_size hca)).mono ?_
    rintro _ w4 ⟨rfl, he4⟩
    rw [one_looks hca3 hcb3 (by omega)]
    refine xifT rfl ?_
    have hw4 := hw3.extN he4
    have hca4 := hca3.extN he4
    refine (c_SameX hw4.fl hca4.tree hca4.tree hca4.leafy hca4.leafy (one_size hca)).mono ?_
    rintro _ w5 ⟨rfl, he5⟩
    rw [look_self]
    refine xifT rfl ?_
    have hw5 := hw4.extN he5
    have hca5 := hca4.extN he5
    refine (c_Looks hw5.fl hca5.tree hca5.tree hca5.leafy hca5.leafy (one_size hca)).mono ?_
    rintro _ w6 ⟨rfl, he6⟩
    rw [look_self]
    refine xifT rfl ?_
    have hw6 := hw5.extN he6
    have hca6 := hca5.extN he6
    show XNew w6 ([1].map bv) T_uint8 _
    refine one_tree hw6 (x := 5) (o := 2) (by omega) (by omega) fun tc w7 hcc he7 => ?_
    have hw7 := hw6.extN he7
    have hca7 := hca6.extN he7
    refine (c_SameX hw7.fl hca7.tree hcc.tree hca7.leafy hcc.leafy (one_size hca)).mono ?_
    rintro _ w8 ⟨rfl, he8⟩
    rw [look_pair hca7 hcc (lx_pr 5).rises (lx_pr 5).rises, decide_eq_true rfl]
    refine xifT rfl ?_
    have hw8 := hw7.extN he8
    refine Ret.mono (show Ret P n_same_Same [T.nil.v, T.nil.v] w8 _ from c_SameX hw8.fl trivial trivial trivial trivial (by show 0 < _; omega)) ?_
    rintro _ w9 ⟨rfl, he9⟩
    exact ⟨rfl, ((((((((he1.transN he2).transN he3).transN he4).transN he5).transN he6).transN he7).transN he8).transN he9)⟩
  · rintro vs g w3 ⟨rfl, he⟩
    exact ⟨rfl, he⟩
theorem l_SameIs (hw : Lw w) (hl : Ps w v l) (ho : Ot w ov ap pl ks) : Ret P n_law28_SameIs [v, ov] w fun r w' => r = .bool true ∧ Ext No w w' := by
  obtain ⟨pv, dv, rfl, hp, hd⟩ := id ho.val
  refine W_law28_SameIs ?_
  refine xnew fun ob w1 hob hblk hz1 he1 => ?_
  have hO : Blk w1 ob [.bool ap, pv, dv] T_law28_Other := hblk
  refine hO.ldA rfl ?_
  refine (c_large (hl.extN he1) (ho.extN he1)).mono ?_
  rintro r w2 ⟨b, rfl, he2, hb⟩
  have hE2 := he1.transN he2
  cases b with
  | true =>
    refine xifT rfl ?_
    refine (c_alive (hw.extN hE2)).mono ?_
    rintro r w3 ⟨rfl, he3⟩
    exact ⟨rfl, hE2.transN he3⟩
  | false =>
    refine xifF rfl ?_
    have hs := hb rfl
    have h1 := hs.l1
    have hpr : Pr (sortK l) := Pr.sort (by omega) fun p h => by have := hs.l3 p h; omega
    have hm100 : (sortK l).length ≤ 100 := Nat.le_trans (sortK_length l) h1
    refine (c_rSort (hl.extN hE2) (by omega) (fun p h => by have := hs.l3 p h; omega)).mono ?_
    rintro vl w3 ⟨hso, he3⟩
    have hps := hso.ps he3 (.inr rfl)
    have hw3 := (hw.extN hE2).extN he3
    generalize sortK l = m at hpr hso hps hm100
    refine (c_tree hps hpr hw3 (ow := 1) (by omega)).mono ?_
    rintro r w4 ⟨t, rfl, hct, -, how, -, he4⟩
    have hE4 := (hE2.transN he3).transN he4
    refine (hO.ext ((he2.transN he3).transN he4) fun h => h).ldA rfl ?_
    refine (c_second (hw3.extN he4) hct (hps.extN he4) hpr hm100 how (ho.extN hE4) hs.p6 hs.p3 hs.k4 hs.k3).mono ?_
    rintro _ w5 ⟨t2, v2, l2, rfl, hct2, hps2, hpr2, h160, he5⟩
    have hE5 := hE4.transN he5
    have hw5 := hw.extN hE5
    have hct5 := hct.extN he5
    have hps5 := hps.extN (he4.transN he5)
    have hsz : t.er.size < 1000000000 := by have := hct.can.size hpr.rises; omega
    have hsz2 : t2.er.size < 1000000000 := by have := hct2.can.size hpr2.rises; omega
    have hlk := look_pair hct5 hct2 hpr.rises hpr2.rises
    have hlk' := look_pair hct2 hct5 hpr2.rises hpr.rises
    refine (c_SameX hw5.fl hct5.tree hct2.tree hct5.leafy hct2.leafy hsz).mono ?_
    rintro _ w6 ⟨rfl, he6⟩
    rw [hlk]
    have hw6 := hw5.extN he6
    refine xj (fun vs w' => vs = [.bool true] ∧ Ext No w w') ?_ ?_
    · refine (c_r19Same (hps5.extN he6) (hps2.extN he6) (by omega) (by omega) hpr.keys).mono ?_
      rintro _ w7 ⟨rfl, he7⟩
      refine xbeq_self ?_
      refine xifT rfl ?_
      have he57 := he6.transN he7
      have hw7 := hw5.extN he57
      have hct7 := hct5.extN he57
      have hct27 := hct2.extN he57
      refine (c_Shape hw7.tab hct7.tree hct7.leafy (hct7.tree.shapeLen hct7.can hpr.rises hpr.many)).mono ?_
      rintro _ w8 ⟨rfl, he8⟩
      have hw8 := hw7.extN he8
      have hct8 := hct7.extN he8
      have hct28 := hct27.extN he8
      refine (c_Shape hw8.tab hct28.tree hct28.leafy (hct28.tree.shapeLen hct28.can hpr2.rises hpr2.many)).mono ?_
      rintro _ w9 ⟨rfl, he9⟩
      refine xseq ?_
      have hshape : decide (t.er.shape = t2.er.shape) = decide (m = l2) := by
        rw [← hlk]
        cases hq : (lookT t t2).1 with
        | true => exact decide_eq_true (by rw [(look_true hct5.tree hct2.tree).1 hq])
        | false => exact decide_eq_false fun e => absurd ((look_true hct5.tree hct2.tree).2 (E.shape_inj e)) (by rw [hq]; simp)
      rw [hshape]
      refine xbeq_self ?_
      refine xifT rfl ?_
      have hw9 := hw8.extN he9
      have hct9 := hct8.extN he9
      have hct29 := hct28.extN he9
      refine (c_SameX hw9.fl hct29.tree hct9.tree hct29.leafy hct9.leafy hsz2).mono ?_
      rintro _ w10 ⟨rfl, he10⟩
      rw [hlk', show decide (l2 = m) = decide (m = l2) from decide_eq_decide.2 eq_comm]
      refine xbeq_self ?_
      refine xifT rfl ?_
      have hw10 := hw9.extN he10
      have hct10 := hct9.extN he10
      refine (c_SameX hw10.fl hct10.tree hct10.tree hct10.leafy hct10.leafy hsz).mono ?_
      rintro _ w11 ⟨rfl, he11⟩
      rw [look_self]
      refine xifT rfl ?_
      refine (c_alive (hw10.extN he11)).mono ?_
      rintro _ w12 ⟨rfl, he12⟩
      exact ⟨rfl, ((((((hE5.transN he57).transN he8).transN he9).transN he10).transN he11).transN he12)⟩
    · rintro vs g w7 ⟨rfl, he⟩
      exact ⟨rfl, he⟩
end
end law28
end Go.Proofs.YtbgfmgkimccbeaaGreatDoor
