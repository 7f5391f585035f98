/-  law25: inter: two leaves and two; alive.  -/
import Derived.Test.YtbgfmgkimccbeaaGreatDoorC25
import Derived.Test.YtbgfmgkimccbeaaGreatDoorInt5
namespace Go.Proofs.YtbgfmgkimccbeaaGreatDoor
open Go Go.RowKit X
set_option linter.unusedSimpArgs false
set_option linter.unusedVariables false
set_option linter.unusedSectionVars false
variable [Floor]
theorem xbne_self {b : Bool} {K : Value → Prop} (k : K (.bool false)) : xBNe (.bool b) (.bool b) K := by cases b <;> exact k
theorem pickZ_ok {p : Nat} (h : 1 ≤ p ∧ p ≤ 5) : pickZ (p : Int) = pickN p := by
  unfold pickZ
  rw [if_pos (by omega)]
  rfl
theorem interK_self {p : Nat} {a : Kv} (h : Rises a) (h3 : p ≠ 3) (hp : 1 ≤ p ∧ p ≤ 5) : interK p a a = a := (interF_rises h).ext h fun k => by
  rw [interF_look, interO_self h3 hp]
theorem interK_first {p : Nat} {a b : Kv} (h : Rises a) : interK 1 (interK p a b) a = interK p a b := (interF_rises (interF_rises h)).ext (interF_rises h) fun k => by
  rw [interF_look, interF_look]
  cases look a k with
  | none => rfl
  | some x =>
    cases look b k with
    | none => rfl
    | some y => rfl
namespace law25
abbrev la : Kv := [([1], 5), ([2], 6)]
abbrev lb : Kv := [([2], 7), ([3], 8)]
theorem la_pr : Pr la := ⟨by decide +kernel, by intro p hp; simp at hp; rcases hp with rfl | rfl <;> simp, by simp⟩
theorem lb_pr : Pr lb := ⟨by decide +kernel, by intro p hp; simp at hp; rcases hp with rfl | rfl <;> simp, by simp⟩
theorem nil_pr : Pr [] := ⟨List.Pairwise.nil, fun p h => (by cases h), by simp⟩
theorem ct_nil {w : World} : Ct w .nil [] := ⟨trivial, Can.nil, trivial⟩
section
variable {w : World} {v ov : Value} {l pl : Kv} {ks : List Key} {ap : Bool}
theorem two_tree (hw : Lw w) {k1 k2 : UInt8} {x y o : Nat} (hp : Pr [([k1], x), ([k2], y)]) (hx : x < 18446744073709551616) (hy : y < 18446744073709551616) (ho : o ≠ 0) {K : Value → World → Prop} (k : ∀ (t : T) (w' : World), Ct w' t [([k1], x), ([k2], y)] → Ext No w w' → K t.v w') :
    XNew w ([k1].map bv) T_uint8 fun a w1 => XNew w1 ([k2].map bv) T_uint8 fun b w2 => XNew w2 ([.slice (some a) 1 1, u64 x] ++ [.slice (some b) 1 1, u64 y]) T_ref01_Pair fun c w3 => Ret P n_law25_tree [.slice (some c) 2 2, .int .u64 o] w3 K := by
  refine xnew fun a1 w1 ha1 hb1 hz1 he1 => ?_
  refine xnew fun a2 w2 ha2 hb2 hz2 he2 => ?_
  have h1 : Bs w2 (.slice (some ⟨a1, 0, none⟩) 1 1) [k1] := (Bs.new (k := [k1]) hb1).extN he2
  have h2 : Bs w2 (.slice (some ⟨a2, 0, none⟩) 1 1) [k2] := Bs.new (k := [k2]) hb2
  refine xnew fun a3 w3 ha3 hb3 hz3 he3 => ?_
  have hE3 := (he1.transN he2).transN he3
  have hps : Ps w3 (.slice (some ⟨a3, 0, none⟩) 2 2) [([k1], x), ([k2], y)] := Ps.new16 (l := [([k1], x), ([k2], y)]) hb3 (((PC.sing h1 hx).app (PC.sing h2 hy)).extN he3)
  refine (c_tree hps hp (hw.extN hE3) (ow := o) ho).mono ?_
  rintro r w4 ⟨t, rfl, hct, -, -, -, he4⟩
  exact k t w4 hct (hE3.transN he4)
theorem c_alive (hw : Lw w) : Ret P n_law25_alive [] w fun r w' => r = .bool true ∧ Ext No w w' := by
  refine W_law25_alive ?_
  show XNew w ([1].map bv) T_uint8 _
  refine two_tree hw (k1 := 1) (k2 := 2) (x := 5) (y := 6) (o := 1) la_pr (by omega) (by omega) (by omega) fun ta w1 hca he1 => ?_
  have hw1 := hw.extN he1
  show XNew w1 ([2].map bv) T_uint8 _
  refine two_tree hw1 (k1 := 2) (k2 := 3) (x := 7) (y := 8) (o := 1) lb_pr (by omega) (by omega) (by omega) fun tb w2 hcb he2 => ?_
  have hw2 := hw1.extN he2
  have hca2 := hca.extN he2
  refine (c_If (p := 2) (o := 2) (n := 0) (mt := none) ⟨by omega, by omega⟩ rfl hca2 la_pr hcb lb_pr hw2.mt0 (by omega)).mono ?_
  rintro _ w3 ⟨t', n', rfl, hR⟩
  have he3 : Ext No w2 w3 := hR.ext
  have hct := hR.ct
  have e1 : interK 2 la lb = [([2], 7)] := by decide +kernel
  have r3 : Rises [(([2] : Key), 7)] := List.pairwise_singleton _ _
  have e2 : interK 1 la lb ≠ [] := by decide +kernel
  rw [show interK 2 [([1], 5), ([2], 6)] [([2], 7), ([3], 8)] = [([2], 7)] from e1] at hct
  have s3 : t'.er.shape = [76, 48, 50, 61, 55] := by rw [hct.can.closed r3]; decide +kernel
  have hw3 := hw2.extN he3
  refine xj (fun vs w' => vs = [.bool true] ∧ Ext No w w') ?_ ?_
  · refine (c_Shape hw3.tab hct.tree hct.leafy (by rw [s3]; simp)).mono ?_
    rintro r w4 ⟨rfl, he4⟩
    rw [s3]
    refine xseq ?_
    refine xifT (decide_eq_true rfl) ?_
    refine xifT rfl ?_
    have hw4 := hw3.extN he4
    have he24 := he3.transN he4
    refine (c_Apart (n := 0) (hca2.extN he24) la_pr (hcb.extN he24) lb_pr hw4.mt0).mono ?_
    rintro _ w5 ⟨rfl, he5⟩
    rw [decide_eq_false e2]
    refine xifT rfl ?_
    have hw5 := hw4.extN he5
    refine Ret.mono (show Ret P n_inter_Apart [ta.v, T.nil.v] w5 _ from c_Apart (n := 0) ((hca2.extN he24).extN he5) la_pr ct_nil nil_pr hw5.mt0) ?_
    rintro _ w6 ⟨rfl, he6⟩
    exact ⟨rfl, (((he1.transN he2).transN he24).transN he5).transN he6⟩
  · rintro vs g w4 ⟨rfl, he⟩
    exact ⟨rfl, he⟩
end
end law25
end Go.Proofs.YtbgfmgkimccbeaaGreatDoor
