/-  law25: inter: InterIs, InterIdle.  -/
import Derived.Test.YtbgfmgkimccbeaaGreatDoorC25
import Derived.Test.YtbgfmgkimccbeaaGreatDoorE25
import Derived.Test.YtbgfmgkimccbeaaGreatDoorInt5
namespace Go.Proofs.YtbgfmgkimccbeaaGreatDoor
open Go Go.RowKit X
set_option linter.unusedSimpArgs false
set_option linter.unusedVariables false
set_option linter.unusedSectionVars false
variable [Floor]
theorem xbne_self {b : Bool} {K : Value → Prop} (k : K (.bool false)) : xBNe (.bool b) (.bool b) K := by cases b <;> exact k
theorem pickZ_ok {p : Nat} (h : 1 ≤ p ∧ p ≤ 5) : pickZ (p : Int) = pickN p := by
  unfold pickZ
  rw [if_pos (by omega)]
  rfl
theorem interK_self {p : Nat} {a : Kv} (h : Rises a) (h3 : p ≠ 3) (hp : 1 ≤ p ∧ p ≤ 5) : interK p a a = a := (interF_rises h).ext h fun k => by
  rw [interF_look, interO_self h3 hp]
theorem interK_first {p : Nat} {a b : Kv} (h : Rises a) : interK 1 (interK p a b) a = interK p a b := (interF_rises (interF_rises h)).ext (interF_rises h) fun k => by
  rw [interF_look, interF_look]
  cases look a k with
  | none => rfl
  | some x =>
    cases look b k with
    | none => rfl
    | some y => rfl
namespace law25
abbrev la : Kv := [([1], 5), ([2], 6)]
abbrev lb : Kv := [([2], 7), ([3], 8)]
theorem la_pr : Pr la := ⟨by decide +kernel, by intro p hp; simp at hp; rcases hp with rfl | rfl <;> simp, by simp⟩
theorem lb_pr : Pr lb := ⟨by decide +kernel, by intro p hp; simp at hp; rcases hp with rfl | rfl <;> simp, by simp⟩
theorem nil_pr : Pr [] := ⟨List.Pairwise.nil, fun p h => (by cases h), by simp⟩
theorem ct_nil {w : World} : Ct w .nil [] := ⟨trivial, Can.nil, trivial⟩
section
variable {w : World} {v ov : Value} {l pl : Kv} {ks : List Key} {ap : Bool}
theorem two_tree (hw : Lw w) {k1 k2 : UInt8} {x y o : Nat} (hp : Pr [([k1], x), ([k2], y)]) (hx : x < 18446744073709551616) (hy : y < 18446744073709551616) (ho : o ≠ 0) {K : Value → World → Prop} (k : ∀ (t : T) (w' : World), Ct w' t [([k1], x), ([k2], y)] → Ext No w w' → K t.v w') :
    XNew w ([k1].map bv) T_uint8 fun a w1 => XNew w1 ([k2].map bv) T_uint8 fun b w2 => XNew w2 ([.slice (some a) 1 1, u64 x] ++ [.slice (some b) 1 1, u64 y]) T_ref01_Pair fun c w3 => Ret P n_law25_tree [.slice (some c) 2 2, .int .u64 o] w3 K := by
  refine xnew fun a1 w1 ha1 hb1 hz1 he1 => ?_
  refine xnew fun a2 w2 ha2 hb2 hz2 he2 => ?_
  have h1 : Bs w2 (.slice (some ⟨a1, 0, none⟩) 1 1) [k1] := (Bs.new (k := [k1]) hb1).extN he2
  have h2 : Bs w2 (.slice (some ⟨a2, 0, none⟩) 1 1) [k2] := Bs.new (k := [k2]) hb2
  refine xnew fun a3 w3 ha3 hb3 hz3 he3 => ?_
  have hE3 := (he1.transN he2).transN he3
  have hps : Ps w3 (.slice (some ⟨a3, 0, none⟩) 2 2) [([k1], x), ([k2], y)] := Ps.new16 (l := [([k1], x), ([k2], y)]) hb3 (((PC.sing h1 hx).app (PC.sing h2 hy)).extN he3)
  refine (c_tree hps hp (hw.extN hE3) (ow := o) ho).mono ?_
  rintro r w4 ⟨t, rfl, hct, -, -, -, he4⟩
  exact k t w4 hct (hE3.transN he4)
theorem c_alive (hw : Lw w) : Ret P n_law25_alive [] w fun r w' => r = .bool true ∧ Ext No w w' := by
  refine W_law25_alive ?_
  show XNew w ([1].map bv) T_uint8 _
  refine two_tree hw (k1 := 1) (k2 := 2) (x := 5) (y := 6) (o := 1) la_pr (by omega) (by omega) (by omega) fun ta w1 hca he1 => ?_
  have hw1 := hw.extN he1
  show XNew w1 ([2].map bv) T_uint8 _
  refine two_tree hw1 (k1 := 2) (k2 := 3) (x := 7) (y := 8) (o := 1) lb_pr (by omega) (by omega) (by omega) fun tb w2 hcb he2 => ?_
  have hw2 := hw1.extN he2
  have hca2 := hca.extN he2
  refine (c_If (p := 2) (o := 2) (n := 0) (mt := none) ⟨by omega, by omega⟩ rfl hca2 la_pr hcb lb_pr hw2.mt0 (by omega)).mono ?_
  rintro _ w3 ⟨t', n', rfl, hR⟩
  have he3 : Ext No w2 w3 := hR.ext
  have hct := hR.ct
  have e1 : interK 2 la lb = [([2], 7)] := by decide +kernel
  have r3 : Rises [(([2] : Key), 7)] := List.pairwise_singleton _ _
  have e2 : interK 1 la lb ≠ [] := by decide +kernel
  rw [show interK 2 [([1], 5), ([2], 6)] [([2], 7), ([3], 8)] = [([2], 7)] from e1] at hct
  have s3 : t'.er.shape = [76, 48, 50, 61, 55] := by rw [hct.can.closed r3]; decide +kernel
  have hw3 := hw2.extN he3
  refine xj (fun vs w' => vs = [.bool true] ∧ Ext No w w') ?_ ?_
  · refine (c_Shape hw3.tab hct.tree hct.leafy (by rw [s3]; simp)).mono ?_
    rintro r w4 ⟨rfl, he4⟩
    rw [s3]
    refine xseq ?_
    refine xifT (decide_eq_true rfl) ?_
    refine xifT rfl ?_
    have hw4 := hw3.extN he4
    have he24 := he3.transN he4
    refine (c_Apart (n := 0) (hca2.extN he24) la_pr (hcb.extN he24) lb_pr hw4.mt0).mono ?_
    rintro _ w5 ⟨rfl, he5⟩
    rw [decide_eq_false e2]
    refine xifT rfl ?_
    have hw5 := hw4.extN he5
    refine Ret.mono (show Ret P n_inter_Apart [ta.v, T.nil.v] w5 _ from c_Apart (n := 0) ((hca2.extN he24).extN he5) la_pr ct_nil nil_pr hw5.mt0) ?_
    rintro _ w6 ⟨rfl, he6⟩
    exact ⟨rfl, (((he1.transN he2).transN he24).transN he5).transN he6⟩
  · rintro vs g w4 ⟨rfl, he⟩
    exact ⟨rfl, he⟩
theorem l_InterIs (hw : Lw w) {z : Int} (hl : Ps w v l) (ho : Ot w ov ap pl ks) : Ret P n_law25_InterIs [.int .i64 z, v, ov] w fun r w' => r = .bool true ∧ Ext No w w' := by
  obtain ⟨pv, dv, rfl, hp, hd⟩ := id ho.val
  refine W_law25_InterIs ?_
  refine xnew fun ob w1 hob hblk hz1 he1 => ?_
  have hO : Blk w1 ob [.bool ap, pv, dv] T_law25_Other := hblk
  refine hO.ldA rfl ?_
  refine (c_large (hl.extN he1) (ho.extN he1)).mono ?_
  rintro r w2 ⟨b, rfl, he2, hb⟩
  have hE2 := he1.transN he2
  cases b with
  | true =>
    refine xifT rfl ?_
    refine (c_alive (hw.extN hE2)).mono ?_
    rintro r w3 ⟨rfl, he3⟩
    exact ⟨rfl, hE2.transN he3⟩
  | false =>
    refine xifF rfl ?_
    have hs := hb rfl
    have h1 := hs.l1
    have hpr : Pr (sortK l) := Pr.sort (by omega) fun p h => by have := hs.l3 p h; omega
    have hm100 : (sortK l).length ≤ 100 := Nat.le_trans (sortK_length l) h1
    refine (c_rSort (hl.extN hE2) (by omega) (fun p h => by have := hs.l3 p h; omega)).mono ?_
    rintro vl w3 ⟨hso, he3⟩
    have hps := hso.ps he3 (.inr rfl)
    have hw3 := (hw.extN hE2).extN he3
    generalize sortK l = m at hpr hso hps hm100
    refine (c_tree hps hpr hw3 (ow := 1) (by omega)).mono ?_
    rintro r w4 ⟨t, rfl, hct, -, how, -, he4⟩
    have hE4 := (hE2.transN he3).transN he4
    refine (hO.ext ((he2.transN he3).transN he4) fun h => h).ldA rfl ?_
    refine (c_second (hw3.extN he4) hct (hps.extN he4) hpr hm100 how (ho.extN hE4) hs.p6 hs.p3 hs.k4 hs.k3).mono ?_
    rintro _ w5 ⟨t2, v2, l2, rfl, hct2, hps2, hpr2, h160, he5⟩
    have hE5 := hE4.transN he5
    have hw5 := hw.extN hE5
    have hct5 := hct.extN he5
    have hps5 := hps.extN (he4.transN he5)
    have hpi : Pr (interF (pickZ z) m l2) := interF_pr hpr
    have hemp : ∀ {f : Nat → Nat → Nat}, decide (interK 1 m l2 = []) = (((interF f m l2).length : Int) == 0) := fun {f} => by
      by_cases e : interF f m l2 = []
      · rw [e, decide_eq_true (interF_empty e)]; rfl
      · rw [decide_eq_false fun h => e (interF_empty h)]
        have : (interF f m l2).length ≠ 0 := fun h => e (List.eq_nil_of_length_eq_zero h)
        exact (beq_eq_false_iff_ne.2 (by omega)).symm
    have rest : ∀ {w7 : World} {vu : Value}, Ext No w5 w7 → Ps w7 vu (interF (pickZ z) m l2) →
        xPNe P w7 (.pointer none) (.pointer none) fun v1030 =>
        xIf v1030 ([Value.bool true] = [.bool false] ∧ Ext No w7 w7) (xNe (.int .i64 1) (.int .i64 1) fun v1031 =>
        xIf v1031 ([Value.bool true] = [.bool false] ∧ Ext No w7 w7) (Ret P n_inter_Apart [t.v, t2.v] w7 fun v1032 w1033 =>
        xLen vu fun v1034 =>
        xEq v1034 (.int .i64 0) fun v1035 =>
        xBNe v1032 v1035 fun v1036 =>
        [v1036] = [.bool false] ∧ Ext No w7 w1033)) := fun {w7 vu} he7 hpsu => by
      refine xpne_self T.nil ?_
      refine xifF rfl ?_
      refine xifF rfl ?_
      refine (c_Apart (n := 0) (hct5.extN he7) hpr (hct2.extN he7) hpr2 (hw5.extN he7).mt0).mono ?_
      rintro _ w8 ⟨rfl, he8⟩
      refine (hpsu.extN he8).len ?_
      rw [hemp (f := pickZ z)]
      exact xbne_self (K := fun v => [v] = [.bool false] ∧ Ext No w7 w8) ⟨rfl, he8⟩
    by_cases hz : 1 ≤ z ∧ z ≤ 5
    · obtain ⟨p, rfl⟩ : ∃ p : Nat, z = p := ⟨z.toNat, by omega⟩
      have hpp : 1 ≤ p ∧ p ≤ 5 := by omega
      refine (c_If (p := p) (o := 1) (n := 0) (mt := none) hpp rfl hct5 hpr hct2 hpr2 hw5.mt0 (by omega)).mono ?_
      rintro _ w6 ⟨t', n', rfl, hR⟩
      have he6 : Ext No w5 w6 := hR.ext
      refine (c_IfBad (o := 0) (mt := none) (.inr rfl)).mono ?_
      rintro _ w7 ⟨rfl, he7⟩
      have he67 := he6.transN he7
      refine (c_r25Inter (hps5.extN he67) (hps2.extN he67) (by omega) (by omega) hpr2.keys).mono ?_
      rintro vu w8 ⟨hpsu, he8⟩
      have he58 := he67.transN he8
      refine xj (fun vs w' => vs = [.bool false] ∧ Ext No w8 w') (rest he58 hpsu) ?_
      rintro vs g w9 ⟨rfl, he9⟩
      refine xifF rfl ?_
      refine (c_zPick (z := p) (x := 0) (y := 0) (by omega) (by omega)).mono ?_
      rintro _ w10 ⟨rfl, -, e, rfl, he⟩
      obtain rfl := he.2 (by omega)
      refine xifF rfl ?_
      rw [pickZ_ok hpp] at hpsu hpi
      have he59 := he58.transN he9
      have hw9 := hw5.extN he59
      refine xj (fun vs w' => vs = [.bool true] ∧ Ext No w w') ?_ ?_
      · refine xifT rfl ?_
        refine (c_as hw9 (((hR.ct.extN he7).extN he8).extN he9) (hpsu.extN he9) hpi).mono ?_
        rintro _ w11 ⟨rfl, he11⟩
        refine xifT rfl ?_
        refine (c_as (hw9.extN he11) ((hct5.extN he59).extN he11) ((hps5.extN he59).extN he11) hpr).mono ?_
        rintro _ w12 ⟨rfl, he12⟩
        refine xifT rfl ?_
        have h912 := he11.transN he12
        refine (c_as (hw9.extN h912) ((hct2.extN he59).extN h912) ((hps2.extN he59).extN h912) hpr2).mono ?_
        rintro _ w13 ⟨rfl, he13⟩
        refine xifT rfl ?_
        refine (c_alive ((hw9.extN h912).extN he13)).mono ?_
        rintro _ w14 ⟨rfl, he14⟩
        exact ⟨rfl, (((hE5.transN he59).transN h912).transN he13).transN he14⟩
      · rintro vs g w11 ⟨rfl, he⟩
        exact ⟨rfl, he⟩
    · refine (c_IfBad (o := 1) (mt := none) (.inl hz)).mono ?_
      rintro _ w6 ⟨rfl, he6⟩
      refine (c_IfBad (o := 0) (mt := none) (.inr rfl)).mono ?_
      rintro _ w7 ⟨rfl, he7⟩
      have he67 := he6.transN he7
      refine (c_r25Inter (z := z) (hps5.extN he67) (hps2.extN he67) (by omega) (by omega) hpr2.keys).mono ?_
      rintro vu w8 ⟨hpsu, he8⟩
      have he58 := he67.transN he8
      refine xj (fun vs w' => vs = [.bool false] ∧ Ext No w8 w') (rest he58 hpsu) ?_
      rintro vs g w9 ⟨rfl, he9⟩
      refine xifF rfl ?_
      refine (c_r24Pick (z := z) (a := 0) (b := 0) (by omega) (by omega)).mono ?_
      rintro _ w10 ⟨rfl, ⟨p', p1', p5', hz', rfl⟩ | ⟨hn, rfl⟩⟩
      · exact absurd ⟨by omega, by omega⟩ hz
      refine xifT rfl ?_
      have he59 := he58.transN he9
      refine xj (fun vs w' => vs = [.bool true] ∧ Ext No w w') ?_ ?_
      · refine xpeq_self T.nil ?_
        refine xifT rfl ?_
        refine xifT rfl ?_
        refine (c_alive (hw5.extN he59)).mono ?_
        rintro _ w11 ⟨rfl, he11⟩
        exact ⟨rfl, (hE5.transN he59).transN he11⟩
      · rintro vs g w11 ⟨rfl, he⟩
        exact ⟨rfl, he⟩
theorem l_InterIdle (hw : Lw w) {z : Int} (hl : Ps w v l) (ho : Ot w ov ap pl ks) : Ret P n_law25_InterIdle [.int .i64 z, v, ov] w fun r w' => r = .bool true ∧ Ext No w w' := by
  obtain ⟨pv, dv, rfl, hp, hd⟩ := id ho.val
  refine W_law25_InterIdle ?_
  refine xnew fun ob w1 hob hblk hz1 he1 => ?_
  have hO : Blk w1 ob [.bool ap, pv, dv] T_law25_Other := hblk
  refine xj (fun vs w' => ∃ b, vs = [.bool b] ∧ Ext No w1 w' ∧ (b = false → Small l pl ks ∧ 1 ≤ z ∧ z ≤ 5)) ?_ ?_
  · refine hO.ldA rfl ?_
    refine (c_large (hl.extN he1) (ho.extN he1)).mono ?_
    rintro r w2 ⟨b, rfl, he2, hb⟩
    cases b with
    | true => exact xifT rfl ⟨true, rfl, he2, fun h => by cases h⟩
    | false =>
      refine xifF rfl ?_
      refine xifD (fun h => ⟨true, rfl, he2, fun h => by cases h⟩) fun h1 => ?_
      exact ⟨_, rfl, he2, fun h5 => ⟨hb rfl, by omega, by have := of_decide_eq_false h5; omega⟩⟩
  rintro vs g w2 ⟨b, rfl, he2, hb⟩
  have hE2 := he1.transN he2
  cases b with
  | true =>
    refine xifT rfl ?_
    refine (c_alive (hw.extN hE2)).mono ?_
    rintro r w3 ⟨rfl, he3⟩
    exact ⟨rfl, hE2.transN he3⟩
  | false =>
    refine xifF rfl ?_
    obtain ⟨hs, hz1, hz5⟩ := hb rfl
    obtain ⟨p, rfl⟩ : ∃ p : Nat, z = p := ⟨z.toNat, by omega⟩
    have hpp : 1 ≤ p ∧ p ≤ 5 := by omega
    have h1 := hs.l1
    have hpr : Pr (sortK l) := Pr.sort (by omega) fun p h => by have := hs.l3 p h; omega
    have hm100 : (sortK l).length ≤ 100 := Nat.le_trans (sortK_length l) h1
    refine (c_rSort (hl.extN hE2) (by omega) (fun p h => by have := hs.l3 p h; omega)).mono ?_
    rintro vl w3 ⟨hso, he3⟩
    have hps := hso.ps he3 (.inr rfl)
    have hw3 := (hw.extN hE2).extN he3
    generalize sortK l = m at hpr hso hps hm100
    refine (c_tree hps hpr hw3 (ow := 1) (by omega)).mono ?_
    rintro r w4 ⟨t, rfl, hct, -, how, -, he4⟩
    have hE4 := (hE2.transN he3).transN he4
    refine (hO.ext ((he2.transN he3).transN he4) fun h => h).ldA rfl ?_
    refine (c_second (hw3.extN he4) hct (hps.extN he4) hpr hm100 how (ho.extN hE4) hs.p6 hs.p3 hs.k4 hs.k3).mono ?_
    rintro _ w5 ⟨t2, v2, l2, rfl, hct2, hps2, hpr2, h160, he5⟩
    have hE5 := hE4.transN he5
    have hw5 := hw.extN hE5
    refine xnew fun mb w6 hmb hmblk hz6 he6 => ?_
    have hm6 : Mt w6 (some mb) 0 := hw5.mtNew hmb hmblk he6
    have hmbw : w.heap.size ≤ mb := by have := hE5.size; omega
    have hE6 := hE5.transN he6
    have hw6 := hw5.extN he6
    have hct6 := hct.extN (he5.transN he6)
    have hps6 := hps.extN ((he4.transN he5).transN he6)
    have hct26 := hct2.extN he6
    have hps26 := hps2.extN he6
    refine (c_If (p := p) (o := 3) (n := 0) (mt := some mb) hpp rfl hct6 hpr hct26 hpr2 hm6 (by omega)).mono ?_
    rintro _ w7 ⟨t', n1, rfl, hR⟩
    have he7 := hR.ext
    have hm7 := hR.cnt
    have hE7 := Ext.mx' hE6 he7 hmbw
    have hw7 := hw6.mt hm6 he7
    have hct7 := hct6.mt hm6 he7
    have hpu : Pr (interK p m l2) := interF_pr hpr
    have hct' := hR.ct
    refine xj (fun vs w' => vs = [.bool false] ∧ Ext No w7 w') ?_ ?_
    · refine (c_r25Inter (hps6.mt he7 hm6) (hps26.mt he7 hm6) (by omega) (by omega) hpr2.keys).mono ?_
      rintro vu w8 ⟨hpsu, he8⟩
      rw [pickZ_ok hpp] at hpsu
      refine (c_r19Same hpsu ((hps6.mt he7 hm6).extN he8) (Nat.le_trans hpu.many (by omega)) (by omega) hpu.keys).mono ?_
      rintro _ w9 ⟨rfl, he9⟩
      refine xifD (fun h => ?_) fun h => ⟨rfl, he8.transN he9⟩
      obtain ⟨rfl, rfl⟩ := hR.idle h
      refine xpne_self _ ?_
      refine xifF rfl ?_
      refine (c_MCount ((hm7.extN he8).extN he9)).mono ?_
      rintro _ w10 ⟨rfl, rfl⟩
      exact ⟨rfl, he8.transN he9⟩
    rintro vs g w8 ⟨rfl, he8⟩
    refine xifF rfl ?_
    have hm8 := hm7.extN he8
    have hw8 := hw7.extN he8
    have hct8 := hct7.extN he8
    have hct8' := hct'.extN he8
    have hE8 := hE7.transN he8
    refine (c_MCount hm8).mono ?_
    rintro _ w8' ⟨rfl, rfl⟩
    refine (c_If (z := 1) (p := 1) (o := 3) (mt := some mb) ⟨by omega, by omega⟩ rfl hct8' hpu hct8 hpr hm8 (by omega)).mono ?_
    rintro _ w9 ⟨x, n2, rfl, hR9⟩
    obtain ⟨rfl, rfl⟩ := hR9.idle (interK_first hpr.rises)
    have he9 := hR9.ext
    have hm9 := hR9.cnt
    have hE9 := Ext.mx' hE8 he9 hmbw
    have hw9 := hw8.mt hm8 he9
    have hct9 := hct8.mt hm8 he9
    refine (c_If (z := 4) (p := 4) (o := 3) (mt := some mb) ⟨by omega, by omega⟩ rfl hct9 hpr hct9 hpr hm9 (by omega)).mono ?_
    rintro _ w10 ⟨y, n3, rfl, hR10⟩
    obtain ⟨rfl, rfl⟩ := hR10.idle (interK_self hpr.rises (by omega) ⟨by omega, by omega⟩)
    have he10 := hR10.ext
    have hm10 := hR10.cnt
    have hE10 := Ext.mx' hE9 he10 hmbw
    have hw10 := hw9.mt hm9 he10
    refine xj (fun vs w' => vs = [.bool true] ∧ Ext No w w') ?_ ?_
    · refine xpeq_self (w := w10) _ ?_
      refine xifT rfl ?_
      refine xpeq_self (w := w10) _ ?_
      refine xifT rfl ?_
      refine (c_MCount hm10).mono ?_
      rintro _ w11 ⟨rfl, rfl⟩
      refine xifT (by simp) ?_
      refine (c_alive hw10).mono ?_
      rintro _ w12 ⟨rfl, he12⟩
      exact ⟨rfl, hE10.transN he12⟩
    · rintro vs g w11 ⟨rfl, he⟩
      exact ⟨rfl, he⟩
end
end law25
end Go.Proofs.YtbgfmgkimccbeaaGreatDoor
