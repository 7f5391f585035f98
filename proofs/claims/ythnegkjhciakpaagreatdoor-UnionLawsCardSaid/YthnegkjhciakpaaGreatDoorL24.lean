/-  law24: union: the reference; what policies pick.  -/
import Derived.Test.YthnegkjhciakpaaGreatDoorUni14
import Derived.Test.YthnegkjhciakpaaGreatDoorE24
section
namespace Go.Proofs.YthnegkjhciakpaaGreatDoor
open Go Go.RowKit X
set_option linter.unusedSimpArgs false
set_option linter.unusedVariables false
set_option linter.unusedSectionVars false
variable [Floor]
section
variable {w : World} {va vb : Value} {a b : Kv} {z : Int} {o n : Nat} {mt : Option Mtr}
theorem c_OfBad {x y : Value} (h : ¬ (1 ≤ z ∧ z ≤ 5) ∨ o = 0) : Ret P n_union_Of [.int .i64 z, x, y, .int .u64 o, mv mt] w fun r w' => r = .tuple #[.pointer none, .int .i64 1] ∧ Ext No w w' := by
  refine W_union_Of ?_
  refine (c_ufind (z := z)).mono ?_
  rintro r w1 ⟨he1, ⟨p', h1, h5, hp', rfl⟩ | ⟨hn, rfl⟩⟩
  · refine xnew fun g w2 hg hblk hz2 he2 => ?_
    refine store2 hblk (by kernel_rfl) (by unfold polF; split <;> rfl) rfl fun w3 hb3 hz3 he3 => ?_
    have hs1 := he1.size
    have hE3 : Ext No w w3 := (he1.transN he2).trans1 he3 (by omega)
    refine xj (fun vs w' => vs = [.bool true] ∧ w3 = w') ?_ ?_
    · refine xifF rfl ?_
      refine ⟨?_, rfl⟩
      have : o = 0 := h.resolve_left fun h => h ⟨by omega, by omega⟩
      subst this
      rfl
    rintro vs g' w4 ⟨rfl, rfl⟩
    exact xifT rfl ⟨rfl, hE3⟩
  · refine xnew fun g w2 hg hblk hz2 he2 => ?_
    refine store2 hblk (by kernel_rfl) rfl rfl fun w3 hb3 hz3 he3 => ?_
    have hs1 := he1.size
    have hE3 : Ext No w w3 := (he1.transN he2).trans1 he3 (by omega)
    refine xj (fun vs w' => vs = [.bool true] ∧ w3 = w') ?_ ?_
    · exact xifT rfl ⟨rfl, rfl⟩
    rintro vs g' w4 ⟨rfl, rfl⟩
    exact xifT rfl ⟨rfl, hE3⟩
theorem c_r24Union {p : Nat} (hp : 1 ≤ p ∧ p ≤ 5) (hz : z = p) (ha : Ps w va a) (hb : Ps w vb b) (hpa : Pr a) (hpb : Pr b) (hl : a.length + b.length ≤ 100000) :
    Ret P n_ref24_Union [.int .i64 z, va, vb] w fun r w' => Ps w' r (unionK p a b) ∧ Ext No w w' := by
  refine W_ref24_Union ?_
  obtain ⟨T0, cells, hT0, h1, h2⟩ := id ha
  refine SO.app (l := []) (m := a) ei_ref (SO.nil w w T_ref01_Pair) (Ext.refl _ _) h1 h2 (by simp; omega) fun v1 w1 hso1 he1 _ _ => ?_
  refine xloop (fun n vs w' => ∃ (i : Nat) (x y u out : Value), vs = [.int .i64 i, x, y, u, out] ∧ n = b.length - i ∧ i ≤ b.length ∧ SO w w' T_ref01_Pair out (a ++ mixK p a (b.take i)) ∧ Ext No w w') b.length
    ⟨0, _, _, _, v1, rfl, rfl, by omega, by simpa [mixK] using hso1, he1⟩ ?_
  rintro n vs g w2 ⟨i, x, y, u, out, rfl, rfl, hi, hso, he2⟩
  unfold S_ref24_Union_l1
  refine hb.len ?_
  refine xifD (fun hlt => ?_) fun hge => ?_
  · have hil : i < b.length := by omega
    refine (hb.extN he2).val i rfl hil ?_
    refine xj (fun vs w' => ∃ x y : Value, vs = [x, y, u64 (mixV p a b[i])] ∧ Ext No w2 w' ∧ mixV p a b[i] < 18446744073709551616) ?_ ?_
    · refine (hb.extN he2).key i rfl hil fun kv hkv => ?_
      refine (c_r14Get (ha.extN he2) hkv hpa.many hpa.keys).mono ?_
      rintro _ w3 ⟨rfl, he3⟩
      have hbv := hb.get hil
      cases hlk : look a b[i].1 with
      | none =>
        refine xifF rfl ?_
        have : mixV p a b[i] = b[i].2 := by unfold mixV; rw [hlk]
        rw [this]
        exact ⟨_, _, rfl, he3, hbv⟩
      | some x0 =>
        refine xifT rfl ?_
        have hx0 : x0 < 18446744073709551616 := ha.v64 _ (look_mem hlk)
        refine (hb.extN (he2.transN he3)).val i rfl hil ?_
        refine (c_r24Pick (z := z) (a := x0) (b := b[i].2) hx0 hbv).mono ?_
        rintro r w4 ⟨rfl, ⟨p', h1, h5, hp', rfl⟩ | ⟨hn, rfl⟩⟩
        · obtain rfl : p' = p := by omega
          have : mixV p' a b[i] = pickN p' x0 b[i].2 := by unfold mixV; rw [hlk]
          rw [this]
          exact ⟨_, _, rfl, he3, pick_lt hx0 hbv⟩
        · exact absurd ⟨by omega, by omega⟩ hn
    · rintro vs g w3 ⟨x', y', rfl, he3, hlt⟩
      have hE3 := he2.transN he3
      refine hb.key0 hE3 i rfl hil fun kv hkv => ?_
      obtain ⟨ad, cp, rfl⟩ := hkv.slice
      show XNew w3 [.slice ad b[i].1.length cp, u64 (mixV p a b[i])] T_ref01_Pair _
      refine xnew fun c w4 hc hbl hz4 he4 => ?_
      have hsl : Sl w4 (tyQ T_ref01_Pair) (.slice (some ⟨c, 0, none⟩) 1 1) 2 1 [.slice ad b[i].1.length cp, u64 (mixV p a b[i])] := hbl.sln rfl
      have hle := mixK_length p a (b.take i)
      refine SO.app (m := [(b[i].1, mixV p a b[i])]) ei_ref (hso.extN (he3.transN he4)) (hE3.transN he4) hsl (PC.sing hkv hlt) (by simp at hle ⊢; omega) fun out' w5 hso5 he5 _ _ => ?_
      refine xi (r := ((i + 1 : Nat) : Int)) (by rw [wrapI (by omega)]; omega) ?_
      refine xnext (b.length - (i + 1)) (by omega) ⟨i + 1, _, _, _, out', rfl, rfl, by omega, ?_, he5⟩
      rw [← List.take_append_getElem hil]
      unfold mixK at hso5 ⊢
      rw [List.map_append, ← List.append_assoc]
      exact hso5
  · have : i = b.length := by omega
    subst this
    rw [List.take_length] at hso
    have hmem : ∀ x ∈ a ++ mixK p a b, x.1.length ≤ 65535 := fun x hx => by
      rcases List.mem_append.1 hx with h | h
      · exact hpa.keys x h
      · obtain ⟨y, hy, rfl⟩ := List.mem_map.1 h
        exact hpb.keys y hy
    refine (c_rSort (hso.ps he2 (.inr rfl)) (by rw [List.length_append, mixK_length]; omega) (fun x hx => by have := hmem x hx; omega)).mono ?_
    rintro r w3 ⟨hso3, he3⟩
    exact ⟨hso3.ps he3 (.inr rfl), he2.transN he3⟩
end
namespace law24
abbrev la : Kv := [([1], 5)]
abbrev lb : Kv := [([1], 6), ([1, 2], 7)]
theorem la_pr : Pr la := ⟨by decide +kernel, (by intro p hp; simp at hp; subst hp; simp), by simp⟩
theorem lb_pr : Pr lb := ⟨by decide +kernel, by intro p hp; simp at hp; rcases hp with rfl | rfl <;> simp, by simp⟩
theorem Ct.nil {w : World} : Ct w .nil [] := ⟨trivial, Can.nil, trivial⟩
theorem nil_pr : Pr [] := ⟨List.Pairwise.nil, fun p h => (by cases h), by simp⟩
section
variable {w : World} {v ov : Value} {l pl : Kv} {ks : List Key} {ap : Bool} {z : Int}
theorem Ext.mx0 {w w' : World} (h : Ext (MX none) w w') : Ext No w w' := h
theorem c_alive (hw : Lw w) : Ret P n_law24_alive [] w fun r w' => r = .bool true ∧ Ext No w w' := by
  refine W_law24_alive ?_
  show XNew w ([1].map bv) T_uint8 _
  refine xnew fun a1 w1 ha1 hb1 hz1 he1 => ?_
  have k1 : Bs w1 (.slice (some ⟨a1, 0, none⟩) 1 1) [1] := Bs.new (k := [1]) hb1
  show XNew w1 [.slice (some ⟨a1, 0, none⟩) 1 1, u64 5] T_ref01_Pair _
  refine xnew fun a2 w2 ha2 hb2 hz2 he2 => ?_
  have hps : Ps w2 (.slice (some ⟨a2, 0, none⟩) 1 1) la := Ps.new16 (l := la) hb2 ((PC.sing k1 (by omega)).extN he2)
  have hE2 := he1.transN he2
  have hw2 := hw.extN hE2
  refine (c_tree hps la_pr hw2 (ow := 1) (by omega)).mono ?_
  rintro r w3 ⟨ta, rfl, hca, -, -, -, he3⟩
  have hE3 := hE2.transN he3
  show XNew w3 ([1].map bv) T_uint8 _
  refine xnew fun a4 w4 ha4 hb4 hz4 he4 => ?_
  show XNew w4 ([1, 2].map bv) T_uint8 _
  refine xnew fun a5 w5 ha5 hb5 hz5 he5 => ?_
  have k4 : Bs w5 (.slice (some ⟨a4, 0, none⟩) 1 1) [1] := (Bs.new (k := [1]) hb4).extN he5
  have k5 : Bs w5 (.slice (some ⟨a5, 0, none⟩) 2 2) [1, 2] := Bs.new (k := [1, 2]) hb5
  show XNew w5 ([.slice (some ⟨a4, 0, none⟩) 1 1, u64 6] ++ [.slice (some ⟨a5, 0, none⟩) 2 2, u64 7]) T_ref01_Pair _
  refine xnew fun a6 w6 ha6 hb6 hz6 he6 => ?_
  have hE36 := (he4.transN he5).transN he6
  have hE6 := hE3.transN hE36
  have hw6 := hw.extN hE6
  have hps6 : Ps w6 (.slice (some ⟨a6, 0, none⟩) 2 2) lb := Ps.new16 (l := lb) hb6 (((PC.sing k4 (by omega)).app (PC.sing k5 (by omega))).extN he6)
  refine (c_tree hps6 lb_pr hw6 (ow := 1) (by omega)).mono ?_
  rintro r w7 ⟨tb, rfl, hcb, -, -, -, he7⟩
  have hw7 := hw6.extN he7
  have hE7 := hE6.transN he7
  refine (c_Of (p := 3) (o := 2) (n := 0) (mt := none) ⟨by omega, by omega⟩ rfl (hca.extN (hE36.transN he7)) la_pr hcb lb_pr hw7.mt0 (by omega)).mono ?_
  rintro _ w8 ⟨t', n', rfl, hO⟩
  have he8 : Ext No w7 w8 := hO.ext
  have hw8 := hw7.extN he8
  have hE8 := hE7.transN he8
  refine (c_UPick (z := 5) (a := 1) (b := 2) (by omega) (by omega)).mono ?_
  rintro _ w9 ⟨he9, ⟨p', h1, h5, hp', rfl⟩ | ⟨hn, rfl⟩⟩
  case inr => exact absurd ⟨by omega, by omega⟩ hn
  obtain rfl : p' = 5 := by omega
  have hc9 := hO.ct.extN he9
  have hw9 := hw8.extN he9
  have e1 : unionK 3 la lb = [([1], 11), ([1, 2], 7)] := by decide +kernel
  rw [e1] at hc9
  have r3 : Rises [(([1] : Key), 11), ([1, 2], 7)] := by decide +kernel
  have s3 : t'.er.shape = [52, 60, 48, 49, 61, 49, 49, 58, 48, 50, 76, 61, 55, 62] := by rw [hc9.can.closed r3]; decide +kernel
  refine xj (fun vs w' => vs = [.bool true] ∧ Ext No w w') ?_ ?_
  · refine (c_Shape hw9.tab hc9.tree hc9.leafy (by rw [s3]; simp)).mono ?_
    rintro r w10 ⟨rfl, he10⟩
    rw [s3]
    refine xseq ?_
    refine xifT (decide_eq_true rfl) ?_
    refine xifT rfl ?_
    refine xifT rfl ?_
    exact ⟨rfl, (hE8.transN he9).transN he10⟩
  · rintro vs g w10 ⟨rfl, he⟩
    exact ⟨rfl, he⟩
theorem l_UnionPicks (hw : Lw w) {z : Int} {a b : Nat} (ha : a < 18446744073709551616) (hb : b < 18446744073709551616) : Ret P n_law24_UnionPicks [.int .i64 z, .int .u64 a, .int .u64 b] w fun r w' => r = .bool true ∧ Ext No w w' := by
  refine W_law24_UnionPicks ?_
  refine (c_UPick (z := z) ha hb).mono ?_
  rintro r w1 ⟨he1, h1⟩
  rcases h1 with ⟨p, p1, p5, hz, rfl⟩ | ⟨hn, rfl⟩
  · refine (c_r24Pick (z := z) ha hb).mono ?_
    rintro r' w2 ⟨rfl, ⟨p', p1', p5', hz', rfl⟩ | ⟨hn, rfl⟩⟩
    case inr => exact absurd ⟨by omega, by omega⟩ hn
    have hw2 := hw.extN he1
    obtain rfl : p' = p := by omega
    refine (c_Of (a := .nil) (b := .nil) (o := 1) (n := 0) (mt := none) ⟨p1, p5⟩ hz Ct.nil nil_pr Ct.nil nil_pr hw2.mt0 (by omega)).mono ?_
    rintro _ w3 ⟨t', n', rfl, hO⟩
    have he3 : Ext No _ w3 := hO.ext
    obtain ⟨hv, -⟩ := hO.nil rfl
    rw [hv]
    refine xj (fun vs w' => vs = [.bool true] ∧ Ext No w w') ?_ ?_
    · refine xifT (by simp) ?_
      refine xifT rfl ?_
      refine xifT rfl ?_
      refine xifT rfl ?_
      refine (c_alive (hw2.extN he3)).mono ?_
      rintro r w4 ⟨rfl, he4⟩
      exact ⟨rfl, (he1.transN he3).transN he4⟩
    · rintro vs g w4 ⟨rfl, he⟩
      exact ⟨rfl, he⟩
  · refine (c_r24Pick (z := z) ha hb).mono ?_
    rintro r' w2 ⟨rfl, ⟨p', p1', p5', hz', rfl⟩ | ⟨-, rfl⟩⟩
    · exact absurd ⟨by omega, by omega⟩ hn
    have hw2 := hw.extN he1
    refine (c_OfBad (o := 1) (mt := none) (.inl hn)).mono ?_
    rintro _ w3 ⟨rfl, he3⟩
    refine xj (fun vs w' => vs = [.bool true] ∧ Ext No w w') ?_ ?_
    · refine xifT rfl ?_
      refine xifT rfl ?_
      refine xifT rfl ?_
      refine xifT rfl ?_
      refine (c_alive (hw2.extN he3)).mono ?_
      rintro r w4 ⟨rfl, he4⟩
      exact ⟨rfl, (he1.transN he3).transN he4⟩
    · rintro vs g w4 ⟨rfl, he⟩
      exact ⟨rfl, he⟩
theorem l_UnionIs (hw : Lw w) {z : Int} (hl : Ps w v l) (ho : Ot w ov ap pl ks) : Ret P n_law24_UnionIs [.int .i64 z, v, ov] w fun r w' => r = .bool true ∧ Ext No w w' := by
  obtain ⟨pv, dv, rfl, hp, hd⟩ := id ho.val
  refine W_law24_UnionIs ?_
  refine xnew fun ob w1 hob hblk hz1 he1 => ?_
  have hO : Blk w1 ob [.bool ap, pv, dv] T_law24_Other := hblk
  refine hO.ldA rfl ?_
  refine (c_large (hl.extN he1) (ho.extN he1)).mono ?_
  rintro r w2 ⟨b, rfl, he2, hb⟩
  have hE2 := he1.transN he2
  cases b with
  | true =>
    refine xifT rfl ?_
    refine (c_alive (hw.extN hE2)).mono ?_
    rintro r w3 ⟨rfl, he3⟩
    exact ⟨rfl, hE2.transN he3⟩
  | false =>
    refine xifF rfl ?_
    have hs := hb rfl
    have h1 := hs.l1
    have hpr : Pr (sortK l) := Pr.sort (by omega) fun p h => by have := hs.l3 p h; omega
    have hm100 : (sortK l).length ≤ 100 := Nat.le_trans (sortK_length l) h1
    refine (c_rSort (hl.extN hE2) (by omega) (fun p h => by have := hs.l3 p h; omega)).mono ?_
    rintro vl w3 ⟨hso, he3⟩
    have hps := hso.ps he3 (.inr rfl)
    have hw3 := (hw.extN hE2).extN he3
    generalize sortK l = m at hpr hso hps hm100
    refine (c_tree hps hpr hw3 (ow := 1) (by omega)).mono ?_
    rintro r w4 ⟨t, rfl, hct, -, how, -, he4⟩
    have hE4 := (hE2.transN he3).transN he4
    refine (hO.ext ((he2.transN he3).transN he4) fun h => h).ldA rfl ?_
    refine (c_second (hw3.extN he4) hct (hps.extN he4) hpr hm100 how (ho.extN hE4) hs.p6 hs.p3 hs.k4 hs.k3).mono ?_
    rintro _ w5 ⟨t2, v2, l2, rfl, hct2, hps2, hpr2, h160, he5⟩
    have hE5 := hE4.transN he5
    have hw5 := hw.extN hE5
    have hct5 := hct.extN he5
    have hps5 := hps.extN (he4.transN he5)
    by_cases hz : 1 ≤ z ∧ z ≤ 5
    · obtain ⟨p, rfl⟩ : ∃ p : Nat, z = p := ⟨z.toNat, by omega⟩
      have hpp : 1 ≤ p ∧ p ≤ 5 := by omega
      refine (c_Of (p := p) (o := 1) (n := 0) (mt := none) hpp rfl hct5 hpr hct2 hpr2 hw5.mt0 (by omega)).mono ?_
      rintro _ w6 ⟨t', n', rfl, hO6⟩
      have he6 : Ext No w5 w6 := hO6.ext
      refine (c_OfBad (o := 0) (mt := none) (.inr rfl)).mono ?_
      rintro _ w7 ⟨rfl, he7⟩
      have he67 := he6.transN he7
      refine xj (fun vs w' => vs = [.bool false] ∧ w7 = w') ?_ ?_
      · refine xifF rfl ?_
        exact ⟨rfl, rfl⟩
      rintro vs g w8 ⟨rfl, rfl⟩
      refine xifF rfl ?_
      refine (c_r24Pick (z := p) (a := 0) (b := 0) (by omega) (by omega)).mono ?_
      rintro _ w8 ⟨rfl, ⟨p', p1', p5', hz', rfl⟩ | ⟨hn, rfl⟩⟩
      case inr => exact absurd ⟨by omega, by omega⟩ hn
      refine xifF rfl ?_
      refine xj (fun vs w' => vs = [.bool true] ∧ Ext No w w') ?_ ?_
      · refine xifT rfl ?_
        refine (c_r24Union hpp rfl (hps5.extN he67) (hps2.extN he67) hpr hpr2 (by omega)).mono ?_
        rintro vu w9 ⟨hpsu, he9⟩
        have hw9 := (hw5.extN he67).extN he9
        have hpu := unionK_pr (p := p) hpr hpr2 (by omega)
        refine (c_as hw9 ((hO6.ct.extN he7).extN he9) hpsu hpu).mono ?_
        rintro _ w10 ⟨rfl, he10⟩
        refine xifT rfl ?_
        have he910 := he9.transN he10
        refine (c_as (hw9.extN he10) ((hct5.extN he67).extN he910) ((hps5.extN he67).extN he910) hpr).mono ?_
        rintro _ w11 ⟨rfl, he11⟩
        refine xifT rfl ?_
        have he911 := he910.transN he11
        refine (c_as ((hw9.extN he10).extN he11) ((hct2.extN he67).extN he911) ((hps2.extN he67).extN he911) hpr2).mono ?_
        rintro _ w12 ⟨rfl, he12⟩
        refine xifT rfl ?_
        refine (c_alive (((hw9.extN he10).extN he11).extN he12)).mono ?_
        rintro _ w13 ⟨rfl, he13⟩
        exact ⟨rfl, (((hE5.transN he67).transN he911).transN he12).transN he13⟩
      · rintro vs g w9 ⟨rfl, he⟩
        exact ⟨rfl, he⟩
    · refine (c_OfBad (o := 1) (mt := none) (.inl hz)).mono ?_
      rintro _ w6 ⟨rfl, he6⟩
      refine (c_OfBad (o := 0) (mt := none) (.inr rfl)).mono ?_
      rintro _ w7 ⟨rfl, he7⟩
      have he67 := he6.transN he7
      refine xj (fun vs w' => vs = [.bool false] ∧ w7 = w') ?_ ?_
      · refine xifF rfl ?_
        exact ⟨rfl, rfl⟩
      rintro vs g w8 ⟨rfl, rfl⟩
      refine xifF rfl ?_
      refine (c_r24Pick (z := z) (a := 0) (b := 0) (by omega) (by omega)).mono ?_
      rintro _ w8 ⟨rfl, ⟨p', p1', p5', hz', rfl⟩ | ⟨hn, rfl⟩⟩
      · exact absurd ⟨by omega, by omega⟩ hz
      refine xifT rfl ?_
      refine xj (fun vs w' => vs = [.bool true] ∧ Ext No w w') ?_ ?_
      · refine xifT rfl ?_
        refine xifT rfl ?_
        refine (c_alive (hw5.extN he67)).mono ?_
        rintro _ w9 ⟨rfl, he9⟩
        exact ⟨rfl, (hE5.transN he67).transN he9⟩
      · rintro vs g w9 ⟨rfl, he⟩
        exact ⟨rfl, he⟩
end
end law24
end Go.Proofs.YthnegkjhciakpaaGreatDoor
end
section
namespace Go.Proofs.YthnegkjhciakpaaGreatDoor
open Go Go.RowKit X
set_option linter.unusedSimpArgs false
set_option linter.unusedVariables false
set_option linter.unusedSectionVars false
variable [Floor]
theorem unionK_nil {p : Nat} {a : Kv} (h : Rises a) : unionK p a [] = a := by
  unfold unionK mixK
  rw [List.map_nil, List.append_nil, sortK_id h]
theorem unionK_self {p : Nat} {a : Kv} (h : Rises a) (hp : p ≠ 3) : unionK p a a = a := by
  refine (unionK_rises p a a).ext h fun k => ?_
  rw [unionK_look h h, merge_same hp]
namespace law24
section
variable {w : World} {v ov : Value} {l pl : Kv} {ks : List Key} {ap : Bool} {z : Int}
theorem l_UnionIdle (hw : Lw w) {z : Int} (hl : Ps w v l) (ho : Ot w ov ap pl ks) : Ret P n_law24_UnionIdle [.int .i64 z, v, ov] w fun r w' => r = .bool true ∧ Ext No w w' := by
  obtain ⟨pv, dv, rfl, hp, hd⟩ := id ho.val
  refine W_law24_UnionIdle ?_
  refine xnew fun ob w1 hob hblk hz1 he1 => ?_
  have hO : Blk w1 ob [.bool ap, pv, dv] T_law24_Other := hblk
  refine xj (fun vs w' => ∃ b, vs = [.bool b] ∧ Ext No w1 w' ∧ (b = false → Small l pl ks ∧ 1 ≤ z ∧ z ≤ 5)) ?_ ?_
  · refine hO.ldA rfl ?_
    refine (c_large (hl.extN he1) (ho.extN he1)).mono ?_
    rintro r w2 ⟨b, rfl, he2, hb⟩
    cases b with
    | true => exact xifT rfl ⟨true, rfl, he2, fun h => by cases h⟩
    | false =>
      refine xifF rfl ?_
      refine xifD (fun h => ⟨true, rfl, he2, fun h => by cases h⟩) fun h1 => ?_
      exact ⟨_, rfl, he2, fun h5 => ⟨hb rfl, by omega, by have := of_decide_eq_false h5; omega⟩⟩
  rintro vs g w2 ⟨b, rfl, he2, hb⟩
  have hE2 := he1.transN he2
  cases b with
  | true =>
    refine xifT rfl ?_
    refine (c_alive (hw.extN hE2)).mono ?_
    rintro r w3 ⟨rfl, he3⟩
    exact ⟨rfl, hE2.transN he3⟩
  | false =>
    refine xifF rfl ?_
    obtain ⟨hs, hz1, hz5⟩ := hb rfl
    obtain ⟨p, rfl⟩ : ∃ p : Nat, z = p := ⟨z.toNat, by omega⟩
    have hpp : 1 ≤ p ∧ p ≤ 5 := by omega
    have h1 := hs.l1
    have hpr : Pr (sortK l) := Pr.sort (by omega) fun p h => by have := hs.l3 p h; omega
    have hm100 : (sortK l).length ≤ 100 := Nat.le_trans (sortK_length l) h1
    refine (c_rSort (hl.extN hE2) (by omega) (fun p h => by have := hs.l3 p h; omega)).mono ?_
    rintro vl w3 ⟨hso, he3⟩
    have hps := hso.ps he3 (.inr rfl)
    have hw3 := (hw.extN hE2).extN he3
    generalize sortK l = m at hpr hso hps hm100
    refine (c_tree hps hpr hw3 (ow := 1) (by omega)).mono ?_
    rintro r w4 ⟨t, rfl, hct, -, how, -, he4⟩
    have hE4 := (hE2.transN he3).transN he4
    refine (hO.ext ((he2.transN he3).transN he4) fun h => h).ldA rfl ?_
    refine (c_second (hw3.extN he4) hct (hps.extN he4) hpr hm100 how (ho.extN hE4) hs.p6 hs.p3 hs.k4 hs.k3).mono ?_
    rintro _ w5 ⟨t2, v2, l2, rfl, hct2, hps2, hpr2, h160, he5⟩
    have hE5 := hE4.transN he5
    have hw5 := hw.extN hE5
    refine xnew fun mb w6 hmb hmblk hz6 he6 => ?_
    have hm6 : Mt w6 (some mb) 0 := hw5.mtNew hmb hmblk he6
    have hmbw : w.heap.size ≤ mb := by have := hE5.size; omega
    have hE6 := hE5.transN he6
    have hw6 := hw5.extN he6
    have hct6 := hct.extN (he5.transN he6)
    have hps6 := hps.extN ((he4.transN he5).transN he6)
    have hct26 := hct2.extN he6
    have hps26 := hps2.extN he6
    refine (c_Of (p := p) (o := 3) (n := 0) (mt := some mb) hpp rfl hct6 hpr hct26 hpr2 hm6 (by omega)).mono ?_
    rintro _ w7 ⟨t', n1, rfl, hO7⟩
    have he7 := hO7.ext
    have hm7 := hO7.cnt
    have hE7 := Ext.mx' hE6 he7 hmbw
    have hw7 := hw6.mt hm6 he7
    have hct7 := hct6.mt hm6 he7
    have hpu := unionK_pr (p := p) hpr hpr2 (by omega)
    have hct' := hO7.ct
    refine xj (fun vs w' => vs = [.bool false] ∧ Ext No w7 w') ?_ ?_
    · refine (c_r24Union hpp rfl (hps6.mt he7 hm6) (hps26.mt he7 hm6) hpr hpr2 (by omega)).mono ?_
      rintro vu w8 ⟨hpsu, he8⟩
      refine (c_r19Same hpsu ((hps6.mt he7 hm6).extN he8) (by have := hpu.many; omega) (by omega) hpu.keys).mono ?_
      rintro _ w9 ⟨rfl, he9⟩
      refine xifD (fun h => ?_) fun h => ⟨rfl, he8.transN he9⟩
      obtain ⟨hv, rfl⟩ := hO7.idle h
      rw [hv]
      refine xpne_self _ ?_
      refine xifF rfl ?_
      refine (c_MCount ((hm7.extN he8).extN he9)).mono ?_
      rintro _ w10 ⟨rfl, rfl⟩
      exact ⟨rfl, he8.transN he9⟩
    rintro vs g w8 ⟨rfl, he8⟩
    refine xifF rfl ?_
    have hm8 := hm7.extN he8
    have hw8 := hw7.extN he8
    have hct8 := hct7.extN he8
    have hct8' := hct'.extN he8
    have hE8 := hE7.transN he8
    refine (c_MCount hm8).mono ?_
    rintro _ w8' ⟨rfl, rfl⟩
    refine (c_Of (a := .nil) (l := []) (p := p) (o := 3) (mt := some mb) hpp rfl Ct.nil nil_pr hct8 hpr hm8 (by omega)).mono ?_
    rintro _ w9 ⟨x, n2, rfl, hO9⟩
    obtain ⟨hv9, rfl⟩ := hO9.nil rfl
    have he9 := hO9.ext
    have hm9 := hO9.cnt
    have hE9 := Ext.mx' hE8 he9 hmbw
    have hw9 := hw8.mt hm8 he9
    have hct9 := hct8.mt hm8 he9
    have hct9' := hct8'.mt hm8 he9
    refine (c_Of (b := .nil) (m := []) (p := p) (o := 3) (mt := some mb) hpp rfl hct9 hpr Ct.nil nil_pr hm9 (by omega)).mono ?_
    rintro _ w10 ⟨y, n3, rfl, hO10⟩
    obtain ⟨hv10, rfl⟩ := hO10.idle (unionK_nil hpr.rises)
    have he10 := hO10.ext
    have hm10 := hO10.cnt
    have hE10 := Ext.mx' hE9 he10 hmbw
    have hw10 := hw9.mt hm9 he10
    have hct10 := hct9.mt hm9 he10
    have hct10' := hct9'.mt hm9 he10
    refine (c_Of (p := p) (o := 3) (mt := some mb) hpp rfl hct10 hpr hct10 hpr hm10 (by omega)).mono ?_
    rintro _ w11 ⟨u, n4, rfl, hO11⟩
    have he11 := hO11.ext
    have hm11 := hO11.cnt
    have hE11 := Ext.mx' hE10 he11 hmbw
    have hw11 := hw10.mt hm10 he11
    have hct11' := hct10'.mt hm10 he11
    rw [hv9, hv10]
    refine xj (fun vs w' => vs = [.bool false] ∧ w11 = w') ?_ ?_
    · refine xpne_self (w := w11) t ?_
      refine xifF rfl ?_
      refine xpne_self (w := w11) t ?_
      refine xifF rfl ?_
      refine xifN (fun h3 => ?_) fun h3 => ⟨rfl, rfl⟩
      obtain ⟨hv11, rfl⟩ := hO11.idle (unionK_self hpr.rises (by omega))
      rw [hv11]
      refine xpne_self (w := w11) t ?_
      refine xifF rfl ?_
      refine (c_MCount hm11).mono ?_
      rintro _ w12 ⟨rfl, rfl⟩
      exact ⟨by simp, rfl⟩
    rintro vs g w12 ⟨rfl, rfl⟩
    refine xifF rfl ?_
    refine (c_Of (p := p) (o := 3) (n := 0) (mt := none) hpp rfl hct11' hpu hct11' hpu hw11.mt0 (by omega)).mono ?_
    rintro _ w12 ⟨u2, n5, rfl, hO12⟩
    have he12 : Ext No w11 w12 := hO12.ext
    have hw12 := hw11.extN he12
    have hE12 := hE11.transN he12
    refine xj (fun vs w' => vs = [.bool true] ∧ Ext No w w') ?_ ?_
    · refine xifE (fun h3 => ?_) fun h3 => ?_
      · refine (c_alive hw12).mono ?_
        rintro _ w13 ⟨rfl, he13⟩
        exact ⟨rfl, hE12.transN he13⟩
      · obtain ⟨hv12, -⟩ := hO12.idle (unionK_self hpu.rises (by omega))
        rw [hv12]
        refine xpeq_self (w := w12) t' ?_
        refine xifT rfl ?_
        refine (c_alive hw12).mono ?_
        rintro _ w13 ⟨rfl, he13⟩
        exact ⟨rfl, hE12.transN he13⟩
    · rintro vs g w13 ⟨rfl, he⟩
      exact ⟨rfl, he⟩
end
end law24
end Go.Proofs.YthnegkjhciakpaaGreatDoor
end
section
namespace Go.Proofs.YthnegkjhciakpaaGreatDoor
open Go Go.RowKit X
set_option linter.unusedSimpArgs false
set_option linter.unusedVariables false
set_option linter.unusedSectionVars false
variable [Floor]
theorem xkeepU' {w : World} {b o : Nat} {cs : List Value} {T : TypeId} {v : Value} (h : Blk w b cs T) (hv : cs[o]? = some v) : xKeep1 w (.pointer (some ⟨b, 0 + o, none⟩)) v := by
  show w.cell? ⟨b, 0 + o, none⟩ = some v
  rw [h.cell, Nat.zero_add, hv]
/-- canonical trees of the same pairs have one shape -/
theorem Ct.shape {w w' : World} {t t' : T} {l l' : Kv} (h : Ct w t l) (h' : Ct w' t' l') (e : ∀ k, look l k = look l' k) : t.er.shape = t'.er.shape := by
  rw [h.can.uniq (h'.can.congr fun k => (e k).symm)]
namespace law24
section
variable {w : World} {va vb vc : Value} {la lb lc : Kv} {z : Int}
set_option maxHeartbeats 1000000 in
theorem l_UnionLaws (hw : Lw w) {z : Int} (ha : Ps w va la) (hb : Ps w vb lb) (hc : Ps w vc lc) : Ret P n_law24_UnionLaws [.int .i64 z, .agg #[va, vb, vc]] w fun r w' => r = .bool true ∧ Ext No w w' := by
  refine W_law24_UnionLaws ?_
  refine xnew fun ob w1 hob hblk hz1 he1 => ?_
  have hO : Blk w1 ob [va, vb, vc] _ := hblk
  refine xj (fun vs w' => ∃ b, vs = [.bool b] ∧ Ext No w1 w' ∧ (b = false → (la.length ≤ 60 ∧ ∀ p ∈ la, p.1.length ≤ 300) ∧ (lb.length ≤ 60 ∧ ∀ p ∈ lb, p.1.length ≤ 300) ∧ (lc.length ≤ 60 ∧ ∀ p ∈ lc, p.1.length ≤ 300) ∧ 1 ≤ z ∧ z ≤ 5)) ?_ ?_
  · refine xixA 0 rfl (by omega) ?_
    refine hO.ld (o := 0) (v := va) rfl ?_
    refine (c_far (m := 60) (ha.extN he1) (by omega)).mono ?_
    rintro r w2 ⟨b, rfl, he2, hb1⟩
    cases b with
    | true => exact xifT rfl ⟨true, rfl, he2, fun h => by cases h⟩
    | false =>
      refine xifF rfl ?_
      refine xixA 1 rfl (by omega) ?_
      refine (hO.ext he2 fun h => h).ld (o := 1) (v := vb) rfl ?_
      refine (c_far (m := 60) (hb.extN (he1.transN he2)) (by omega)).mono ?_
      rintro r w3 ⟨b, rfl, he3, hb2⟩
      cases b with
      | true => exact xifT rfl ⟨true, rfl, he2.transN he3, fun h => by cases h⟩
      | false =>
        refine xifF rfl ?_
        refine xixA 2 rfl (by omega) ?_
        have he23 := he2.transN he3
        refine (hO.ext he23 fun h => h).ld (o := 2) (v := vc) rfl ?_
        refine (c_far (m := 60) (hc.extN (he1.transN he23)) (by omega)).mono ?_
        rintro r w4 ⟨b, rfl, he4, hb3⟩
        cases b with
        | true => exact xifT rfl ⟨true, rfl, he23.transN he4, fun h => by cases h⟩
        | false =>
          refine xifF rfl ?_
          refine xifD (fun h => ⟨true, rfl, he23.transN he4, fun h => by cases h⟩) fun h1 => ?_
          exact ⟨_, rfl, he23.transN he4, fun h5 => ⟨hb1 rfl, hb2 rfl, hb3 rfl, by omega, by have := of_decide_eq_false h5; omega⟩⟩
  rintro vs g w2 ⟨b, rfl, he2, hbb⟩
  have hE2 := he1.transN he2
  cases b with
  | true =>
    refine xifT rfl ?_
    refine (c_alive (hw.extN hE2)).mono ?_
    rintro r w3 ⟨rfl, he3⟩
    exact ⟨rfl, hE2.transN he3⟩
  | false =>
    refine xifF rfl ?_
    obtain ⟨⟨a6, a3⟩, ⟨b6, b3⟩, ⟨c6, c3⟩, z1, z5⟩ := hbb rfl
    obtain ⟨p, rfl⟩ : ∃ p : Nat, z = p := ⟨z.toNat, by omega⟩
    have hpp : 1 ≤ p ∧ p ≤ 5 := by omega
    have pa : Pr (sortK la) := Pr.sort (by omega) fun p h => by have := a3 p h; omega
    have pb : Pr (sortK lb) := Pr.sort (by omega) fun p h => by have := b3 p h; omega
    have pc : Pr (sortK lc) := Pr.sort (by omega) fun p h => by have := c3 p h; omega
    have na := sortK_length la
    have nb := sortK_length lb
    have nc := sortK_length lc
    have hd := Ext.drew (Ext.refl No w2)
    have hE2d := hE2.transN hd
    have hO2 := (hO.ext he2 fun h => h).drew
    have hw2 := hw.extN hE2d
    refine xixA 0 rfl (by omega) ?_
    refine hO2.ld (o := 0) (v := va) rfl ?_
    refine xixA 1 rfl (by omega) ?_
    refine hO2.ld (o := 1) (v := vb) rfl ?_
    refine xixA 2 rfl (by omega) ?_
    refine hO2.ld (o := 2) (v := vc) rfl ?_
    refine (c_rSort (ha.extN hE2d) (by omega) (fun p h => by have := a3 p h; omega)).mono ?_
    rintro vl w3 ⟨hso, he3⟩
    have hps := hso.ps he3 (.inr rfl)
    refine ⟨xkeepU' (hO2.ext he3 fun h => h) rfl, xkeepU' (hO2.ext he3 fun h => h) rfl, ?_⟩
    refine (c_tree hps pa (hw2.extN he3) (ow := 1) (by omega)).mono ?_
    rintro r w4 ⟨ta, rfl, cta, -, -, -, he4⟩
    have h24 := he3.transN he4
    refine ⟨xkeepU' (hO2.ext h24 fun h => h) rfl, xkeepU' (hO2.ext h24 fun h => h) rfl, ?_⟩
    refine (c_rSort (hb.extN (hE2d.transN h24)) (by omega) (fun p h => by have := b3 p h; omega)).mono ?_
    rintro vl2 w5 ⟨hso5, he5⟩
    have hps5 := hso5.ps he5 (.inr rfl)
    have h25 := h24.transN he5
    refine ⟨xkeepU' (hO2.ext h25 fun h => h) rfl, ?_⟩
    refine (c_tree hps5 pb (hw2.extN h25) (ow := 2) (by omega)).mono ?_
    rintro r w6 ⟨tb, rfl, ctb, -, -, -, he6⟩
    have h26 := h25.transN he6
    refine ⟨xkeepU' (hO2.ext h26 fun h => h) rfl, ?_⟩
    refine (c_rSort (hc.extN (hE2d.transN h26)) (by omega) (fun p h => by have := c3 p h; omega)).mono ?_
    rintro vl3 w7 ⟨hso7, he7⟩
    have hps7 := hso7.ps he7 (.inr rfl)
    have h27 := h26.transN he7
    refine (c_tree hps7 pc (hw2.extN h27) (ow := 3) (by omega)).mono ?_
    rintro r w8 ⟨tc, rfl, ctc, -, -, -, he8⟩
    have h28 := h27.transN he8
    have hw8 := hw2.extN h28
    have cta8 := (cta.extN ((he5.transN he6).transN he7)).extN he8
    have ctb8 := ctb.extN (he7.transN he8)
    generalize sortK la = ma at pa cta8 na
    generalize sortK lb = mb at pb ctb8 nb
    generalize sortK lc = mc at pc ctc nc
    have hU : ∀ {a b : Kv}, Pr a → Pr b → a.length + b.length ≤ 240 → Pr (unionK p a b) ∧ (unionK p a b).length ≤ a.length + b.length := fun {a b} h1 h2 h3 => ⟨unionK_pr h1 h2 (by omega), by
      have := sortK_length (a ++ mixK p a b)
      rw [List.length_append, mixK_length] at this
      exact this⟩
    obtain ⟨pab, nab⟩ := hU pa pb (by omega)
    obtain ⟨pbc, nbc⟩ := hU pb pc (by omega)
    refine (c_Of (p := p) (o := 4) (n := 0) (mt := none) hpp rfl cta8 pa ctb8 pb hw8.mt0 (by omega)).mono ?_
    rintro _ w9 ⟨tab, n9, rfl, O9⟩
    have he9 : Ext No w8 w9 := O9.ext
    refine (c_Of (p := p) (o := 5) (n := 0) (mt := none) hpp rfl (ctb8.extN he9) pb (ctc.extN he9) pc (hw8.extN he9).mt0 (by omega)).mono ?_
    rintro _ w10 ⟨tbc, n10, rfl, O10⟩
    have he10 : Ext No w9 w10 := O10.ext
    have h810 := he9.transN he10
    refine (c_Of (p := p) (o := 6) (n := 0) (mt := none) hpp rfl (O9.ct.extN he10) pab (ctc.extN h810) pc (hw8.extN h810).mt0 (by omega)).mono ?_
    rintro _ w11 ⟨tx, n11, rfl, O11⟩
    have he11 : Ext No w10 w11 := O11.ext
    have h811 := h810.transN he11
    refine (c_Of (p := p) (o := 7) (n := 0) (mt := none) hpp rfl (cta8.extN h811) pa (O10.ct.extN he11) pbc (hw8.extN h811).mt0 (by omega)).mono ?_
    rintro _ w12 ⟨ty, n12, rfl, O12⟩
    have he12 : Ext No w11 w12 := O12.ext
    have h812 := h811.transN he12
    obtain ⟨px, nx⟩ := hU pab pc (by omega)
    obtain ⟨py, ny⟩ := hU pa pbc (by omega)
    have hbk := backN_ok hpp
    refine xj (fun vs w' => ∃ x y : Value, vs = [x, .int .i64 (backN p : Nat), y] ∧ w12 = w') ?_ ?_
    · refine xifE (fun h => ?_) fun h => ?_
      · have : p = 1 := by omega
        subst this
        exact ⟨_, _, rfl, rfl⟩
      · refine xifE (fun h' => ?_) fun h' => ?_
        · have : p = 2 := by omega
          subst this
          exact ⟨_, _, rfl, rfl⟩
        · have : backN p = p := by
            have h : p = 3 ∨ p = 4 ∨ p = 5 := by omega
            rcases h with rfl | rfl | rfl <;> rfl
          rw [this]
          exact ⟨_, _, rfl, rfl⟩
    rintro vs g w13 ⟨x, y, rfl, rfl⟩
    refine (c_Of (p := backN p) (o := 8) (n := 0) (mt := none) hbk rfl (ctb8.extN h812) pb (cta8.extN h812) pa (hw8.extN h812).mt0 (by omega)).mono ?_
    rintro _ w13 ⟨tba, n13, rfl, O13⟩
    have he13 : Ext No w12 w13 := O13.ext
    have h813 := h812.transN he13
    have hw13 := hw8.extN h813
    have pba : Pr (unionK (backN p) mb ma) := unionK_pr pb pa (by omega)
    have hE13 := (hE2d.transN h28).transN h813
    refine xj (fun vs w' => vs = [.bool false] ∧ w13 = w') ?_ ?_
    · refine xifF rfl ?_
      refine xifF rfl ?_
      refine xifF rfl ?_
      refine xifF rfl ?_
      exact ⟨rfl, rfl⟩
    rintro vs g w14 ⟨rfl, rfl⟩
    refine xifF rfl ?_
    have cx := (O11.ct.extN he12).extN he13
    have cy := O12.ct.extN he13
    have cab := ((O9.ct.extN he10).extN he11).extN (he12.transN he13)
    have cba := O13.ct
    have exy : tx.er.shape = ty.er.shape := cx.shape cy fun k => by
      rw [unionK_look pab.rises pc.rises, unionK_look pa.rises pb.rises, unionK_look pa.rises pbc.rises, unionK_look pb.rises pc.rises, merge_assoc hpp]
    have eab : tab.er.shape = tba.er.shape := cab.shape cba fun k => by
      rw [unionK_look pa.rises pb.rises, unionK_look pb.rises pa.rises, merge_back hpp]
    refine xj (fun vs w' => vs = [.bool true] ∧ Ext No w w') ?_ ?_
    · refine (c_Shape hw13.tab cx.tree cx.leafy (cx.tree.shapeLen cx.can px.rises px.many)).mono ?_
      rintro _ w14 ⟨rfl, he14⟩
      refine (c_Shape (hw13.extN he14).tab (cy.extN he14).tree cy.leafy (cy.tree.shapeLen cy.can py.rises py.many)).mono ?_
      rintro _ w15 ⟨rfl, he15⟩
      refine xseq ?_
      refine xifT (decide_eq_true (by rw [exy])) ?_
      have h1315 := he14.transN he15
      refine (c_Shape (hw13.extN h1315).tab (cab.extN h1315).tree cab.leafy (cab.tree.shapeLen cab.can pab.rises pab.many)).mono ?_
      rintro _ w16 ⟨rfl, he16⟩
      have h1316 := h1315.transN he16
      refine (c_Shape (hw13.extN h1316).tab (cba.extN h1316).tree cba.leafy (cba.tree.shapeLen cba.can pba.rises pba.many)).mono ?_
      rintro _ w17 ⟨rfl, he17⟩
      refine xseq ?_
      refine xifT (decide_eq_true (by rw [eab])) ?_
      have h1317 := h1316.transN he17
      refine (c_Fine (cx.extN h1317).tree cx.can.fine cx.leafy (cx.long px)).mono ?_
      rintro _ w18 ⟨rfl, he18⟩
      refine xifT rfl ?_
      refine (c_alive ((hw13.extN h1317).extN he18)).mono ?_
      rintro _ w19 ⟨rfl, he19⟩
      exact ⟨rfl, ((hE13.transN h1317).transN he18).transN he19⟩
    · rintro vs g w14 ⟨rfl, he⟩
      exact ⟨rfl, he⟩
end
end law24
end Go.Proofs.YthnegkjhciakpaaGreatDoor
end
