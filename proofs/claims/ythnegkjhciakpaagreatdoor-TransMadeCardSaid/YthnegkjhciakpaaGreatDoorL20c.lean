/-  law20: transients: TransMade.  -/
import Derived.Test.YthnegkjhciakpaaGreatDoorL20
import Derived.Test.YthnegkjhciakpaaGreatDoorRefM
namespace Go.Proofs.YthnegkjhciakpaaGreatDoor
open Go Go.RowKit X
set_option linter.unusedSimpArgs false
set_option linter.unusedVariables false
set_option linter.unusedSectionVars false
theorem sum_le_map {l : List UInt8} {f g : UInt8 → Nat} (h : ∀ c, f c ≤ g c) : (l.map f).sum ≤ (l.map g).sum := by
  induction l with
  | nil => exact Nat.le_refl _
  | cons a r ih =>
    rw [List.map_cons, List.map_cons, List.sum_cons, List.sum_cons]
    have := h a
    omega
theorem T.pot_le (o : Nat) : ∀ t : T, t.pot o ≤ t.er.size := by
  intro t
  induction t with
  | nil => exact Nat.le_refl _
  | node a ow part val ks kids ih =>
    have h1 : (byt.map fun c => (kids c).pot o).sum ≤ (byt.map fun c => (kids c).er.size).sum := sum_le_map ih
    show (byt.map fun c => (kids c).pot o).sum + (if ow = o then 0 else 1) ≤ (byt.map fun c => (kids c).er.size).sum + 1
    split <;> omega
variable [Floor]
namespace law20
section
variable {w : World} {v vp dv : Value} {l pl : Kv} {ks : List Key}
set_option maxHeartbeats 1000000 in
theorem l_TransMade (hw : Lw w) (hl : Ps w v l) (hp : Ps w vp pl) (hd : Bss w dv ks) : Ret P n_law20_TransMade [v, vp, dv] w fun r w' => r = .bool true ∧ Ext No w w' := by
  refine W_law20_TransMade ?_
  refine xj (fun vs w' => ∃ b, vs = [.bool b] ∧ Ext No w w' ∧ (b = false → (l.length ≤ 100 ∧ ∀ p ∈ l, p.1.length ≤ 300) ∧ (pl.length ≤ 60 ∧ ∀ p ∈ pl, p.1.length ≤ 300) ∧ ks.length ≤ 60)) ?_ ?_
  · refine (c_far (m := 100) hl (by omega)).mono ?_
    rintro r w1 ⟨b, rfl, he1, hb⟩
    cases b with
    | true => exact xifT rfl ⟨true, rfl, he1, fun h => by cases h⟩
    | false =>
      refine xifF rfl ?_
      refine (c_far (m := 60) (hp.extN he1) (by omega)).mono ?_
      rintro r w2 ⟨b, rfl, he2, hb2⟩
      cases b with
      | true => exact xifT rfl ⟨true, rfl, he1.transN he2, fun h => by cases h⟩
      | false =>
        refine xifF rfl ?_
        refine hd.len ?_
        exact ⟨_, rfl, he1.transN he2, fun h => ⟨hb rfl, hb2 rfl, by have := of_decide_eq_false h; omega⟩⟩
  rintro vs g w1 ⟨b, rfl, he1, hb⟩
  have hw1 := hw.extN he1
  cases b with
  | true =>
    refine xifT rfl ?_
    refine (c_alive hw1).mono ?_
    rintro r w2 ⟨rfl, he2⟩
    exact ⟨rfl, he1.transN he2⟩
  | false =>
    refine xifF rfl ?_
    obtain ⟨⟨l1, l3⟩, ⟨p4, p3⟩, k6⟩ := hb rfl
    have hpr : Pr (sortK l) := Pr.sort (by omega) fun p h => by have := l3 p h; omega
    have hm1 : (sortK l).length ≤ 100 := Nat.le_trans (sortK_length l) l1
    refine (c_rSort (hl.extN he1) (by omega) (fun p h => by have := l3 p h; omega)).mono ?_
    rintro vl w2 ⟨hso, he2⟩
    have hps := hso.ps he2 (.inr rfl)
    generalize sortK l = m at hpr hso hps hm1
    have hw2 := hw1.extN he2
    refine (c_WNew (B := w2.heap.size) hw2 (Nat.le_refl _) hw2.fl).mono ?_
    rintro _ w3 ⟨rfl, hI3, he3⟩
    refine (c_pairs (hps.extN he3) (by omega)).mono ?_
    rintro va w4 ⟨hva, he4⟩
    refine (c_From (hI3.extN he4) hva hpr (by omega)).mono ?_
    rintro _ w5 ⟨v0, t0, rfl, -, -, hI5, -, hE5⟩
    have hv5 : updV (fun _ => none) v0 (t0, m) v0 = some (t0, m) := updV_same _ _ _
    generalize updV (fun _ => none) v0 (t0, m) = V at hI5 hv5
    have hE35 : VE w2.heap.size w3 w5 := (VE.no he4).trans hE5
    refine (c_Edit (TI.of hI5) hv5 (by omega)).mono ?_
    rintro _ w6 ⟨tb, rfl, htb, hT6, hE6⟩
    have hr6 := updM_same (fun _ => none) tb ⟨0 + 1 + 1, v0, t0, m⟩
    generalize updM (fun _ => none) tb ⟨0 + 1 + 1, v0, t0, m⟩ = M6 at hT6 hr6
    have hE36 := hE35.trans hE6
    have hct6 := (hT6.vi.ver _ _ _ hv5).ct
    have hsize : t0.er.size ≤ 200 := by have := hct6.can.size hpr.rises; omega
    have hp3 := hp.extN ((he1.transN he2).transN he3)
    have hd3 := hd.extN ((he1.transN he2).transN he3)
    refine xj (fun vs w' => vs = [.bool false] ∧ w6 = w') ?_ ?_
    · refine xpeq_vb ?_
      refine xifF rfl ?_
      exact ⟨rfl, rfl⟩
    rintro vs g w7 ⟨rfl, rfl⟩
    refine xifF rfl ?_
    refine (c_WMade hT6.vi (by omega)).mono ?_
    rintro _ w7 ⟨rfl, rfl⟩
    have hps7 := hE36.ps (hps.extN he3)
    refine (c_rBuild (by omega) hps7 hpr.rises hpr.keys).mono ?_
    rintro _ w8 ⟨e, cs, rfl, hrc, hcan, he8⟩
    obtain rfl := hcan.uniq hct6.can
    refine (c_rMade _ hrc (by omega)).mono ?_
    rintro _ w9 ⟨rfl, he9⟩
    have he79 := he8.transN he9
    have hT9 := hT6.extN he79
    have hE9 := hE36.transN he79
    refine hp3.len ?_
    have hpot0 := T.pot_le (0 + 1 + 1) t0
    generalize hN : t0.er.size = sz at hsize hpot0
    rw [hN] at hT6 hT9
    refine xloop (fun n vs w' => ∃ (i n' most : Nat) (t1 : T) (L : Kv) (M' : Nat → Option TrR) (x y : Value), vs = [.int .i64 i, x, .int .i64 most, .bool false, y] ∧ n = pl.length - i ∧ i ≤ pl.length ∧ TI w2.heap.size w' w2.heap.size n' (0 + 1 + 1) V M' (fun _ => False) ∧
        M' tb = some ⟨0 + 1 + 1, v0, t1, L⟩ ∧ n' + t1.pot (0 + 1 + 1) ≤ 0 + sz + most ∧ most ≤ 200 + 5 * i ∧ L.length ≤ 100 + i ∧ VE w2.heap.size w3 w') pl.length
      ⟨0, _, sz, t0, m, M6, _, _, rfl, rfl, by omega, hT9, hr6, by omega, by omega, by omega, hE9⟩ ?_
    rintro n vs g w10 ⟨i, n', most, t1, L, M', x, y, rfl, rfl, hi, hT10, hr10, hpot, hmost, hL, hE10⟩
    unfold S_law20_TransMade_l1
    refine xifD (fun hlt => ?_) fun hge => ?_
    · have hil : i < pl.length := by omega
      have hpk := p3 _ (List.getElem_mem hil)
      have hp10 := hE10.ps hp3
      have hx := hp10.get hil
      refine hp10.rd i rfl hil fun kv hkv => ?_
      refine xnew fun b w11 hb11 hbl hz11 he11 => ?_
      refine xstoreVar hbl (by kernel_rfl) (by simp) ?_ fun w12 hb12 hz12 he12 => ?_
      · intro u hu
        simp only [List.mem_cons, List.mem_nil_iff, or_false] at hu
        rcases hu with rfl | rfl
        · exact hkv.one1
        · rfl
      have hb12 : Blk w12 b [kv, u64 pl[i].2] T_ref01_Pair := by simpa using hb12
      have hE12 : Ext No w10 w12 := he11.trans1 he12 (by omega)
      have hT12 := hT10.extN hE12
      have hd12 : Bss w12 dv ks := by
        obtain ⟨Y, e, hn, -⟩ := (hE10.transN hE12).out
        exact hd3.ext e hn.nbp.b
      refine xj (fun vs w' => ∃ (most' n2 : Nat) (t2 : T) (L2 : Kv) (M2 : Nat → Option TrR), vs = [.int .i64 most'] ∧ TI w2.heap.size w' w2.heap.size n2 (0 + 1 + 1) V M2 (fun _ => False) ∧ M2 tb = some ⟨0 + 1 + 1, v0, t2, L2⟩ ∧ n2 + t2.pot (0 + 1 + 1) ≤ 0 + sz + most' ∧ most' ≤ most + 1 ∧ L2.length ≤ 100 + i ∧ VE w2.heap.size w12 w') ?_ ?_
      · refine xj (fun vs w' => ∃ b, vs = [.bool b] ∧ w12 = w' ∧ (b = true → ∃ h : i < ks.length, ks[i].length ≤ 300)) ?_ ?_
        · refine hd12.len ?_
          refine xifD (fun h => ?_) fun h => ⟨false, rfl, rfl, fun h => by cases h⟩
          have hik : i < ks.length := by omega
          refine hd12.rd i rfl hik fun kv2 hkv2 => ?_
          refine hkv2.len ?_
          exact ⟨_, rfl, rfl, fun h => ⟨hik, by have := of_decide_eq_true h; omega⟩⟩
        rintro vs g w13 ⟨b, rfl, rfl, hb13⟩
        cases b with
        | false => exact xifF rfl ⟨most, n', t1, L, M', rfl, hT12, hr10, hpot, by omega, hL, VE.refl _⟩
        | true =>
          obtain ⟨hik, hkl⟩ := hb13 rfl
          refine xifT rfl ?_
          refine hd12.rd i rfl hik fun kv2 hkv2 => ?_
          refine (c_TDel hT12 hr10 hkv2 (by omega)).mono ?_
          rintro _ w14 ⟨rfl, hE14, t2, n2, hT14, hpd, -⟩
          refine xi (r := ((most + 1 : Nat) : Int)) (by rw [wrapI (by omega)]; omega) ?_
          have hdl := dropK_length ks[i] L
          have hpd : n2 + t2.pot (0 + 1 + 1) ≤ n' + t1.pot (0 + 1 + 1) + 1 := hpd
          exact ⟨most + 1, n2, t2, _, _, rfl, hT14, updM_same _ _ _, by omega, by omega, by show (dropK ks[i] L).length ≤ _; omega, hE14⟩
      rintro vs g w13 ⟨most', n2, t2, L2, M2, rfl, hT13, hr13, hpot13, hmost13, hL13, hE13⟩
      have hb13 := hE13.blk hb12 nvty_pair
      have hk13 := hE13.bs (hkv.extN hE12)
      refine hb13.ld (o := 0) (v := kv) rfl ?_
      refine hb13.ld (o := 1) (v := u64 pl[i].2) rfl ?_
      refine (c_TPut hT13 hr13 hk13 (by omega) hx (by show L2.length < _; omega)).mono ?_
      rintro _ w14 ⟨rfl, hE14, t3, n3, hT14, hP14⟩
      have hp14 : n3 + t3.pot (0 + 1 + 1) ≤ n2 + t2.pot (0 + 1 + 1) + 2 := hP14.pot
      have hr14 := updM_same M2 tb ⟨0 + 1 + 1, v0, t3, insK L2 pl[i].1 pl[i].2⟩
      generalize updM M2 tb ⟨0 + 1 + 1, v0, t3, insK L2 pl[i].1 pl[i].2⟩ = M3 at hT14 hr14
      have hl14 := insK_length L2 pl[i].1 pl[i].2
      have hb14 := hE14.blk hb13 nvty_pair
      have hk14 := hE14.bs hk13
      refine hb14.ld (o := 0) (v := kv) rfl ?_
      refine hb14.ld (o := 1) (v := u64 pl[i].2) rfl ?_
      refine xi (r := (((pl[i].2 + 1) % 18446744073709551616 : Nat) : Int)) (by rw [show (pl[i].2 : Int) + 1 = ((pl[i].2 + 1 : Nat) : Int) by omega, wrapU64m]) ?_
      have hT3 := hT14.tr tb _ hr14
      have hg14 : t3.get pl[i].1 = some pl[i].2 := (hT3.ct.can.get _).trans (by rw [insK_look (hT13.tr tb _ hr13).pr.rises, if_pos rfl])
      refine (c_TPut (x := (pl[i].2 + 1) % 18446744073709551616) hT14 hr14 hk14 (by omega) (Nat.mod_lt _ (by omega)) (by show (insK L2 pl[i].1 pl[i].2).length < _; omega)).mono ?_
      rintro _ w15 ⟨rfl, hE15, t4, n4, hT15, hP15⟩
      have hp15 : n4 + t4.pot (0 + 1 + 1) ≤ n3 + t3.pot (0 + 1 + 1) := hP15.pot0 (by show (t3.get pl[i].1).isSome = true; rw [hg14]; rfl)
      have hway : t4.Way (0 + 1 + 1) pl[i].1 := hP15.way (by
        show t3.get pl[i].1 ≠ _
        rw [hg14]
        intro e
        have := Option.some.inj e
        omega)
      have hr15 := updM_same M3 tb ⟨0 + 1 + 1, v0, t4, insK (insK L2 pl[i].1 pl[i].2) pl[i].1 ((pl[i].2 + 1) % 18446744073709551616)⟩
      have hlk14 : (look (insK L2 pl[i].1 pl[i].2) pl[i].1).isSome = true := by rw [insK_look (hT13.tr tb _ hr13).pr.rises, if_pos rfl]; rfl
      have hl15 := insK_len (l := insK L2 pl[i].1 pl[i].2) hT3.pr.rises pl[i].1 ((pl[i].2 + 1) % 18446744073709551616)
      rw [if_pos hlk14] at hl15
      have hlk15 : look (insK (insK L2 pl[i].1 pl[i].2) pl[i].1 ((pl[i].2 + 1) % 18446744073709551616)) pl[i].1 = some ((pl[i].2 + 1) % 18446744073709551616) := by rw [insK_look hT3.pr.rises, if_pos rfl]
      generalize insK (insK L2 pl[i].1 pl[i].2) pl[i].1 ((pl[i].2 + 1) % 18446744073709551616) = L4 at hT15 hr15 hl15 hlk15
      generalize updM M3 tb ⟨0 + 1 + 1, v0, t4, L4⟩ = M4 at hT15 hr15
      refine xi (r := ((most' + 4 : Nat) : Int)) (by rw [wrapI (by omega)]; omega) ?_
      refine (c_WMade hT15.vi (by omega)).mono ?_
      rintro _ w16 ⟨rfl, rfl⟩
      refine xi (r := (n4 : Int) - ((0 + sz : Nat) : Int)) (wrapI (by omega)) ?_
      refine xifF (by simp; omega) ?_
      refine (c_WMade hT15.vi (by omega)).mono ?_
      rintro _ w17 ⟨rfl, rfl⟩
      have hb15 := hE15.blk hb14 nvty_pair
      have hk15 := hE15.bs hk14
      have hT4 := hT15.tr tb _ hr15
      refine xj (fun vs w' => vs = [.bool false] ∧ ∃ (t5 : T) (L5 : Kv) (M5 : Nat → Option TrR), TI w2.heap.size w' w2.heap.size n4 (0 + 1 + 1) V M5 (fun _ => False) ∧ M5 tb = some ⟨0 + 1 + 1, v0, t5, L5⟩ ∧ t5.pot (0 + 1 + 1) ≤ t4.pot (0 + 1 + 1) ∧ L5.length ≤ 100 + (i + 1) ∧ VE w2.heap.size w17 w') ?_ ?_
      · refine hb15.ld (o := 0) (v := kv) rfl ?_
        refine hb15.ld (o := 1) (v := u64 pl[i].2) rfl ?_
        refine xi (r := (((pl[i].2 + 2) % 18446744073709551616 : Nat) : Int)) (by rw [show (pl[i].2 : Int) + 2 = ((pl[i].2 + 2 : Nat) : Int) by omega, wrapU64m]) ?_
        have hsome : (t4.get pl[i].1).isSome = true := by
          rw [show t4.get pl[i].1 = _ from hT4.ct.can.get _]
          show (look L4 pl[i].1).isSome = true
          rw [hlk15]; rfl
        refine (c_TPut (x := (pl[i].2 + 2) % 18446744073709551616) hT15 hr15 hk15 (by omega) (Nat.mod_lt _ (by omega)) (by show L4.length < _; omega)).mono ?_
        rintro _ w18 ⟨rfl, hE18, t5, n5, hT18, hP18⟩
        obtain rfl := hP18.still hway hsome
        have hp18 := hP18.pot0 hsome
        refine xifF rfl ?_
        refine (c_WMade hT18.vi (by omega)).mono ?_
        rintro _ w19 ⟨rfl, rfl⟩
        refine ⟨by simp, t5, _, _, hT18, updM_same _ _ _, ?_, ?_, hE18⟩
        · have hp18 : n5 + t5.pot (0 + 1 + 1) ≤ n5 + t4.pot (0 + 1 + 1) := hp18
          omega
        · have := insK_len hT4.pr.rises pl[i].1 ((pl[i].2 + 2) % 18446744073709551616)
          rw [show look (TrR.l ⟨0 + 1 + 1, v0, t4, L4⟩) pl[i].1 = _ from hlk15] at this
          have this : (insK L4 pl[i].1 ((pl[i].2 + 2) % 18446744073709551616)).length = L4.length + 0 := this
          show (insK L4 pl[i].1 _).length ≤ _
          omega
      rintro vs g w18 ⟨rfl, t5, L5, M5, hT18, hr18, hp18, hL18, hE18⟩
      refine xifF rfl ?_
      refine xi (r := ((i + 1 : Nat) : Int)) (by rw [wrapI (by omega)]; omega) ?_
      exact xnext (pl.length - (i + 1)) (by omega) ⟨i + 1, n4, most' + 4, t5, L5, M5, _, _, rfl, rfl, by omega, hT18, hr18, by omega, by omega, hL18, ((((hE10.transN hE12).trans hE13).trans hE14).trans hE15).trans hE18⟩
    · have : i = pl.length := by omega
      subst this
      refine (c_TFreezeE hT10 hr10).mono ?_
      rintro _ w11 ⟨hE11, vy, V11, ty, rfl, hT11, hvy, -, -, -⟩
      refine xj (fun vs w' => vs = [.bool true] ∧ Ext No w w') ?_ ?_
      · refine xifT rfl ?_
        refine (c_VRoot hT11.vi hvy).mono ?_
        rintro _ w12 ⟨rfl, rfl⟩
        have hVy := hT11.vi.ver _ _ _ hvy
        refine (c_Fine hVy.ct.tree hVy.ct.can.fine hVy.ct.leafy (hVy.ct.long hVy.pr)).mono ?_
        rintro _ w13 ⟨rfl, he13⟩
        refine xifT rfl ?_
        have hT13 := hT11.extN he13
        refine (c_WMade hT13.vi (by omega)).mono ?_
        rintro _ w14 ⟨rfl, rfl⟩
        refine xi (r := (n' : Int) - ((0 + sz : Nat) : Int)) (wrapI (by omega)) ?_
        refine xifT (by simp; omega) ?_
        refine (c_alive hT13.vi.lw).mono ?_
        rintro _ w15 ⟨rfl, he15⟩
        exact ⟨rfl, (((hE10.trans hE11).transN he13).transN he15).start ((he1.transN he2).transN he3) (by have := (he1.transN he2).size; omega)⟩
      · rintro vs g w12 ⟨rfl, he⟩
        exact ⟨rfl, he⟩
end
end law20
end Go.Proofs.YthnegkjhciakpaaGreatDoor
