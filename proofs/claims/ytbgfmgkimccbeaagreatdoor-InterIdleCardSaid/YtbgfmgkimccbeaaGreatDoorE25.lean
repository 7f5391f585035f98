/-  law25: a second tree: of its own, or out of the first one.  -/
import Derived.Test.YtbgfmgkimccbeaaGreatDoorC25
import Derived.Test.YtbgfmgkimccbeaaGreatDoorG1
namespace Go.Proofs.YtbgfmgkimccbeaaGreatDoor
open Go Go.RowKit X
set_option linter.unusedSimpArgs false
set_option linter.unusedVariables false
set_option linter.unusedSectionVars false
namespace law25
variable [Floor]
/-- how the second tree is made -/
structure Ot (w : World) (v : Value) (ap : Bool) (pl : Kv) (ks : List Key) : Prop where
  val : ∃ pv dv, v = .agg #[.bool ap, pv, dv] ∧ Ps w pv pl ∧ Bss w dv ks
section
variable {w w' : World} {v ov : Value} {l pl : Kv} {ks : List Key} {ap : Bool}
theorem Ot.extN (h : Ot w ov ap pl ks) (e : Ext No w w') : Ot w' ov ap pl ks := by
  obtain ⟨pv, dv, h1, h2, h3⟩ := h.val
  exact ⟨pv, dv, h1, h2.extN e, h3.extN e⟩
/-- what is neither too much nor too long -/
structure Small (l pl : Kv) (ks : List Key) : Prop where
  l1 : l.length ≤ 100
  l3 : ∀ p ∈ l, p.1.length ≤ 300
  p6 : pl.length ≤ 60
  p3 : ∀ p ∈ pl, p.1.length ≤ 300
  k4 : ks.length ≤ 40
  k3 : ∀ k ∈ ks, k.length ≤ 300
theorem c_large (h : Ps w v l) (ho : Ot w ov ap pl ks) : Ret P n_law25_large [v, ov] w fun r w' => ∃ b, r = .bool b ∧ Ext No w w' ∧ (b = false → Small l pl ks) := by
  obtain ⟨pv, dv, rfl, hp, hd⟩ := ho.val
  refine W_law25_large ?_
  refine xnew fun ob w1 hob hblk hz he1 => ?_
  have hO : Blk w1 ob [.bool ap, pv, dv] T_law25_Other := hblk
  refine xj (fun vs w' => ∃ b, vs = [.bool b] ∧ Ext No w1 w' ∧ (b = false → l.length ≤ 100 ∧ (∀ p ∈ l, p.1.length ≤ 300) ∧ pl.length ≤ 60 ∧ (∀ p ∈ pl, p.1.length ≤ 300) ∧ ks.length ≤ 40)) ?_ ?_
  · refine (c_far (m := 100) (h.extN he1) (by omega)).mono ?_
    rintro r w2 ⟨b, rfl, he2, hb⟩
    cases b with
    | true => exact xifT rfl ⟨true, rfl, he2, fun h => by cases h⟩
    | false =>
      refine xifF rfl ?_
      refine (hO.ext he2 fun h => h).ld (v := pv) rfl ?_
      refine (c_far (m := 60) (hp.extN (he1.transN he2)) (by omega)).mono ?_
      rintro r w3 ⟨b, rfl, he3, hb3⟩
      cases b with
      | true => exact xifT rfl ⟨true, rfl, he2.transN he3, fun h => by cases h⟩
      | false =>
        refine xifF rfl ?_
        refine (hO.ext (he2.transN he3) fun h => h).ld (v := dv) rfl ?_
        refine hd.len ?_
        refine ⟨_, rfl, he2.transN he3, fun h => ⟨(hb rfl).1, (hb rfl).2, (hb3 rfl).1, (hb3 rfl).2, ?_⟩⟩
        have := of_decide_eq_false h
        omega
  rintro vs g w2 ⟨b, rfl, he2, hb⟩
  cases b with
  | true => exact xifT rfl ⟨true, rfl, he1.transN he2, fun h => by cases h⟩
  | false =>
    refine xifF rfl ?_
    obtain ⟨b1, b2, b3, b4, b5⟩ := hb rfl
    have hE2 := he1.transN he2
    refine (hO.ext he2 fun h => h).ld (v := dv) rfl ?_
    refine hd.len ?_
    refine xloop (fun n vs w' => ∃ (i : Nat) (x : Value), vs = [.int .i64 i, x, .bool false] ∧ n = ks.length - i ∧ i ≤ ks.length ∧ (∀ k ∈ ks.take i, k.length ≤ 300) ∧ Ext No w w') ks.length ⟨0, _, rfl, rfl, by omega, by simp, hE2⟩ ?_
    rintro n vs g w3 ⟨i, x, rfl, rfl, hi, hall, he3⟩
    unfold S_law25_large_l1
    refine xifD (fun hlt => ?_) fun hge => ?_
    · have hil : i < ks.length := by omega
      refine (hd.extN he3).rd i rfl hil fun kv hkv => ?_
      refine hkv.len ?_
      refine xifD (fun hk => ⟨true, rfl, he3, fun h => by cases h⟩) fun hk => ?_
      refine xi (r := ((i + 1 : Nat) : Int)) (by rw [wrapI (by omega)]; omega) ?_
      refine xnext (ks.length - (i + 1)) (by omega) ⟨i + 1, _, rfl, rfl, by omega, fun p hp => ?_, he3⟩
      rw [← List.take_append_getElem hil] at hp
      rcases List.mem_append.1 hp with e | e
      · exact hall p e
      · rw [List.mem_singleton.1 e]; omega
    · have : i = ks.length := by omega
      subst this
      rw [List.take_length] at hall
      exact ⟨false, rfl, he3, fun _ => ⟨b1, b2, b3, b4, b5, hall⟩⟩
theorem c_second {t : T} (hw : Lw w) (hct : Ct w t l) (hv : Ps w v l) (hpr : Pr l) (hll : l.length ≤ 100) (how : t.Owned 1) (ho : Ot w ov ap pl ks) (p6 : pl.length ≤ 60) (p3 : ∀ p ∈ pl, p.1.length ≤ 300) (k4 : ks.length ≤ 40) (k3 : ∀ k ∈ ks, k.length ≤ 300) :
    Ret P n_law25_second [t.v, v, ov] w fun r w' => ∃ t2 v2 l2, r = .tuple #[t2.v, v2] ∧ Ct w' t2 l2 ∧ Ps w' v2 l2 ∧ Pr l2 ∧ l2.length ≤ 160 ∧ Ext No w w' := by
  obtain ⟨pv, dv, rfl, hp, hd⟩ := ho.val
  refine W_law25_second ?_
  refine xnew fun ob w1 hob hblk hz he1 => ?_
  have hO : Blk w1 ob [.bool ap, pv, dv] T_law25_Other := hblk
  refine hO.ld (v := .bool ap) rfl ?_
  cases ap with
  | true =>
    refine xifT rfl ?_
    refine hO.ld (v := pv) rfl ?_
    refine (c_rSort (hp.extN he1) (by omega) (fun p h => by have := p3 p h; omega)).mono ?_
    rintro vl w2 ⟨hso, he2⟩
    have hps := hso.ps he2 (.inr rfl)
    have hpr2 : Pr (sortK pl) := Pr.sort (by omega) fun p h => by have := p3 p h; omega
    have h6 := sortK_length pl
    refine (c_tree hps hpr2 ((hw.extN he1).extN he2) (ow := 2) (by omega)).mono ?_
    rintro r w3 ⟨t2, rfl, hct2, -, -, -, he3⟩
    exact ⟨t2, vl, sortK pl, rfl, hct2, hps.extN he3, hpr2, by omega, (he1.transN he2).transN he3⟩
  | false =>
    refine xifF rfl ?_
    refine hO.ld (v := pv) rfl ?_
    refine hp.len ?_
    refine xloop (fun n vs w' => ∃ (i : Nat) (x : Value) (t' : T) (vl : Value) (l' : Kv), vs = [.int .i64 i, x, t'.v, vl] ∧ n = pl.length - i ∧ i ≤ pl.length ∧ Ct w' t' l' ∧ Ps w' vl l' ∧ Pr l' ∧ l'.length ≤ l.length + i ∧ t'.OwQ (fun o => o < 100 + i) ∧ Ext No w1 w') pl.length
      ⟨0, _, t, v, l, rfl, rfl, by omega, hct.extN he1, hv.extN he1, hpr, by omega, how.q.mono fun o h => by omega, Ext.refl _ _⟩ ?_
    rintro n vs g w2 ⟨i, x, t', vl, l', rfl, rfl, hi, hct', hvl, hpr', hl', hown, he12⟩
    have he2 := he1.transN he12
    unfold S_law25_second_l2
    refine xifD (fun hlt => ?_) fun hge => ?_
    · have hil : i < pl.length := by omega
      have hpk := p3 _ (List.getElem_mem hil)
      refine (hp.extN he2).rd i rfl hil fun kv hkv => ?_
      refine xnew fun b w3 hb hbl hz3 he3 => ?_
      refine xstoreVar hbl (by kernel_rfl) (by simp) ?_ fun w4 hb4 hz4 he4 => ?_
      · intro u hu
        simp only [List.mem_cons, List.mem_nil_iff, or_false] at hu
        rcases hu with rfl | rfl
        · exact hkv.one1
        · rfl
      have hb4 : Blk w4 b [kv, u64 pl[i].2] T_ref01_Pair := by simpa using hb4
      have hE4 : Ext No w2 w4 := he3.trans1 he4 (by omega)
      have hct4 := hct'.extN hE4
      have hw4 := (hw.extN he2).extN hE4
      refine hb4.ld (o := 0) (v := kv) rfl ?_
      refine hb4.ld (o := 1) (v := u64 pl[i].2) rfl ?_
      refine xi (r := (i : Int)) (wrapU64 (by omega)) ?_
      refine xi (r := ((100 + i : Nat) : Int)) (by rw [wrapU64 (by omega)]; omega) ?_
      have hq : t'.OwQ (· ≠ 100 + i) := hown.mono fun o h => by omega
      refine (c_Put (o := 100 + i) (mt := none) (n := 0) hct4.tree hq.free.sep hct4.can.fine hct4.leafy hw4.mt0 (by omega) ((hp.extN he2).get hil) (hkv.extN hE4) (by omega)).mono ?_
      rintro _ w5 ⟨t5, n5, rfl, hP, -⟩
      have he5 : Ext No w4 w5 := hP.res.ext.mono fun b _ hb => by rcases hb with hb | hb; cases hb; exact (hq.free.foot b hb).elim
      have hb5 := hb4.ext he5 fun h => h
      have hE5 := hE4.transN he5
      refine hb5.ld (o := 0) (v := kv) rfl ?_
      refine hb5.ld (o := 1) (v := u64 pl[i].2) rfl ?_
      refine (c_r15Put (hvl.extN hE5) (hkv.extN hE5) ((hp.extN he2).get hil) hpr'.many hpr'.keys (by omega)).mono ?_
      rintro vl6 w6 ⟨hps6, he6⟩
      rw [← insK_sort _ hpr'.rises] at hps6
      refine xi (r := ((i + 1 : Nat) : Int)) (by rw [wrapI (by omega)]; omega) ?_
      have hil6 := insK_length l' pl[i].1 pl[i].2
      refine xnext (pl.length - (i + 1)) (by omega) ⟨i + 1, _, t5, vl6, _, rfl, rfl, by omega, (hct4.put hpr'.rises hP).extN he6, hps6, hpr'.ins (by omega) (by omega), by omega, hP.own _ (by omega) (hown.mono fun o h => by omega), (he12.transN hE5).transN he6⟩
    · refine (hO.ext he12 fun h => h).ld (v := dv) rfl ?_
      refine hd.len ?_
      refine xloop (fun n vs w' => ∃ (i : Nat) (x y : Value) (t' : T) (vl : Value) (l' : Kv), vs = [.int .i64 i, x, y, t'.v, vl] ∧ n = ks.length - i ∧ i ≤ ks.length ∧ Ct w' t' l' ∧ Ps w' vl l' ∧ Pr l' ∧ l'.length ≤ 160 ∧ t'.OwQ (fun o => o < 1000 + i) ∧ Ext No w w') ks.length
        ⟨0, _, _, t', vl, l', rfl, rfl, by omega, hct', hvl, hpr', by omega, hown.mono fun o h => by omega, he2⟩ ?_
      rintro n vs g w3 ⟨i, x, y, t3, vl3, l3, rfl, rfl, hi3, hct3, hvl3, hpr3, hl3, hown3, he3⟩
      unfold S_law25_second_l1
      refine xifD (fun hlt => ?_) fun hge => ?_
      · have hil : i < ks.length := by omega
        have hpk := k3 _ (List.getElem_mem hil)
        refine (hd.extN he3).rd i rfl hil fun kv hkv => ?_
        refine xi (r := (i : Int)) (wrapU64 (by omega)) ?_
        refine xi (r := ((1000 + i : Nat) : Int)) (by rw [wrapU64 (by omega)]; omega) ?_
        have hw3 := hw.extN he3
        have hq : t3.OwQ (· ≠ 1000 + i) := hown3.mono fun o h => by omega
        refine (c_Del (o := 1000 + i) (mt := none) (n := 0) hct3.tree hq.free.sep hct3.can.fine hct3.leafy (hct3.long hpr3) hw3.mt0 (by omega) hkv (by omega)).mono ?_
        rintro _ w4 ⟨t4, n4, rfl, hD, -, -, -⟩
        have he4 : Ext No w3 w4 := hD.res.ext.mono fun b _ hb => by rcases hb with hb | hb; cases hb; exact (hq.free.foot b hb).elim
        refine (c_r16Del (hvl3.extN he4) (hkv.extN he4) hpr3.many hpr3.keys).mono ?_
        rintro _ w5 ⟨out, rfl, hso5, he5⟩
        refine xi (r := ((i + 1 : Nat) : Int)) (by rw [wrapI (by omega)]; omega) ?_
        have hdl := dropK_length ks[i] l3
        refine xnext (ks.length - (i + 1)) (by omega) ⟨i + 1, _, _, t4, out, _, rfl, rfl, by omega, (hct3.del hD).extN he5, hso5.ps he5 (.inr rfl), hpr3.drop _, by omega, hD.own _ (by omega) (hown3.mono fun o h => by omega), (he3.transN he4).transN he5⟩
      · exact ⟨t3, vl3, l3, rfl, hct3, hvl3, hpr3, hl3, he3⟩
end
end law25
end Go.Proofs.YtbgfmgkimccbeaaGreatDoor
