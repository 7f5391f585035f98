/-  law15: PutOrder.  -/
import Derived.Test.YtbneecjeifionaaGreatDoorL15b
import Derived.Test.YtbneecjeifionaaGreatDoorEach
import Derived.Test.YtbneecjeifionaaGreatDoorRef18
namespace Go.Proofs.YtbneecjeifionaaGreatDoor
open Go Go.RowKit X
set_option linter.unusedSimpArgs false
set_option linter.unusedVariables false
set_option linter.unusedSectionVars false
variable [Floor]
theorem Ct.keep {w w' : World} {t : T} {l : Kv} {X : Nat → Prop} (h : Ct w t l) (e : Ext X w w') (nb : NB w X) (hx : ∀ b, t.All b → ¬ X b) : Ct w' t l := ⟨h.tree.ext e nb hx, h.can, h.leafy⟩
theorem sortK_takeI {l : Kv} {i : Nat} (h : i < l.length) : sortK (l.take (i + 1)) = insK (sortK (l.take i)) l[i].1 l[i].2 := by
  rw [← List.take_append_getElem h, sortK_snoc]
theorem far_take {l : Kv} {i : Nat} (h6 : l.length ≤ 60) (h3 : ∀ x ∈ l, x.1.length ≤ 300) : Pr (sortK (l.take i)) :=
  Pr.sort (by rw [List.length_take]; omega) fun p hp => by have := h3 p (List.mem_of_mem_take hp); omega
namespace law15
section
variable {w : World} {v : Value} {l : Kv}
set_option maxRecDepth 100000 in
theorem l_PutOrder (hw : Lw w) (hl : Ps w v l) : Ret P n_law15_PutOrder [v] w fun r w' => r = .bool true ∧ Ext No w w' := by
  refine W_law15_PutOrder ?_
  refine (c_far (m := 60) hl (by omega)).mono ?_
  rintro r w0 ⟨b, rfl, he0, hb⟩
  cases b with
  | true =>
    refine xifT rfl ?_
    refine (c_alive (hw.extN he0)).mono ?_
    rintro r w2 ⟨rfl, he2⟩
    exact ⟨rfl, he0.transN he2⟩
  | false =>
    refine xifF rfl ?_
    obtain ⟨h60, h300⟩ := hb rfl
    refine hl.len ?_
    refine xloop (fun n vs w' => ∃ (i : Nat) (x1 x3 x4 x6 x7 x8 wv : Value) (one many : T) (us : List T), vs = [.int .i64 i, x1, one.v, x3, x4, many.v, x6, x7, x8, wv] ∧ n = l.length - i ∧ i ≤ l.length ∧ Ext No w w' ∧
        Ct w' one (sortK (l.take i)) ∧ one.OwQ (· = 1) ∧ one.Sep 1 ∧ (∀ b, one.All b → w.heap.size ≤ b) ∧ Ct w' many (sortK (l.take i)) ∧ many.OwQ (fun o => o < i + 2) ∧ us.length = i ∧ Own w' w.heap.size T_p_node_Node 1 wv i (us.map T.v) ∧
        (∀ j (h : j < us.length), Ct w' us[j] (sortK (l.take (j + 1)))) ∧ (∀ b, one.All b → ¬ many.All b ∧ ∀ u ∈ us, ¬ u.All b) ∧ (∀ b, wv.ownBlock = some b → ¬ one.All b ∧ ¬ many.All b ∧ ∀ u ∈ us, ¬ u.All b)) l.length
      ⟨0, _, _, _, _, _, _, _, .nil, .nil, [], rfl, rfl, by omega, he0, ⟨trivial, Can.nil, trivial⟩, trivial, trivial, fun b h => h.elim, ⟨trivial, Can.nil, trivial⟩, trivial, rfl, Own.nil _ _ _ _, fun j h => absurd h (by simp), fun b h => h.elim, fun b h => by cases h⟩ ?_
    rintro n vs g w1 ⟨i, x1, x3, x4, x6, x7, x8, wv, one, many, us, rfl, rfl, hi, hE1, hct, how, hsep, hge, hctm, howm, hul, hway, hus, hdis, hwd⟩
    unfold S_law15_PutOrder_l2
    refine xifD (fun hlt => ?_) fun hnl => ?_
    · have hil : i < l.length := by omega
      have hpr := far_take (i := i) h60 h300
      have hpr' := far_take (i := i + 1) h60 h300
      have hkl : l[i].1.length ≤ 300 := h300 _ (List.getElem_mem hil)
      refine hl.rd0 hE1 i rfl hil fun kv hkv => ?_
      refine xnew fun pb w2 hpb hblk hz2 he2 => ?_
      refine xstoreVar hblk (by kernel_rfl) (by simp) ?_ fun w3 hb3 hz3 he3 => ?_
      · intro u hu
        simp only [List.mem_cons, List.mem_nil_iff, or_false] at hu
        rcases hu with rfl | rfl
        · exact hkv.one1
        · rfl
      have hb3' : Blk w3 pb [kv, u64 l[i].2] T_ref01_Pair := by simpa using hb3
      have he13 : Ext No w1 w3 := he2.trans1 he3 (by omega)
      have hE3 : Ext No w w3 := hE1.transN he13
      have hw3 := hw.extN hE3
      have hm3 : Mt w3 none 0 := hw3.mt0
      have hz13 := he13.size
      have hx64 := hl.get hil
      refine hb3'.ld (v := kv) rfl ?_
      refine hb3'.ld (v := u64 l[i].2) rfl ?_
      have hct3 := hct.extN he13
      refine (c_Put (o := 1) hct3.tree hsep hct.can.fine hct.leafy hm3 (by omega) hx64 (hkv.extN hE3) (by omega)).mono ?_
      rintro _ w4 ⟨t1, n1, rfl, hP1, -⟩
      have he4 : Ext (FX 1 none one) w3 w4 := hP1.res.ext
      have hnb := (FX.nbp (o := 1) hct3.tree hm3).b
      have hz4 := he4.size
      have hfx : ∀ b, FX 1 none one b → one.All b := fun b hb => hb.elim (fun h => by cases h) fun h => h.all
      have hE4 : Ext No w w4 := hE3.trans he4 fun b hb h => by have := hge b (hfx b h); omega
      have hw4 := hw.extN hE4
      have hctm4 := (hctm.extN he13).keep he4 hnb fun b hb h => (hdis b (hfx b h)).1 hb
      have hus4 : ∀ j (h : j < us.length), Ct w4 us[j] (sortK (l.take (j + 1))) := fun j h => ((hus j h).extN he13).keep he4 hnb fun b hb h' => (hdis b (hfx b h')).2 _ (List.getElem_mem h) hb
      have hway4 := (hway.extN he13).ext he4 fun b hb h => (hwd b hb).1 (hfx b h)
      have hb4 := hb3'.ext he4 (FX.not hct3.tree hm3 hb3' oth_pair (by decide))
      have hct4 := hct3.put hpr.rises hP1
      rw [← sortK_takeI hil] at hct4
      refine hb4.ld (v := kv) rfl ?_
      refine hb4.ld (v := u64 l[i].2) rfl ?_
      refine xi (r := (i : Int)) (wrapU64 (by omega)) ?_
      refine xi (r := ((i + 2 : Nat) : Int)) (by rw [wrapU64 (by omega)]; omega) ?_
      have hfree : many.Free (i + 2) := (howm.mono fun o h => by omega).free
      refine (c_Put (o := i + 2) (mt := none) (n := 0) hctm4.tree hfree.sep hctm.can.fine hctm.leafy hw4.mt0 (by omega) hx64 (hkv.extN hE4) (by omega)).mono ?_
      rintro _ w5 ⟨u, n2, rfl, hP2, -⟩
      have he5 : Ext No w4 w5 := hP2.res.ext.mono fun b _ hb => hb.elim (fun h => by cases h) fun h => (hfree.foot b h).elim
      have hz5 := he5.size
      have hctu := hctm4.put hpr.rises hP2
      rw [← sortK_takeI hil] at hctu
      refine xj (fun vs w' => vs = [.bool false] ∧ w5 = w') ?_ ?_
      · exact xifF rfl ⟨rfl, rfl⟩
      rintro vs g' w5' ⟨rfl, rfl⟩
      refine xifF rfl ?_
      show XNew w5 ([u].map T.v) T_p_node_Node _
      refine xnew fun nb w6 hnb6 hnblk hz6 he6 => ?_
      have he46 : Ext No w4 w6 := he5.transN he6
      have hE6 := hE4.transN he46
      have hsl : Sl w6 (tyQ T_p_node_Node) (.slice (some ⟨nb, 0, none⟩) 1 1) 1 1 ([u].map T.v) := hnblk.sln rfl
      have hway6 := hway4.extN he46
      have hz6' := he46.size
      have hzE6 := hE6.size
      refine app_own ei_p hway6 hzE6 hsl (by intro y hy; simp at hy; rw [hy]; rfl) (by omega) (by omega) fun wv' w7 hway7 he7 _ hnew => ?_
      have hE7 : Ext No w w7 := hE6.own hway6 (Nat.le_refl _) he7
      have hnb7 : NB w6 (fun b => wv.ownBlock = some b) := Own.nb hway6 hw.fl (by decide)
      have hone1 : ∀ b, t1.All b → one.All b ∨ w3.heap.size ≤ b := hP1.res.all
      have hmanyu : ∀ b, u.All b → many.All b ∨ w4.heap.size ≤ b := hP2.res.all
      have hwlt : ∀ b, wv.ownBlock = some b → b < w1.heap.size := fun b hb => (hway.ge hb).2
      have hws : ∀ b, wv.ownBlock = some b → ¬ t1.All b ∧ ¬ u.All b ∧ ∀ x ∈ us, ¬ x.All b := fun b hb => by
        obtain ⟨h1, h2, h3⟩ := hwd b hb
        have := hwlt b hb
        refine ⟨fun h => ?_, fun h => ?_, h3⟩
        · rcases hone1 b h with h | h
          · exact h1 h
          · omega
        · rcases hmanyu b h with h | h
          · exact h2 h
          · omega
      have ht1lt : ∀ b, t1.All b → b < w4.heap.size := fun b h => hct4.tree.lt h
      have hult : ∀ b, u.All b → b < w5.heap.size := fun b h => hctu.tree.lt h
      have husl : ∀ x ∈ us, ∀ b, x.All b → b < w1.heap.size := fun x hx b h => by
        obtain ⟨j, hj, rfl⟩ := List.mem_iff_getElem.1 hx
        exact (hus j hj).tree.lt h
      have honelt : ∀ b, one.All b → b < w1.heap.size := fun b h => hct.tree.lt h
      have hmanylt : ∀ b, many.All b → b < w1.heap.size := fun b h => hctm.tree.lt h
      have hdis1 : ∀ b, t1.All b → ¬ u.All b ∧ ∀ x ∈ us, ¬ x.All b := fun b hb => by
        have h4 := ht1lt b hb
        rcases hone1 b hb with h | h
        · obtain ⟨h1, h2⟩ := hdis b h
          have := honelt b h
          refine ⟨fun hu => ?_, h2⟩
          rcases hmanyu b hu with h' | h'
          · exact h1 h'
          · omega
        · refine ⟨fun hu => ?_, fun x hx hxb => by have := husl x hx b hxb; omega⟩
          rcases hmanyu b hu with h' | h'
          · have := hmanylt b h'; omega
          · omega
      refine xi (r := ((i + 1 : Nat) : Int)) (by rw [wrapI (by omega)]; omega) ?_
      refine xnext (l.length - (i + 1)) (by omega) ⟨i + 1, _, _, _, _, _, _, wv', t1, u, us ++ [u], rfl, rfl, by omega, hE7, (hct4.extN he46).keep he7 hnb7 fun b hb h => (hws b h).1 hb, hP1.own _ rfl how, hP1.res.sep, fun b hb => ?_,
        ((hctu.extN he6).keep he7 hnb7 fun b hb h => (hws b h).2.1 hb), hP2.own _ (by omega) (howm.mono fun o h => by omega), by simp [hul], by rw [List.map_append]; exact hway7, fun j hj => ?_, fun b hb => ?_, fun b hb => ?_⟩
      · rcases hone1 b hb with h | h
        · exact hge b h
        · have := hE3.size; omega
      · by_cases hju : j < us.length
        · rw [List.getElem_append_left hju]
          exact ((hus4 j hju).extN he46).keep he7 hnb7 fun b hb h => (hws b h).2.2 _ (List.getElem_mem hju) hb
        · have : j = us.length := by simp at hj; omega
          subst this
          rw [List.getElem_append_right (Nat.le_refl _)]
          simp only [Nat.sub_self, List.getElem_cons_zero]
          rw [hul]
          exact (hctu.extN he6).keep he7 hnb7 fun b hb h => (hws b h).2.1 hb
      · obtain ⟨h1, h2⟩ := hdis1 b hb
        refine ⟨h1, fun x hx => ?_⟩
        rcases List.mem_append.1 hx with hx | hx
        · exact h2 x hx
        · rw [List.mem_singleton.1 hx]; exact h1
      · rcases hnew b hb with h | h
        · obtain ⟨h1, h2, h3⟩ := hws b h
          refine ⟨h1, h2, fun x hx => ?_⟩
          rcases List.mem_append.1 hx with hx | hx
          · exact h3 x hx
          · rw [List.mem_singleton.1 hx]; exact h2
        · have h5 : ¬ u.All b := fun hu => by have := hult b hu; have := he6.size; omega
          refine ⟨fun ht => by have := ht1lt b ht; omega, h5, fun x hx => ?_⟩
          rcases List.mem_append.1 hx with hx | hx
          · exact fun hxb => by have := husl x hx b hxb; omega
          · rw [List.mem_singleton.1 hx]; exact h5
    · have hil : i = l.length := by omega
      subst hil
      rw [List.take_length] at hct
      have hlong := hct.long (Pr.sort (by omega) fun p hp => by have := h300 p hp; omega)
      have hprl : Pr (sortK l) := Pr.sort (by omega) fun p hp => by have := h300 p hp; omega
      have hwl := hway.sl
      refine xLen_sl hwl ?_
      refine xloop (fun n vs w' => ∃ (j : Nat) (y1 y2 y3 : Value), vs = [.int .i64 j, y1, y2, y3] ∧ n = l.length - j ∧ j ≤ l.length ∧ Ext No w1 w') l.length ⟨0, _, _, _, rfl, rfl, by omega, Ext.refl _ _⟩ ?_
      rintro n vs g' w2 ⟨j, y1, y2, y3, rfl, rfl, hj, he2⟩
      unfold S_law15_PutOrder_l1
      have hE2 := hE1.transN he2
      have hw2 := hw.extN hE2
      have hl2 := hl.extN hE2
      refine xifD (fun hlt => ?_) fun hnl => ?_
      · have hjl : j < l.length := by omega
        have hju : j < us.length := by omega
        have hwl2 := hwl.extN he2
        refine hwl2.rd1 j rfl hjl (x := us[j].v) (by rw [List.getElem?_map, List.getElem?_eq_getElem hju]; rfl) ?_
        refine xi (r := ((j + 1 : Nat) : Int)) (by rw [wrapI (by omega)]; omega) ?_
        refine hl2.take (j + 1) rfl (by omega) fun v' hv' => ?_
        refine (c_rSort hv' (by rw [List.length_take]; omega) (fun p hp => by have := h300 p (List.mem_of_mem_take hp); omega)).mono ?_
        rintro vs' w3 ⟨hso, he3⟩
        refine (c_as (hw2.extN he3) ((hus j hju).extN (he2.transN he3)) (hso.ps he3 (.inr rfl)) (far_take h60 h300)).mono ?_
        rintro r w4 ⟨rfl, he4⟩
        refine xifF rfl ?_
        refine xi (r := ((j + 1 : Nat) : Int)) (by rw [wrapI (by omega)]; omega) ?_
        exact xnext (l.length - (j + 1)) (by omega) ⟨j + 1, _, _, _, rfl, rfl, by omega, (he2.transN he3).transN he4⟩
      · refine xj (fun vs w' => vs = [.bool true] ∧ Ext No w w') ?_ ?_
        · refine (c_rSort hl2 (by omega) (fun p hp => by have := h300 p hp; omega)).mono ?_
          rintro vs' w3 ⟨hso, he3⟩
          have he23 := he2.transN he3
          refine (c_as (hw2.extN he3) (hct.extN he23) (hso.ps he3 (.inr rfl)) hprl).mono ?_
          rintro r w4 ⟨rfl, he4⟩
          refine xifT rfl ?_
          have he24 := he23.transN he4
          refine (c_Fine (hct.extN he24).tree hct.can.fine hct.leafy hlong).mono ?_
          rintro r w5 ⟨rfl, he5⟩
          refine xifT rfl ?_
          refine (c_alive (hw.extN ((hE1.transN he24).transN he5))).mono ?_
          rintro r w6 ⟨rfl, he6⟩
          exact ⟨rfl, ((hE1.transN he24).transN he5).transN he6⟩
        · rintro vs g w3 ⟨rfl, he⟩
          exact ⟨rfl, he⟩
end
end law15
end Go.Proofs.YtbneecjeifionaaGreatDoor
