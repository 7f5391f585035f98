/-  law16: DelMade, DelBack.  -/
import Derived.Test.YtbleadagnpckbaaGreatDoorL16
namespace Go.Proofs.YtbleadagnpckbaaGreatDoor
open Go Go.RowKit X
set_option linter.unusedSimpArgs false
set_option linter.unusedVariables false
set_option linter.unusedSectionVars false
variable [Floor]
namespace law16
section
variable {w : World} {v vk kv : Value} {l : Kv} {k : Key} {x : Nat}
theorem l_DelMade (hw : Lw w) (hl : Ps w v l) (hk : Bs w vk k) : Ret P n_law16_DelMade [v, vk] w fun r w' => r = .bool true ∧ Ext No w w' := by
  refine W_law16_DelMade ?_
  refine xj (fun vs w' => ∃ b, vs = [.bool b] ∧ Ext No w w' ∧ (b = false → (l.length ≤ 200 ∧ ∀ x ∈ l, x.1.length ≤ 300) ∧ k.length ≤ 600)) ?_ ?_
  · refine (c_far (m := 200) hl (by omega)).mono ?_
    rintro r w1 ⟨b, rfl, he, hb⟩
    cases b with
    | false =>
      refine xifF rfl ?_
      refine hk.len ?_
      exact ⟨_, rfl, he, fun h => ⟨hb rfl, by have := of_decide_eq_false h; omega⟩⟩
    | true => exact xifT rfl ⟨true, rfl, he, fun h => by cases h⟩
  rintro vs g w1 ⟨b, rfl, he1, hb⟩
  have hw1 := hw.extN he1
  cases b with
  | true =>
    refine xifT rfl ?_
    refine (c_alive hw1).mono ?_
    rintro r w2 ⟨rfl, he2⟩
    exact ⟨rfl, he1.transN he2⟩
  | false =>
    refine xifF rfl ?_
    obtain ⟨⟨hl200, hk300⟩, hkk⟩ := hb rfl
    have hpr : Pr (sortK l) := Pr.sort (by omega) fun p h => by have := hk300 p h; omega
    refine (c_rSort (hl.extN he1) (by omega) (fun p h => by have := hk300 p h; omega)).mono ?_
    rintro vl w2 ⟨hso, he2⟩
    have hps := hso.ps he2 (.inr rfl)
    have hw2 := hw1.extN he2
    generalize sortK l = m at hpr hso hps
    refine (c_tree hps hpr hw2 (ow := 1) (by omega)).mono ?_
    rintro r w3 ⟨t, rfl, hct, hsep, how, hnew, he3⟩
    have hw3 := hw2.extN he3
    have hE3 := (he1.transN he2).transN he3
    have hk3 := hk.extN hE3
    have hlong := hct.long hpr
    have hdeep := E.deep_long t.er
    have hsteps := E.steps_deep t.er k
    refine xnew fun mb w5 hmb hmblk hz5 he5 => ?_
    have hm5 : Mt w5 (some mb) 0 := hw3.mtNew hmb hmblk he5
    have hw5 := hw3.extN he5
    have hct5 := hct.extN he5
    have hk5 := hk3.extN he5
    have hE5 := hE3.transN he5
    have hmbw : w.heap.size ≤ mb := by have := hE3.size; omega
    have hfree : t.Free 2 := (how.q.mono fun o h => by omega).free
    refine (c_Del (o := 2) (n := 0) hct5.tree hfree.sep hct.can.fine hct.leafy hlong hm5 (by omega) hk5 (by omega)).mono ?_
    rintro _ w6 ⟨t', n', rfl, hD, hle, -, hsame⟩
    have he6 : Ext (MX (some mb)) w5 w6 := hD.res.ext.mono fun b _ hb => hb.elim id fun h => (hfree.foot b h).elim
    have hw6 := hw5.mt hm5 he6
    have hct6 := hct5.mt hm5 he6
    have hk6 := hk5.mt he6 hm5
    have hE6 := Ext.mx' hE5 he6 hmbw
    have hct' := hct5.del hD
    have hm6 := hD.res.cnt
    have hpd : Pr (dropK k m) := hpr.drop k
    have hst : t.steps k = t.er.steps k := rfl
    have hgone : t'.get k = none := by
      show t'.er.get k = none
      rw [hD.er, delE_get, if_pos rfl]
    refine xj (fun vs w' => vs = [.bool false] ∧ Ext No w6 w') ?_ ?_
    · refine xifF rfl ?_
      refine (c_MCount hm6).mono ?_
      rintro r w7 ⟨rfl, rfl⟩
      rw [wrapI (x := (n' : Nat)) (by omega)]
      refine (c_Steps hw6.fl hct6.tree hk6 (by omega)).mono ?_
      rintro _ w7 ⟨rfl, he7⟩
      refine xi (r := ((t.steps k + 2 : Nat) : Int)) (by rw [wrapI (by omega)]; omega) ?_
      refine xifF (by simp; omega) ?_
      refine (c_MCount (hm6.extN he7)).mono ?_
      rintro r w9 ⟨rfl, rfl⟩
      rw [wrapI (x := (n' : Nat)) (by omega)]
      refine (c_Depth t (hct6.extN he7).tree (by omega)).mono ?_
      rintro r w10 ⟨rfl, he10⟩
      refine xi (r := ((t.er.deep + 2 : Nat) : Int)) (by rw [wrapI (by omega)]; omega) ?_
      refine xifF (by simp; omega) ?_
      have he710 := he7.transN he10
      refine (c_Has (hw6.extN he710).fl (hct6.extN he710).tree (hk6.extN he710) (by omega)).mono ?_
      rintro _ w11 ⟨rfl, he11⟩
      refine xifF (by cases (t.get k).isSome <;> rfl) ?_
      have he711 := he710.transN he11
      refine (c_Has (hw6.extN he711).fl (hct'.extN he711).tree (hk6.extN he711) (by omega)).mono ?_
      rintro _ w12 ⟨rfl, he12⟩
      rw [hgone]
      exact ⟨rfl, he711.transN he12⟩
    rintro vs g w8 ⟨rfl, he8⟩
    refine xifF rfl ?_
    have hw8 := hw6.extN he8
    have hm8 := hm6.extN he8
    have hk8 := hk6.extN he8
    have hct8' := hct'.extN he8
    have hE8 := hE6.transN he8
    refine xj (fun vs w' => vs = [.bool false] ∧ w8 = w') ?_ ?_
    · cases hg : t.get k with
      | some y => exact xifF rfl ⟨rfl, rfl⟩
      | none =>
        refine xifT rfl ?_
        obtain ⟨rfl, rfl⟩ := hsame hg
        refine xpne_self _ ?_
        refine xifF rfl ?_
        refine (c_MCount hm8).mono ?_
        rintro r w10 ⟨rfl, hw10⟩
        exact ⟨rfl, hw10.symm⟩
    rintro vs g w10 ⟨rfl, rfl⟩
    refine xifF rfl ?_
    refine (c_MCount hm8).mono ?_
    rintro r w10 ⟨rfl, hw10⟩
    rw [hw10]
    have hq := hD.own (· ≠ 3) (by omega) (how.q.mono fun o h => by omega)
    refine (c_Del (o := 3) (n := n') hct8'.tree hq.free.sep hct8'.can.fine hct8'.leafy (hct8'.long hpd) hm8 (by omega) hk8 (by omega)).mono ?_
    rintro _ w11 ⟨t2, n2, rfl, hD2, -, -, hsame2⟩
    have he11 : Ext (MX (some mb)) _ w11 := hD2.res.ext.mono fun b _ hb => hb.elim id fun h => (hq.free.foot b h).elim
    have hw11 := hw8.mt hm8 he11
    have hE11 := Ext.mx' hE8 he11 hmbw
    obtain ⟨rfl, rfl⟩ := hsame2 hgone
    have hm11 := hD2.res.cnt
    rw [hgone]
    refine xj (fun vs w' => vs = [.bool true] ∧ Ext No w w') ?_ ?_
    · refine xifT rfl ?_
      refine xifT rfl ?_
      refine xpeq_self _ ?_
      refine xifT rfl ?_
      refine (c_MCount hm11).mono ?_
      rintro r w12 ⟨rfl, hw12⟩
      rw [hw12]
      refine xifT (by simp) ?_
      refine (c_alive hw11).mono ?_
      rintro r w13 ⟨rfl, he13⟩
      exact ⟨rfl, hE11.transN he13⟩
    · rintro vs g w12 ⟨rfl, he⟩
      exact ⟨rfl, he⟩
theorem l_DelBack (hw : Lw w) (hl : Ps w v l) (hk : Bs w kv k) (hx : x < 18446744073709551616) : Ret P n_law16_DelBack [v, .agg #[kv, u64 x]] w fun r w' => r = .bool true ∧ Ext No w w' := by
  refine W_law16_DelBack ?_
  refine xnew fun pb w0 hpb hblk hz he0 => ?_
  have hblk : Blk w0 pb [kv, u64 x] T_ref01_Pair := hblk
  have hw0 := hw.extN he0
  have hl0 := hl.extN he0
  refine xj (fun vs w' => ∃ b, vs = [.bool b] ∧ Ext No w0 w' ∧ (b = false → (l.length ≤ 200 ∧ ∀ x ∈ l, x.1.length ≤ 300) ∧ k.length ≤ 600)) ?_ ?_
  · refine (c_far (m := 200) hl0 (by omega)).mono ?_
    rintro r w1 ⟨b, rfl, he, hb⟩
    have hblk1 := hblk.ext he fun h => h
    cases b with
    | false =>
      refine xifF rfl ?_
      refine hblk1.ld (v := kv) rfl ?_
      refine hk.len ?_
      exact ⟨_, rfl, he, fun h => ⟨hb rfl, by have := of_decide_eq_false h; omega⟩⟩
    | true => exact xifT rfl ⟨true, rfl, he, fun h => by cases h⟩
  rintro vs g w1 ⟨b, rfl, he1, hb⟩
  have hw1 := hw0.extN he1
  have hblk1 := hblk.ext he1 fun h => h
  have hE1 := he0.transN he1
  cases b with
  | true =>
    refine xifT rfl ?_
    refine (c_alive hw1).mono ?_
    rintro r w2 ⟨rfl, he2⟩
    exact ⟨rfl, hE1.transN he2⟩
  | false =>
    refine xifF rfl ?_
    obtain ⟨⟨hl200, hk300⟩, hkk⟩ := hb rfl
    have hpr : Pr (sortK l) := Pr.sort (by omega) fun p h => by have := hk300 p h; omega
    have hm200 : (sortK l).length ≤ 200 := Nat.le_trans (sortK_length l) hl200
    refine (c_rSort (hl.extN hE1) (by omega) (fun p h => by have := hk300 p h; omega)).mono ?_
    rintro vl w2 ⟨hso, he2⟩
    have hps := hso.ps he2 (.inr rfl)
    have hw2 := hw1.extN he2
    generalize sortK l = m at hpr hso hps hm200
    refine (c_tree hps hpr hw2 (ow := 1) (by omega)).mono ?_
    rintro r w3 ⟨t, rfl, hct, hsep, how, hnew, he3⟩
    have hw3 := hw2.extN he3
    have hE3 := (hE1.transN he2).transN he3
    have hblk3 := hblk1.ext (he2.transN he3) fun h => h
    have hk3 := hk.extN hE3
    have hlong := hct.long hpr
    refine hblk3.ld (v := kv) rfl ?_
    refine (c_Get hw3.fl hct.tree hk3 (by omega)).mono ?_
    rintro _ w4 ⟨rfl, he4⟩
    have hw4 := hw3.extN he4
    have hct4 := hct.extN he4
    have hk4 := hk3.extN he4
    have hblk4 := hblk3.ext he4 fun h => h
    have hE4 := hE3.transN he4
    have hfree : t.Free 2 := (how.q.mono fun o h => by omega).free
    cases hg : t.get k with
    | some y =>
      have hy : y < 18446744073709551616 := hct.tree.get64 hg
      refine xifT rfl ?_
      refine hblk4.ld (v := kv) rfl ?_
      refine (c_Del (o := 2) (n := 0) (mt := none) hct4.tree hfree.sep hct.can.fine hct.leafy hlong hw4.mt0 (by omega) hk4 (by omega)).mono ?_
      rintro _ w5 ⟨t', n', rfl, hD, -, -, -⟩
      have he5 : Ext No w4 w5 := hD.res.ext.mono fun b _ hb => by rcases hb with hb | hb; cases hb; exact (hfree.foot b hb).elim
      have hw5 := hw4.extN he5
      have hct' := hct4.del hD
      have hblk5 := hblk4.ext he5 fun h => h
      refine hblk5.ld (v := kv) rfl ?_
      have hq := hD.own (· ≠ 3) (by omega) (how.q.mono fun o h => by omega)
      refine (c_Put (o := 3) (n := 0) (mt := none) hct'.tree hq.free.sep hct'.can.fine hct'.leafy hw5.mt0 (by omega) hy (hk4.extN he5) (by omega)).mono ?_
      rintro _ w6 ⟨t2, n2, rfl, hP, -⟩
      have he6 : Ext No w5 w6 := hP.res.ext.mono fun b _ hb => by rcases hb with hb | hb; cases hb; exact (hq.free.foot b hb).elim
      have hw6 := hw5.extN he6
      have hpd : Pr (dropK k m) := hpr.drop k
      have hct2 := hct'.put hpd.rises hP
      have her : t2.er = t.er := hct2.can.uniq (hct.can.congr fun k' => by
        rw [insK_look hpd.rises, look_drop]
        split
        · rename_i e; subst e; exact (hct.can.get _).symm.trans hg
        · rfl)
      have hct6 := (hct4.extN he5).extN he6
      obtain ⟨a1, ow1, p1, v1, ks1, kids1, ht'⟩ := T.node_of_er (t := t2) (by rw [hP.er]; exact putE_some)
      rw [hg]
      refine xj (fun vs w' => vs = [.bool true] ∧ Ext No w w') ?_ ?_
      · refine xifT rfl ?_
        refine xifT rfl ?_
        refine xifT rfl ?_
        refine (c_Shape hw6.tab hct2.tree hct2.leafy (by rw [her]; exact hct6.tree.shapeLen hct6.can hpr.rises hpr.many)).mono ?_
        rintro r w7 ⟨rfl, he7⟩
        refine (c_Shape (hw6.extN he7).tab (hct6.extN he7).tree hct6.leafy (hct6.tree.shapeLen hct6.can hpr.rises hpr.many)).mono ?_
        rintro r w8 ⟨rfl, he8⟩
        rw [her]
        refine xseq ?_
        refine xifT (decide_eq_true rfl) ?_
        have hnn : ∀ K : Value → Prop, K (.bool true) → xPNe P w8 t2.v (.pointer none) K := fun K k => by
          rw [ht']; exact k
        refine hnn _ ?_
        refine xifT rfl ?_
        refine (c_alive ((hw6.extN he7).extN he8)).mono ?_
        rintro r w9 ⟨rfl, he9⟩
        exact ⟨rfl, ((((hE4.transN he5).transN he6).transN he7).transN he8).transN he9⟩
      · rintro vs g w7 ⟨rfl, he⟩
        exact ⟨rfl, he⟩
    | none =>
      refine xifF rfl ?_
      refine hblk4.ld (v := kv) rfl ?_
      refine hblk4.ld (v := u64 x) rfl ?_
      refine (c_Put (o := 2) (n := 0) (mt := none) hct4.tree hfree.sep hct4.can.fine hct4.leafy hw4.mt0 (by omega) hx hk4 (by omega)).mono ?_
      rintro _ w5 ⟨t', n', rfl, hP, -⟩
      have he5 : Ext No w4 w5 := hP.res.ext.mono fun b _ hb => by rcases hb with hb | hb; cases hb; exact (hfree.foot b hb).elim
      have hw5 := hw4.extN he5
      have hct' := hct4.put hpr.rises hP
      have hpi : Pr (insK m k x) := hpr.ins (by omega) (by omega)
      have hblk5 := hblk4.ext he5 fun h => h
      refine hblk5.ld (v := kv) rfl ?_
      have hq := hP.own (· ≠ 3) (by omega) (how.q.mono fun o h => by omega)
      refine (c_Del (o := 3) (n := 0) (mt := none) hct'.tree hq.free.sep hct'.can.fine hct'.leafy (hct'.long hpi) hw5.mt0 (by omega) (hk4.extN he5) (by omega)).mono ?_
      rintro _ w6 ⟨t2, n2, rfl, hD, -, -, -⟩
      have he6 : Ext No w5 w6 := hD.res.ext.mono fun b _ hb => by rcases hb with hb | hb; cases hb; exact (hq.free.foot b hb).elim
      have hw6 := hw5.extN he6
      have hct2 := hct'.del hD
      have hget : t'.get k = some x := by
        show t'.er.get k = _
        rw [hP.er, putE_get, if_pos rfl]
      have her : t2.er = t.er := hct2.can.uniq (hct.can.congr fun k' => by
        rw [look_drop, insK_look hpr.rises]
        split
        · rename_i e; subst e; exact (hct.can.get _).symm.trans hg
        · rfl)
      have hct6 := (hct4.extN he5).extN he6
      obtain ⟨a1, ow1, p1, v1, ks1, kids1, ht'⟩ := T.node_of_er (t := t') (by rw [hP.er]; exact putE_some)
      rw [hget]
      refine xj (fun vs w' => vs = [.bool true] ∧ Ext No w w') ?_ ?_
      · refine xifT rfl ?_
        refine xifT rfl ?_
        refine xifT rfl ?_
        refine (c_Shape hw6.tab hct2.tree hct2.leafy (by rw [her]; exact hct6.tree.shapeLen hct6.can hpr.rises hpr.many)).mono ?_
        rintro r w7 ⟨rfl, he7⟩
        refine (c_Shape (hw6.extN he7).tab (hct6.extN he7).tree hct6.leafy (hct6.tree.shapeLen hct6.can hpr.rises hpr.many)).mono ?_
        rintro r w8 ⟨rfl, he8⟩
        rw [her]
        refine xseq ?_
        refine xifT (decide_eq_true rfl) ?_
        have hnn : ∀ K : Value → Prop, K (.bool true) → xPNe P w8 t'.v (.pointer none) K := fun K k => by
          rw [ht']; exact k
        refine hnn _ ?_
        refine xifT rfl ?_
        refine (c_alive ((hw6.extN he7).extN he8)).mono ?_
        rintro r w9 ⟨rfl, he9⟩
        exact ⟨rfl, ((((hE4.transN he5).transN he6).transN he7).transN he8).transN he9⟩
      · rintro vs g w7 ⟨rfl, he⟩
        exact ⟨rfl, he⟩
end
end law16
end Go.Proofs.YtbleadagnpckbaaGreatDoor
