/-  law28: SameLooks.  -/
import Derived.Test.YtidkkkdlaclolaaL28z
import Derived.Test.YtidkkkdlaclolaaRef28L
import Derived.Test.YtidkkkdlaclolaaList
namespace Go.Proofs.Ytidkkkdlaclolaa
open Go Go.RowKit X
set_option linter.unusedSimpArgs false
set_option linter.unusedVariables false
set_option linter.unusedSectionVars false
variable [Floor]
namespace law28
section
variable {w : World} {v vp : Value} {l m : Kv}
theorem c_buildM {mt : Option Mtr} {n ow : Nat} (hv : Ps w v l) (hp : Pr l) (hm : Mt w mt n) (ho : ow ≠ 0) :
    Ret P n_canon_Build [mv mt, .int .u64 ow, v] w fun r w' => ∃ t, r = .tuple #[t.v, .int .i64 0] ∧ Ct w' t l ∧ (∀ b, t.All b → w.heap.size ≤ b) ∧ Mt w' mt (n + t.er.size) ∧ Ext (MX mt) w w' := by
  have hmany := hp.many
  refine W_canon_Build ?_
  refine (c_check hv (by omega)).mono ?_
  rintro r w2 ⟨⟨b, rfl, hb⟩, he2⟩
  have hck : checkN l b = 0 := by
    unfold checkN
    rw [if_pos hp.keys, hb.2 hp.rises]; rfl
  rw [hck]
  refine xifF rfl ?_
  refine (Go.Proofs.Ytidkkkdlaclolaa.c_tree l.length (p := []) (Nat.le_refl _) (by omega) (hv.extN he2) hp.rises hp.keys (fun x _ => List.nil_prefix) (by simp) (hm.extN he2) ho).mono ?_
  rintro r w3 ⟨t, rfl, hR, hcan, hleaf, hown⟩
  have := he2.size
  exact ⟨t, rfl, ⟨hR.tree, hcan, hleaf⟩, fun b hb => by have := hR.new hb; omega, hR.cnt, (he2.mono fun _ _ h => h.elim).transS hR.extM⟩
theorem oth_meter : Oth T_meter_Meter := by unfold Oth; decide
set_option maxRecDepth 100000 in
set_option maxHeartbeats 2000000 in
theorem l_SameLooks (hw : Lw w) (hl : Ps w v l) (hp : Ps w vp m) : Ret P n_law28_SameLooks [v, vp] w fun r w' => r = .bool true ∧ Ext No w w' := by
  refine W_law28_SameLooks ?_
  refine xj (fun vs w' => ∃ b, vs = [.bool b] ∧ Ext No w w' ∧ (b = false → (l.length ≤ 150 ∧ ∀ p ∈ l, p.1.length ≤ 300) ∧ (m.length ≤ 150 ∧ ∀ p ∈ m, p.1.length ≤ 300))) ?_ ?_
  · refine (c_far (m := 150) hl (by omega)).mono ?_
    rintro r w1 ⟨b, rfl, he1, hb⟩
    cases b with
    | true => exact xifT rfl ⟨true, rfl, he1, fun h => by cases h⟩
    | false =>
      refine xifF rfl ?_
      refine (c_far (m := 150) (hp.extN he1) (by omega)).mono ?_
      rintro r w2 ⟨b, rfl, he2, hb2⟩
      exact ⟨b, rfl, he1.transN he2, fun h => ⟨hb rfl, hb2 h⟩⟩
  rintro vs g w1 ⟨b, rfl, he1, hb⟩
  have hw1 := hw.extN he1
  cases b with
  | true =>
    refine xifT rfl ?_
    refine (c_alive hw1).mono ?_
    rintro r w2 ⟨rfl, he2⟩
    exact ⟨rfl, he1.transN he2⟩
  | false =>
  refine xifF rfl ?_
  obtain ⟨⟨l1, l3⟩, m1, m3⟩ := hb rfl
  have hpl : Pr (sortK l) := Pr.sort (by omega) fun p h => by have := l3 p h; omega
  have hpm : Pr (sortK m) := Pr.sort (by omega) fun p h => by have := m3 p h; omega
  have hll := sortK_length l
  have hml := sortK_length m
  refine (c_rSort (hl.extN he1) (by omega) (fun p hp => by have := l3 p hp; omega)).mono ?_
  rintro vl w2 ⟨hso2, he2⟩
  have hps2 := hso2.ps he2 (.inr rfl)
  refine (c_rSort (hp.extN (he1.transN he2)) (by omega) (fun p hp => by have := m3 p hp; omega)).mono ?_
  rintro vm w3 ⟨hso3, he3⟩
  have hps3 := hso3.ps he3 (.inr rfl)
  generalize sortK l = L at hpl hll hps2
  generalize sortK m = M at hpm hml hps3
  have hw3 := (hw1.extN he2).extN he3
  show XNew w3 [.int .i64 0] T_meter_Meter _
  refine xnew fun mb w4 hmb hblk4 hz4 he4 => ?_
  have hE14 := (he1.transN he2).transN (he3.transN he4)
  have hw4 := hw3.extN he4
  refine (law28.c_tree (ow := 1) (hps2.extN (he3.transN he4)) hpl hw4 (by omega)).mono ?_
  rintro _ w5 ⟨a, rfl, ha5, -, -, hag, he5⟩
  refine (law28.c_tree (ow := 1) (hps3.extN (he4.transN he5)) hpm (hw4.extN he5) (by omega)).mono ?_
  rintro _ w6 ⟨b, rfl, hb6, -, -, hbg, he6⟩
  have ha6 := ha5.extN he6
  have hlist := ha6.can.list hpl.rises
  refine (c_List ha6.tree (ha6.long hpl) (by rw [hlist]; omega)).mono ?_
  rintro vx w7 ⟨hx7, he7⟩
  rw [hlist] at hx7
  have he47 := (he5.transN he6).transN he7
  have hblk7 := hblk4.ext he47 fun h => h
  have hw7 := hw4.extN he47
  have hmbf : Floor.n ≤ mb := by have := hw3.fl; omega
  have hm7 : Mt w7 (some (mtr mb)) 0 := ⟨hw7.fl, fun m hm => by
    cases hm
    exact ⟨hmbf, .inl rfl, hblk7⟩⟩
  refine (c_buildM (ow := 3) (hx7.ps (.inl rfl)) hpl hm7 (by omega)).mono ?_
  rintro _ w8 ⟨c, rfl, hc8, hcg, hm8, he8⟩
  have he8' : Ext (· = mb) w7 w8 := he8.mono fun x _ hx => hx.symm
  have hE48 : Ext No w3 w8 := (he4.transN he47).trans1 he8' (by omega)
  have keep : ∀ {t : T} {q : Kv}, Ct w7 t q → Ct w8 t q := fun {t q} h => h.keep he8 hm7.nb fun x hx hX => by
    have e : mb = x := hX
    subst e
    exact h.tree.not hblk7 oth_meter hx
  have ha8 := keep (ha6.extN he7)
  have hb8 := keep (hb6.extN he7)
  have hw8 := hw3.extN hE48
  have hapart : ∀ x, a.All x → ¬ b.All x := fun x h1 h2 => by have := ha5.tree.lt h1; have := hbg x h2; omega
  have hapart2 : ∀ x, a.All x → ¬ c.All x := fun x h1 h2 => by have := (ha6.extN he7).tree.lt h1; have := hcg x h2; omega
  have hca : a.er = c.er := ha8.can.uniq hc8.can
  have hsa := ha8.can.size hpl.rises
  have hsb := hb8.can.size hpm.rises
  refine (c_rBuild (by omega) (hps2.extN (he3.transN hE48)) hpl.rises hpl.keys).mono ?_
  rintro _ w9 ⟨e1, cs1, rfl, hrc1, hcan1, he9⟩
  obtain rfl := hcan1.uniq ha8.can
  refine (c_rBuild (by omega) ((hps3.extN hE48).extN he9) hpm.rises hpm.keys).mono ?_
  rintro _ w10 ⟨e2, cs2, rfl, hrc2, hcan2, he10⟩
  obtain rfl := hcan2.uniq hb8.can
  refine (c_r28Look _ _ (hrc1.extN he10) hrc2 (by omega)).mono ?_
  rintro _ w11 ⟨rfl, he11⟩
  have he811 := (he9.transN he10).transN he11
  have ha11 := ha8.extN he811
  have hb11 := hb8.extN he811
  have hc11 := hc8.extN he811
  have hw11 := hw8.extN he811
  have hm11 := hm8.extN he811
  refine xj (fun vs w' => vs = [.bool true] ∧ Ext No w11 w') ?_ ?_
  · refine (c_Looks hw11.fl ha11.tree hb11.tree ha11.leafy hb11.leafy (by omega)).mono ?_
    rintro _ w12 ⟨rfl, he12⟩
    rw [look_apart hapart]
    refine xifT (by simp) ?_
    refine (c_SameX (hw11.extN he12).fl (ha11.extN he12).tree (hb11.extN he12).tree ha11.leafy hb11.leafy (by omega)).mono ?_
    rintro _ w13 ⟨rfl, he13⟩
    rw [look_apart hapart]
    refine xbeq_self ?_
    refine xifT rfl ?_
    have he1113 := he12.transN he13
    refine (c_Looks (hw11.extN he1113).fl (ha11.extN he1113).tree (ha11.extN he1113).tree ha11.leafy ha11.leafy (by omega)).mono ?_
    rintro _ w14 ⟨rfl, he14⟩
    rw [look_self]
    refine xifT rfl ?_
    have he1114 := he1113.transN he14
    refine (c_Looks (hw11.extN he1114).fl (ha11.extN he1114).tree (hc11.extN he1114).tree ha11.leafy hc11.leafy (by omega)).mono ?_
    rintro _ w15 ⟨rfl, he15⟩
    rw [look_apart hapart2, lookE_same hca]
    have he1115 := he1114.transN he15
    refine (c_MCount (hm11.extN he1115)).mono ?_
    rintro _ w16 ⟨rfl, rfl⟩
    refine xifT (by rw [hca] at hsa; rw [hca, wrapI (by omega)]; simp) ?_
    refine (c_alive (hw11.extN he1115)).mono ?_
    rintro _ w17 ⟨rfl, he17⟩
    exact ⟨rfl, he1115.transN he17⟩
  · rintro vs g w12 ⟨rfl, he12⟩
    exact ⟨rfl, ((((he1.transN he2).transN he3).transN hE48).transN he811).transN he12⟩
end
end law28
end Go.Proofs.Ytidkkkdlaclolaa
