/-  law16: DelOwn.  -/
import Derived.Test.YtbleadagnpckbaaGreatDoorL16
import Derived.Test.YtbleadagnpckbaaGreatDoorOpen3
namespace Go.Proofs.YtbleadagnpckbaaGreatDoor
open Go Go.RowKit X
set_option linter.unusedSimpArgs false
set_option linter.unusedVariables false
set_option linter.unusedSectionVars false
variable [Floor]
theorem dropK_lt {m : Kv} {j : Nat} (hj : j < m.length) : (dropK m[j].1 m).length < m.length := by
  unfold dropK
  refine Nat.lt_of_le_of_ne (List.length_filter_le _ _) fun e => ?_
  have := List.length_filter_eq_length_iff.1 e m[j] (List.getElem_mem hj)
  simp at this
theorem look_at {m : Kv} {j : Nat} (hj : j < m.length) : (look m m[j].1).isSome = true := by
  rw [← hasK_look]
  exact List.any_eq_true.2 ⟨m[j], List.getElem_mem hj, by simp⟩
theorem Ct.nilT {w : World} {t : T} (h : Ct w t []) : t = .nil := by
  have := h.can.none fun k => rfl
  cases t with
  | nil => rfl
  | node => cases this
namespace law16
section
variable {w : World} {v vo : Value} {l : Kv} {ns : List Nat}
theorem l_DelOwn (hw : Lw w) (hl : Ps w v l) (ho : Us w .u16 vo ns) (hn16 : ∀ n ∈ ns, n < 65536) : Ret P n_law16_DelOwn [v, vo] w fun r w' => r = .bool true ∧ Ext No w w' := by
  refine W_law16_DelOwn ?_
  refine xj (fun vs w' => ∃ b, vs = [.bool b] ∧ Ext No w w' ∧ (b = false → (l.length ≤ 60 ∧ ∀ x ∈ l, x.1.length ≤ 300) ∧ ns.length ≤ 100)) ?_ ?_
  · refine (c_far (m := 60) hl (by omega)).mono ?_
    rintro r w1 ⟨b, rfl, he, hb⟩
    cases b with
    | false =>
      refine xifF rfl ?_
      refine ho.len ?_
      exact ⟨_, rfl, he, fun h => ⟨hb rfl, by have := of_decide_eq_false h; omega⟩⟩
    | true => exact xifT rfl ⟨true, rfl, he, fun h => by cases h⟩
  rintro vs g w1 ⟨b, rfl, he1, hb⟩
  have hw1 := hw.extN he1
  cases b with
  | true =>
    refine xifT rfl ?_
    refine (c_alive hw1).mono ?_
    rintro r w2 ⟨rfl, he2⟩
    exact ⟨rfl, he1.transN he2⟩
  | false =>
    refine xifF rfl ?_
    obtain ⟨⟨hl60, hk300⟩, hns⟩ := hb rfl
    have hpr : Pr (sortK l) := Pr.sort (by omega) fun p h => by have := hk300 p h; omega
    have hm60 : (sortK l).length ≤ 60 := Nat.le_trans (sortK_length l) hl60
    refine (c_rSort (hl.extN he1) (by omega) (fun p h => by have := hk300 p h; omega)).mono ?_
    rintro vl w2 ⟨hso, he2⟩
    have hps := hso.ps he2 (.inr rfl)
    have hw2 := hw1.extN he2
    generalize sortK l = m at hpr hso hps hm60
    refine (c_tree hps hpr hw2 (ow := 7) (by omega)).mono ?_
    rintro r w3 ⟨t, rfl, hct, hsep, how, hnew, he3⟩
    have hw3 := hw2.extN he3
    have hE3 := (he1.transN he2).transN he3
    refine xnew fun mb w5 hmb hmblk hz5 he5 => ?_
    have hm5 : Mt w5 (some mb) 0 := hw3.mtNew hmb hmblk he5
    have hw5 := hw3.extN he5
    have hE5 := hE3.transN he5
    have hmbw : w.heap.size ≤ mb := by have := hE3.size; omega
    have hnew' : ∀ b, t.All b → w.heap.size ≤ b := fun b hb => by have := hnew b hb; have := (he1.transN he2).size; omega
    refine xloop (fun n vs w' => ∃ (m : Kv) (t : T) (i c : Nat) (lv y1 y3 y4 y6 y7 y8 y9 : Value), vs = [lv, y1, .int .i64 i, y3, y4, t.v, y6, y7, y8, y9] ∧ n = m.length ∧ Ps w' lv m ∧ Pr m ∧ Ct w' t m ∧ t.Sep 7 ∧ t.OwQ (· = 7) ∧ (∀ b, t.All b → w.heap.size ≤ b) ∧ Mt w' (some mb) c ∧ c + m.length ≤ 60 ∧ i + m.length ≤ 60 ∧ Ext No w w') m.length
      ⟨m, t, 0, 0, _, _, _, _, _, _, _, _, rfl, rfl, hps.extN (he3.transN he5), hpr, hct.extN he5, hsep, how.q, hnew', hm5, by omega, by omega, hE5⟩ ?_
    clear hso hps hpr hct hsep how hnew hnew' hm60
    rintro n vs g w6 ⟨m, t, i, c, lv, y1, y3, y4, y6, y7, y8, y9, rfl, rfl, hps, hpr, hct, hsep, how, hnew, hm, hc, hi, hE⟩
    unfold S_law16_DelOwn_l1
    have hw6 := hw.extN hE
    refine hps.len ?_
    refine xifD (fun hpos => ?_) fun hzero => ?_
    · have hpos : 0 < m.length := by omega
      refine xj (fun vs w' => ∃ j : Nat, vs = [.int .i64 j] ∧ j < m.length ∧ w6 = w') ?_ ?_
      · have ho6 := ho.extN hE
        refine ho6.len ?_
        refine xifD (fun hlt => ?_) fun hge => ⟨0, rfl, hpos, rfl⟩
        have hin : i < ns.length := by omega
        refine ho6.rd i rfl hin ?_
        have := hn16 _ (List.getElem_mem hin)
        refine xi (r := (ns[i] : Int)) (wrapI (by omega)) ?_
        refine hps.len ?_
        refine xrem (by omega) ?_
        exact ⟨_, rfl, Nat.mod_lt _ hpos, rfl⟩
      rintro vs g w7 ⟨j, rfl, hj, rfl⟩
      refine hps.key j rfl hj fun kv hkv => ?_
      have hkl := hpr.keys _ (List.getElem_mem hj)
      have hlk := look_at hj
      have hdl := dropK_lt hj
      generalize hk : m[j].1 = k at hkv hkl hlk hdl
      refine (c_MCount hm).mono ?_
      rintro r w8 ⟨rfl, hw8⟩
      rw [hw8]
      refine (c_Del (o := 7) (n := c) hct.tree hsep hct.can.fine hct.leafy (hct.long hpr) hm (by omega) hkv hkl).mono ?_
      rintro _ w9 ⟨t', c', rfl, hD, -, hone, -⟩
      have hone := hone how
      have hfx := FX.nbp (o := 7) hct.tree hm
      have he9 : Ext (FX 7 (some mb) t) w6 w9 := hD.res.ext
      have hw9 := hw6.fx hct.tree hm he9
      have hkv9 := hkv.ext he9 hfx.b
      have hps9 := hps.ext he9 hfx
      have hE9 := Ext.fx hE he9 hmbw hnew
      have hct9 := hct.del hD
      have hm9 := hD.res.cnt
      have hpd : Pr (dropK k m) := hpr.drop k
      have hgk : (t.get k).isSome = true := by rw [show t.get k = look m k from hct.can.get k]; exact hlk
      rw [hgk]
      refine (c_r16Del hps9 hkv9 hpr.many hpr.keys).mono ?_
      rintro _ w10 ⟨out, rfl, hso, he10⟩
      have hw10 := hw9.extN he10
      have hct10 := hct9.extN he10
      have hm10 := hm9.extN he10
      have hps10 := hso.ps he10 (.inr rfl)
      have hE10 := hE9.transN he10
      refine xj (fun vs w' => vs = [.bool false] ∧ Ext No w10 w') ?_ ?_
      · refine xifF rfl ?_
        refine xifF rfl ?_
        refine (c_MCount hm10).mono ?_
        rintro r w11 ⟨rfl, hw11⟩
        rw [hw11, wrapI (x := (c' : Nat)) (by omega), wrapI (x := (c : Nat)) (by omega)]
        refine xi (r := (c' : Int) - c) (by rw [wrapI (by omega)]) ?_
        refine xifF (by simp; omega) ?_
        refine (c_as hw10 hct10 hps10 hpd).mono ?_
        rintro r w12 ⟨rfl, he12⟩
        exact ⟨rfl, he12⟩
      rintro vs g w12 ⟨rfl, he12⟩
      refine xifF rfl ?_
      refine xi (r := ((i + 1 : Nat) : Int)) (by rw [wrapI (by omega)]; omega) ?_
      have hE12 := hE10.transN he12
      refine xnext (dropK k m).length hdl ⟨dropK k m, t', i + 1, c', _, _, _, _, _, _, _, _, rfl, rfl, hps10.extN he12, hpd, hct10.extN he12, hD.res.sep, hD.own (· = 7) rfl how, fun b hb => ?_, hm10.extN he12, by omega, by omega, hE12⟩
      rcases hD.res.all b hb with h | h
      · exact hnew b h
      · have := hE.size; omega
    · have hm0 : m = [] := List.length_eq_zero_iff.1 (by omega)
      subst hm0
      have := hct.nilT
      subst this
      refine xj (fun vs w' => vs = [.bool true] ∧ Ext No w w') ?_ ?_
      · refine xifT rfl ?_
        refine (c_alive hw6).mono ?_
        rintro r w7 ⟨rfl, he7⟩
        exact ⟨rfl, hE.transN he7⟩
      · rintro vs g w7 ⟨rfl, he⟩
        exact ⟨rfl, he⟩
end
end law16
end Go.Proofs.YtbleadagnpckbaaGreatDoor
