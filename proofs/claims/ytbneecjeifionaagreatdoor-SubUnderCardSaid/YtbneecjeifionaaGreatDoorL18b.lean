/-  law18: SubIs, SubUnder: the parts of a tree are the canonical trees of the parts.  -/
import Derived.Test.YtbneecjeifionaaGreatDoorL18
namespace Go.Proofs.YtbneecjeifionaaGreatDoor
open Go Go.RowKit X
set_option linter.unusedSimpArgs false
set_option linter.unusedVariables false
set_option linter.unusedSectionVars false
theorem xpeq_self {w : World} {K : Value → Prop} (t : T) (k : K (.bool true)) : xPEq P w t.v t.v K := by
  show xPtrs P w (.pointer t.ptr) (.pointer t.ptr) _
  cases t.ptr with
  | none => exact k
  | some a => exact xsame (t := true) (by unfold sameAddr; simp) k
theorem xpne_self {w : World} {K : Value → Prop} (t : T) (k : K (.bool false)) : xPNe P w t.v t.v K := by
  show xPtrs P w (.pointer t.ptr) (.pointer t.ptr) _
  cases t.ptr with
  | none => exact k
  | some a => exact xsame (t := true) (by unfold sameAddr; simp) k
variable [Floor]
theorem Pr.sub {l : Kv} (h : Pr l) (p : Key) : Pr (subK p l) := ⟨subK_rises h.rises, fun x hx => h.keys x (subK_mem hx).1, Nat.le_trans (subK_length p l) h.many⟩
theorem stripK_mem {p : Key} {l : Kv} {x : Key × Nat} (h : x ∈ stripK p l) : ∃ y ∈ l, x.1.length ≤ y.1.length ∧ x.2 = y.2 := by
  unfold stripK at h
  obtain ⟨y, hy, rfl⟩ := List.mem_map.1 h
  exact ⟨y, (subK_mem hy).1, by simp, rfl⟩
theorem stripK_length (p : Key) (l : Kv) : (stripK p l).length ≤ l.length := by
  unfold stripK
  rw [List.length_map]
  exact subK_length p l
theorem Pr.strip {l : Kv} (h : Pr l) (p : Key) : Pr (stripK p l) := ⟨stripK_rises h.rises, fun x hx => by
  obtain ⟨y, hy, hl, -⟩ := stripK_mem hx
  exact Nat.le_trans hl (h.keys y hy), Nat.le_trans (stripK_length p l) h.many⟩
theorem Pr.under {l : Kv} (h : Pr l) {p : Key} (hk : ∀ x ∈ l, p.length + x.1.length ≤ 65535) : Pr (underK p l) := ⟨underK_rises h.rises, fun x hx => by
  unfold underK at hx
  obtain ⟨y, hy, rfl⟩ := List.mem_map.1 hx
  have := hk y hy
  simp; omega, by unfold underK; rw [List.length_map]; exact h.many⟩
theorem subK_all {p : Key} {l : Kv} (h : (subK p l).length = l.length) (k : Key) (hk : look l k ≠ none) : p <+: k := by
  have h1 := look_sub p l k
  have h2 : subK p l = l := by
    unfold subK at h ⊢
    exact List.filter_eq_self.2 (List.length_filter_eq_length_iff.1 h)
  rw [h2] at h1
  by_cases hp : p <+: k
  · exact hp
  · rw [if_neg hp] at h1
    exact absurd h1 hk
theorem Pr.sort {l : Kv} (hl : l.length ≤ 100000) (hk : ∀ p ∈ l, p.1.length ≤ 65535) : Pr (sortK l) := ⟨sortK_rises l, fun p h => hk p (sortK_mem h), Nat.le_trans (sortK_length l) hl⟩
/-- a meter of the law's own -/
theorem Lw.mtNew {w w' : World} {b : Nat} (hw : Lw w) (hb : b = w.heap.size) (h : Blk w' b [.int .i64 0] T_meter_Meter) (he : Ext No w w') : Mt w' (some b) 0 :=
  ⟨(hw.extN he).fl, fun b' hb' => by obtain rfl := Option.some.inj hb'; exact ⟨by rw [hb]; exact hw.fl, h⟩⟩
theorem Ext.mx {w w1 w2 : World} {b : Nat} (h : Ext No w w1) (e : Ext (MX (some b)) w1 w2) (hb : w.heap.size ≤ b) : Ext No w w2 :=
  h.trans e fun x hx hm => by
    simp only [MX] at hm
    obtain rfl := Option.some.inj hm
    omega
namespace law18
section
variable {w : World} {v vp : Value} {l : Kv} {p : Key}
theorem l_SubIs (hw : Lw w) (hl : Ps w v l) (hp : Bs w vp p) {o : Nat} (ho : o < 18446744073709551616) : Ret P n_law18_SubIs [v, vp, .int .u64 o] w fun r w' => r = .bool true ∧ Ext No w w' := by
  refine W_law18_SubIs ?_
  refine xj (fun vs w' => ∃ b, vs = [.bool b] ∧ Ext No w w' ∧ (b = false → (l.length ≤ 200 ∧ ∀ x ∈ l, x.1.length ≤ 300) ∧ p.length ≤ 600)) ?_ ?_
  · refine (c_far (m := 200) hl (by omega)).mono ?_
    rintro r w1 ⟨b, rfl, he, hb⟩
    cases b with
    | false =>
      refine xifF rfl ?_
      refine hp.len ?_
      exact ⟨_, rfl, he, fun h => ⟨hb rfl, by have := of_decide_eq_false h; omega⟩⟩
    | true => exact xifT rfl ⟨true, rfl, he, fun h => by cases h⟩
  rintro vs g w1 ⟨b, rfl, he1, hb⟩
  have hw1 := hw.extN he1
  cases b with
  | true =>
    refine xifT rfl ?_
    refine (c_alive hw1).mono ?_
    rintro r w2 ⟨rfl, he2⟩
    exact ⟨rfl, he1.transN he2⟩
  | false =>
    refine xifF rfl ?_
    obtain ⟨⟨hl200, hk300⟩, hp600⟩ := hb rfl
    have hpr : Pr (sortK l) := Pr.sort (by omega) fun p h => by have := hk300 p h; omega
    refine (c_rSort (hl.extN he1) (by omega) (fun p h => by have := hk300 p h; omega)).mono ?_
    rintro vl w2 ⟨hso, he2⟩
    have hps := hso.ps he2 (.inr rfl)
    have hw2 := hw1.extN he2
    generalize sortK l = m at hpr hso hps
    refine (c_tree hps hpr hw2 (ow := 1) (by omega)).mono ?_
    rintro r w3 ⟨t, rfl, hct, -, -, -, he3⟩
    have hw3 := hw2.extN he3
    refine xnew fun mb w4 hmb hmblk hz4 he4 => ?_
    have hm4 : Mt w4 (some mb) 0 := hw3.mtNew hmb hmblk he4
    have hw4 := hw3.extN he4
    have hE4 : Ext No w w4 := ((he1.transN he2).transN he3).transN he4
    have hmw : w.heap.size ≤ mb := by have := ((he1.transN he2).transN he3).size; omega
    have hct4 := hct.extN he4
    have hps4 := (hps.extN he3).extN he4
    have hp4 := hp.extN hE4
    by_cases ho0 : o = 0
    · subst ho0
      refine c_Sub0.mono ?_
      rintro r w5 ⟨rfl, rfl⟩
      refine (c_MCount hm4).mono ?_
      rintro r w6 ⟨rfl, rfl⟩
      refine c_Strip0.mono ?_
      rintro r w7 ⟨rfl, rfl⟩
      refine xifT rfl ?_
      refine xj (fun vs w' => vs = [.bool true] ∧ Ext No w w') ?_ ?_
      · refine xifT rfl ?_
        refine xifT rfl ?_
        refine xifT rfl ?_
        refine xifT rfl ?_
        refine (c_MCount hm4).mono ?_
        rintro r w6 ⟨rfl, rfl⟩
        refine xifT rfl ?_
        refine (c_alive hw4).mono ?_
        rintro r w7 ⟨rfl, he7⟩
        exact ⟨rfl, hE4.transN he7⟩
      · rintro vs g w5 ⟨rfl, he⟩
        exact ⟨rfl, he⟩
    · have hlong := hct.long hpr
      refine (c_Sub hct4.tree hm4 ho0 hp4 (by omega) hct4.can hlong).mono ?_
      rintro r w5 ⟨t1, n1, rfl, hs1, hcan1, hid1⟩
      refine (c_MCount hs1.cnt).mono ?_
      rintro r w6 ⟨rfl, rfl⟩
      have hw5 := hw4.mt hm4 hs1.ext
      have hct5 := hct4.mt hm4 hs1.ext
      have hp5 := hp4.mt hs1.ext hm4
      have hps5 := hps4.mt hs1.ext hm4
      have hE5 := Ext.mx hE4 hs1.ext hmw
      refine (c_Strip hct5.tree hs1.cnt ho0 hp5 (by omega) hct5.can).mono ?_
      rintro r w6 ⟨t2, n2, rfl, hs2, hcan2, hid2⟩
      have hw6 := hw5.mt hs1.cnt hs2.ext
      have hct6 := hct5.mt hs1.cnt hs2.ext
      have ht1 := hs1.tree.extM hs1.cnt hs2.ext
      have hp6 := hp5.mt hs2.ext hs1.cnt
      have hps6 := hps5.mt hs2.ext hs1.cnt
      have hE6 := Ext.mx hE5 hs2.ext hmw
      have hn1 := hs1.le
      have hn2 := hs2.le
      have hn3 := hs2.ge
      refine xifF (by simp; omega) ?_
      refine (c_r18Sub hps6 hp6 hpr.many hpr.keys).mono ?_
      rintro va w7 ⟨hsa, he7⟩
      refine (c_r18Strip (hps6.extN he7) (hp6.extN he7) hpr.many hpr.keys).mono ?_
      rintro vb w8 ⟨hsb, he8⟩
      have he78 := he7.transN he8
      have hm8 := hs2.cnt.extN he78
      have hw8 := hw6.extN he78
      have hE8 := hE6.transN he78
      refine xj (fun vs w' => vs = [.bool false] ∧ w8 = w') ?_ ?_
      · have tail : Ret P n_meter_Meter_Count [mv (some mb)] w8 fun v w' => xSub v (.int .i64 (IntKind.i64.wrap (n1 : Nat))) fun r => xGt r (.int .i64 1) fun b => xIf b ([Value.bool true] = [.bool false] ∧ w8 = w') (xGt (.int .i64 (IntKind.i64.wrap (n1 : Nat))) (.int .i64 1) fun b => [b] = [.bool false] ∧ w8 = w') := by
          refine (c_MCount hm8).mono ?_
          rintro r w9 ⟨rfl, rfl⟩
          rw [wrapI (x := (n1 : Nat)) (by omega), wrapI (x := (n2 : Nat)) (by omega)]
          refine xi (r := ((n2 - n1 : Nat) : Int)) (by rw [wrapI (by omega)]; omega) ?_
          refine xifF (by simp; omega) ?_
          exact ⟨by simp; omega, rfl⟩
        have next : xLen vp fun u => xEq u (.int .i64 0) fun b => xIf b (xPNe P w8 t2.v t.v fun b => xIf b ([Value.bool true] = [.bool false] ∧ w8 = w8) (Ret P n_meter_Meter_Count [mv (some mb)] w8 fun v w' => xSub v (.int .i64 (IntKind.i64.wrap (n1 : Nat))) fun r => xGt r (.int .i64 1) fun b => xIf b ([Value.bool true] = [.bool false] ∧ w8 = w') (xGt (.int .i64 (IntKind.i64.wrap (n1 : Nat))) (.int .i64 1) fun b => [b] = [.bool false] ∧ w8 = w')))
          (Ret P n_meter_Meter_Count [mv (some mb)] w8 fun v w' => xSub v (.int .i64 (IntKind.i64.wrap (n1 : Nat))) fun r => xGt r (.int .i64 1) fun b => xIf b ([Value.bool true] = [.bool false] ∧ w8 = w') (xGt (.int .i64 (IntKind.i64.wrap (n1 : Nat))) (.int .i64 1) fun b => [b] = [.bool false] ∧ w8 = w')) := by
          refine hp.len ?_
          refine xifE (fun h => ?_) fun h => tail
          obtain ⟨rfl, rfl⟩ := hid2 (List.length_eq_zero_iff.1 (by omega))
          refine xpne_self _ ?_
          exact xifF rfl tail
        refine hsa.len ?_
        refine hso.len ?_
        refine xifE (fun h => ?_) fun h => next
        obtain ⟨rfl, rfl⟩ := hid1 (subK_all (by omega))
        refine xpne_self _ ?_
        refine xifF rfl ?_
        refine xifF rfl ?_
        exact next
      rintro vs g w9 ⟨rfl, rfl⟩
      refine xifF rfl ?_
      have hct8 := hct6.extN he78
      have c1 : Ct w8 t1 (subK p m) := ⟨ht1.extN he78, hcan1.congr fun k => (look_sub p m k).symm, hs1.leafy hct.leafy⟩
      have c2 : Ct w8 t2 (stripK p m) := ⟨hs2.tree.extN he78, hcan2.congr fun k => (look_strip p m k).symm, hs2.leafy hct.leafy⟩
      have pa : Ps w8 va (subK p m) := (hsa.ps he7 (.inr rfl)).extN he8
      have pb : Ps w8 vb (stripK p m) := hsb.ps he8 (.inr rfl)
      have pl : Ps w8 vl m := hps6.extN he78
      refine xj (fun vs w' => vs = [.bool true] ∧ Ext No w w') ?_ ?_
      · refine xifT rfl ?_
        refine xifT rfl ?_
        refine (c_as hw8 c1 pa (hpr.sub p)).mono ?_
        rintro r w9 ⟨rfl, he9⟩
        refine xifT rfl ?_
        refine (c_as (hw8.extN he9) (c2.extN he9) (pb.extN he9) (hpr.strip p)).mono ?_
        rintro r w10 ⟨rfl, he10⟩
        refine xifT rfl ?_
        have he910 := he9.transN he10
        refine (c_as (hw8.extN he910) (hct8.extN he910) (pl.extN he910) hpr).mono ?_
        rintro r w11 ⟨rfl, he11⟩
        refine xifT rfl ?_
        have he11' := he910.transN he11
        refine (c_Longest t (hct8.extN he11').tree (by omega)).mono ?_
        rintro r w12 ⟨rfl, he12⟩
        refine (c_r18Longest (pl.extN (he11'.transN he12)) hpr.many).mono ?_
        rintro r w13 ⟨rfl, rfl⟩
        refine xifT (by rw [hct.can.long hpr.rises]; simp) ?_
        refine (c_alive (hw8.extN (he11'.transN he12))).mono ?_
        rintro r w14 ⟨rfl, he14⟩
        exact ⟨rfl, ((hE8.transN he11').transN he12).transN he14⟩
      · rintro vs g w9 ⟨rfl, he⟩
        exact ⟨rfl, he⟩
theorem l_SubUnder (hw : Lw w) (hl : Ps w v l) (hp : Bs w vp p) {o : Nat} (ho : o < 18446744073709551616) : Ret P n_law18_SubUnder [v, vp, .int .u64 o] w fun r w' => r = .bool true ∧ Ext No w w' := by
  refine W_law18_SubUnder ?_
  refine xj (fun vs w' => ∃ b, vs = [.bool b] ∧ Ext No w w' ∧ (b = false → (l.length ≤ 200 ∧ ∀ x ∈ l, x.1.length ≤ 300) ∧ p.length ≤ 600)) ?_ ?_
  · refine (c_far (m := 200) hl (by omega)).mono ?_
    rintro r w1 ⟨b, rfl, he, hb⟩
    cases b with
    | false =>
      refine xifF rfl ?_
      refine hp.len ?_
      exact ⟨_, rfl, he, fun h => ⟨hb rfl, by have := of_decide_eq_false h; omega⟩⟩
    | true => exact xifT rfl ⟨true, rfl, he, fun h => by cases h⟩
  rintro vs g w1 ⟨b, rfl, he1, hb⟩
  have hw1 := hw.extN he1
  cases b with
  | true =>
    refine xifT rfl ?_
    refine (c_alive hw1).mono ?_
    rintro r w2 ⟨rfl, he2⟩
    exact ⟨rfl, he1.transN he2⟩
  | false =>
    refine xifF rfl ?_
    obtain ⟨⟨hl200, hk300⟩, hp600⟩ := hb rfl
    have hpr : Pr (sortK l) := Pr.sort (by omega) fun p h => by have := hk300 p h; omega
    have hk3 : ∀ x ∈ sortK l, x.1.length ≤ 300 := fun x hx => hk300 x (sortK_mem hx)
    refine (c_rSort (hl.extN he1) (by omega) (fun p h => by have := hk300 p h; omega)).mono ?_
    rintro vl w2 ⟨hso, he2⟩
    have hps := hso.ps he2 (.inr rfl)
    have hw2 := hw1.extN he2
    generalize sortK l = m at hpr hso hps hk3
    refine (c_tree hps hpr hw2 (ow := 1) (by omega)).mono ?_
    rintro r w3 ⟨t, rfl, hct, -, -, -, he3⟩
    have hw3 := hw2.extN he3
    refine xnew fun mb w4 hmb hmblk hz4 he4 => ?_
    have hm4 : Mt w4 (some mb) 0 := hw3.mtNew hmb hmblk he4
    have hw4 := hw3.extN he4
    have hE4 : Ext No w w4 := ((he1.transN he2).transN he3).transN he4
    have hmw : w.heap.size ≤ mb := by have := ((he1.transN he2).transN he3).size; omega
    have hct4 := hct.extN he4
    have hps4 := (hps.extN he3).extN he4
    have hp4 := hp.extN hE4
    by_cases ho0 : o = 0
    · subst ho0
      refine c_Under0.mono ?_
      rintro r w5 ⟨rfl, rfl⟩
      refine xifT rfl ?_
      refine xj (fun vs w' => vs = [.bool true] ∧ Ext No w w') ?_ ?_
      · refine xifT rfl ?_
        refine xifT rfl ?_
        refine (c_MCount hm4).mono ?_
        rintro r w6 ⟨rfl, rfl⟩
        refine xifT rfl ?_
        refine (c_alive hw4).mono ?_
        rintro r w7 ⟨rfl, he7⟩
        exact ⟨rfl, hE4.transN he7⟩
      · rintro vs g w5 ⟨rfl, he⟩
        exact ⟨rfl, he⟩
    · have hmax : maxL (m.map fun x => x.1.length) ≤ 300 := maxL_le' fun n hn => by
        obtain ⟨x, hx, rfl⟩ := List.mem_map.1 hn
        exact hk3 x hx
      have hlong : t.er.long ≤ 300 := by rw [hct.can.long hpr.rises]; exact hmax
      have hpu : Pr (underK p m) := hpr.under fun x hx => by have := hk3 x hx; omega
      refine (c_Under hct4.tree hm4 ho0 hp4 hct4.can (by omega) (.inr (by omega))).mono ?_
      rintro r w5 ⟨t1, n1, rfl, hs1, hcan1, hid1, -⟩
      have hw5 := hw4.mt hm4 hs1.ext
      have hct5 := hct4.mt hm4 hs1.ext
      have hp5 := hp4.mt hs1.ext hm4
      have hps5 := hps4.mt hs1.ext hm4
      have hE5 := Ext.mx hE4 hs1.ext hmw
      have hn1 := hs1.le
      have c1 : Ct w5 t1 (underK p m) := ⟨hs1.tree, hcan1.congr fun k => (look_under p m k).symm, hs1.leafy hct.leafy⟩
      refine xifF (by simp; omega) ?_
      refine (c_r18Under hw5.fl hps5 hp5 hpr.many hpr.keys (by omega) (.inr (by omega))).mono ?_
      rintro r w6 ⟨vu, rfl, hpu6, he6⟩
      have hw6 := hw5.extN he6
      have hm6 := hs1.cnt.extN he6
      refine xj (fun vs w' => vs = [.bool false] ∧ Ext No w6 w') ?_ ?_
      · refine xifF rfl ?_
        refine (c_as hw6 (c1.extN he6) hpu6 hpu).mono ?_
        rintro r w7 ⟨rfl, he7⟩
        refine xifF rfl ?_
        refine (c_MCount (hm6.extN he7)).mono ?_
        rintro r w8 ⟨rfl, rfl⟩
        rw [wrapI (x := (n1 : Nat)) (by omega)]
        refine xifF (by simp; omega) ?_
        refine hp.len ?_
        refine xifE (fun h => ?_) fun h => ⟨rfl, he7⟩
        obtain ⟨rfl, rfl⟩ := hid1 (List.length_eq_zero_iff.1 (by omega))
        refine xpne_self _ ?_
        refine xifF rfl ?_
        refine (c_MCount (hm6.extN he7)).mono ?_
        rintro r w9 ⟨rfl, rfl⟩
        exact ⟨rfl, he7⟩
      rintro vs g w7 ⟨rfl, he7⟩
      refine xifF rfl ?_
      have he67 := he6.transN he7
      have hw7 := hw5.extN he67
      have hm7 := hs1.cnt.extN he67
      have hct7 := hct5.extN he67
      have c7 := c1.extN he67
      have hp7 := hp5.extN he67
      have hps7 := hps5.extN he67
      have hpu7 := hpu6.extN he7
      have hE7 := hE5.transN he67
      refine (c_MCount hm7).mono ?_
      rintro r w8 ⟨rfl, rfl⟩
      refine (c_Strip c7.tree hm7 ho0 hp7 (by omega) c7.can).mono ?_
      rintro r w8 ⟨t2, n2, rfl, hs2, hcan2, -⟩
      have hw8 := hw7.mt hm7 hs2.ext
      have hct8 := hct7.mt hm7 hs2.ext
      have c8 := c7.mt hm7 hs2.ext
      have hp8 := hp7.mt hs2.ext hm7
      have hps8 := hps7.mt hs2.ext hm7
      have hpu8 := hpu7.mt hs2.ext hm7
      have hE8 := Ext.mx hE7 hs2.ext hmw
      refine (c_Sub c8.tree hs2.cnt ho0 hp8 (by omega) c8.can (c8.long hpu)).mono ?_
      rintro r w9 ⟨t3, n3, rfl, hs3, -, hid3⟩
      have hw9 := hw8.mt hs2.cnt hs3.ext
      have hct9 := hct8.mt hs2.cnt hs3.ext
      have c9 := c8.mt hs2.cnt hs3.ext
      have hps9 := hps8.mt hs3.ext hs2.cnt
      have hpu9 := hpu8.mt hs3.ext hs2.cnt
      have hE9 := Ext.mx hE8 hs3.ext hmw
      have ht2 := hs2.tree.extM hs2.cnt hs3.ext
      have hn2 := hs2.le
      have hn2' := hs2.ge
      obtain ⟨rfl, rfl⟩ := hid3 fun k hk => by
        rw [look_under] at hk
        by_cases h : p <+: k
        · exact h
        · rw [if_neg h] at hk; exact absurd rfl hk
      have c2 : Ct w9 t2 m := ⟨ht2, hcan2.congr fun k => by rw [look_under, if_pos (List.prefix_append _ _), List.drop_left], hs2.leafy (hs1.leafy hct.leafy)⟩
      refine xj (fun vs w' => vs = [.bool true] ∧ Ext No w w') ?_ ?_
      · refine xifT rfl ?_
        refine xifT rfl ?_
        refine xpeq_self _ ?_
        refine xifT rfl ?_
        refine (c_as hw9 c2 hps9 hpr).mono ?_
        rintro r w10 ⟨rfl, he10⟩
        refine xifT rfl ?_
        refine (c_MCount (hs3.cnt.extN he10)).mono ?_
        rintro r w11 ⟨rfl, rfl⟩
        rw [wrapI (x := (n1 : Nat)) (by omega), wrapI (by omega)]
        refine xi0 ?_
        rw [wrapI (by omega)]
        refine xifT (by simp; omega) ?_
        refine (c_as (hw9.extN he10) (c9.extN he10) (hpu9.extN he10) hpu).mono ?_
        rintro r w11 ⟨rfl, he11⟩
        refine xifT rfl ?_
        have he' := he10.transN he11
        refine (c_as (hw9.extN he') (hct9.extN he') (hps9.extN he') hpr).mono ?_
        rintro r w12 ⟨rfl, he12⟩
        refine xifT rfl ?_
        refine (c_alive ((hw9.extN he').extN he12)).mono ?_
        rintro r w13 ⟨rfl, he13⟩
        exact ⟨rfl, ((hE9.transN he').transN he12).transN he13⟩
      · rintro vs g w10 ⟨rfl, he⟩
        exact ⟨rfl, he⟩
end
end law18
end Go.Proofs.YtbneecjeifionaaGreatDoor
