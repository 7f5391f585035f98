/-  law15: PutOwn.  -/
import Derived.Test.YtbneecjeifionaaGreatDoorL15
namespace Go.Proofs.YtbneecjeifionaaGreatDoor
open Go Go.RowKit X
set_option linter.unusedSimpArgs false
set_option linter.unusedVariables false
set_option linter.unusedSectionVars false
theorem wrapU64m {n : Nat} : IntKind.u64.wrap (n : Int) = ((n % 18446744073709551616 : Nat) : Int) := by
  simp [IntKind.wrap, IntKind.bits, IntKind.signed]
variable [Floor]
/-- what an owner writes, and its meter -/
abbrev FX (o : Nat) (mt : Option Nat) (t : T) : Nat → Prop := fun b => MX mt b ∨ t.Foot o b
theorem FX.nbp {w : World} {t : T} {o n : Nat} {mt : Option Nat} (ht : Tree w t) (hm : Mt w mt n) : NBP w (FX o mt t) := hm.nbp.or (ht.nbpX fun b hb => hb.all)
theorem FX.not {w : World} {t : T} {o n b : Nat} {mt : Option Nat} {cs : List Value} {T : TypeId} (ht : Tree w t) (hm : Mt w mt n) (hb : Blk w b cs T) (ho : Oth T) (hT : T ≠ T_meter_Meter) : ¬ FX o mt t b := fun h => h.elim (hm.ne hb hT) fun h => ht.not hb ho h.all
theorem Lw.fx {w w' : World} {t : T} {o n : Nat} {mt : Option Nat} (h : Lw w) (ht : Tree w t) (hm : Mt w mt n) (e : Ext (FX o mt t) w w') : Lw w' := h.ext e fun b hb => hb.elim (fun h => (hm.at_ b h).1) fun h => ht.fl h.all
theorem Ext.fx {w w1 w2 : World} {t : T} {o b : Nat} (h : Ext No w w1) (e : Ext (FX o (some b) t) w1 w2) (hb : w.heap.size ≤ b) (ht : ∀ c, t.All c → w.heap.size ≤ c) : Ext No w w2 :=
  h.trans e fun c hc hx => by
    rcases hx with hx | hx
    · simp only [MX] at hx
      obtain rfl := Option.some.inj hx
      omega
    · have := ht c hx.all; omega
namespace law15
section
variable {w : World} {v kv : Value} {l : Kv} {k : Key} {x : Nat}
theorem l_PutOwn (hw : Lw w) (hl : Ps w v l) (hk : Bs w kv k) (hx : x < 18446744073709551616) : Ret P n_law15_PutOwn [v, .agg #[kv, u64 x]] w fun r w' => r = .bool true ∧ Ext No w w' := by
  refine W_law15_PutOwn ?_
  refine xnew fun pb w0 hpb hblk hz he0 => ?_
  have hblk : Blk w0 pb [kv, u64 x] T_ref01_Pair := hblk
  have hw0 := hw.extN he0
  have hl0 := hl.extN he0
  refine xj (fun vs w' => ∃ b, vs = [.bool b] ∧ Ext No w0 w' ∧ (b = false → (l.length ≤ 200 ∧ ∀ x ∈ l, x.1.length ≤ 300) ∧ k.length ≤ 600)) ?_ ?_
  · refine (c_far (m := 200) hl0 (by omega)).mono ?_
    rintro r w1 ⟨b, rfl, he, hb⟩
    have hblk1 := hblk.ext he fun h => h
    cases b with
    | false =>
      refine xifF rfl ?_
      refine hblk1.ld (v := kv) rfl ?_
      refine hk.len ?_
      exact ⟨_, rfl, he, fun h => ⟨hb rfl, by have := of_decide_eq_false h; omega⟩⟩
    | true => exact xifT rfl ⟨true, rfl, he, fun h => by cases h⟩
  rintro vs g w1 ⟨b, rfl, he1, hb⟩
  have hw1 := hw0.extN he1
  have hblk1 := hblk.ext he1 fun h => h
  have hE1 := he0.transN he1
  cases b with
  | true =>
    refine xifT rfl ?_
    refine (c_alive hw1).mono ?_
    rintro r w2 ⟨rfl, he2⟩
    exact ⟨rfl, hE1.transN he2⟩
  | false =>
    refine xifF rfl ?_
    obtain ⟨⟨hl200, hk300⟩, hkk⟩ := hb rfl
    have hpr : Pr (sortK l) := Pr.sort (by omega) fun p h => by have := hk300 p h; omega
    have hm200 : (sortK l).length ≤ 200 := Nat.le_trans (sortK_length l) hl200
    refine (c_rSort (hl.extN hE1) (by omega) (fun p h => by have := hk300 p h; omega)).mono ?_
    rintro vl w2 ⟨hso, he2⟩
    have hps := hso.ps he2 (.inr rfl)
    have hw2 := hw1.extN he2
    generalize sortK l = m at hpr hso hps hm200
    refine (c_tree hps hpr hw2 (ow := 7) (by omega)).mono ?_
    rintro r w3 ⟨t, rfl, hct, hsep, how, hnew, he3⟩
    have hw3 := hw2.extN he3
    have hE3 := (hE1.transN he2).transN he3
    have hblk3 := hblk1.ext (he2.transN he3) fun h => h
    have hps3 := hps.extN he3
    have hk3 := hk.extN hE3
    have hnew' : ∀ b, t.All b → w.heap.size ≤ b := fun b hb => by have := hnew b hb; have := (hE1.transN he2).size; omega
    refine hblk3.ld (v := kv) rfl ?_
    refine (c_Get hw3.fl hct.tree hk3 (by omega)).mono ?_
    rintro _ w4 ⟨rfl, he4⟩
    refine xnew fun mb w5 hmb hmblk hz5 he5 => ?_
    have hw4 := hw3.extN he4
    have hm5 : Mt w5 (some mb) 0 := hw4.mtNew hmb hmblk he5
    have hw5 := hw4.extN he5
    have he45 := he4.transN he5
    have hct5 := hct.extN he45
    have hk5 := hk3.extN he45
    have hps5 := hps3.extN he45
    have hblk5 := hblk3.ext he45 fun h => h
    have hE5 := hE3.transN he45
    have hmbw : w.heap.size ≤ mb := by have := (hE3.transN he4).size; omega
    refine hblk5.ld (v := kv) rfl ?_
    refine hblk5.ld (v := u64 x) rfl ?_
    refine (c_Put (o := 7) (n := 0) hct5.tree hsep hct.can.fine hct.leafy hm5 (by omega) hx hk5 (by omega)).mono ?_
    rintro _ w6 ⟨t', n', rfl, hP, -⟩
    have hfx := FX.nbp (o := 7) hct5.tree hm5
    have he6 : Ext (FX 7 (some mb) t) w5 w6 := hP.res.ext
    have hw6 := hw5.fx hct5.tree hm5 he6
    have hk6 := hk5.ext he6 hfx.b
    have hps6 := hps5.ext he6 hfx
    have hblk6 := hblk5.ext he6 (FX.not hct5.tree hm5 hblk5 oth_pair (by decide))
    have hE6 := Ext.fx hE5 he6 hmbw hnew'
    have hct6 := hct5.put hpr.rises hP
    obtain ⟨hn2, hsame⟩ := hP.mine how.q
    have how' := hP.own (· = 7) rfl how.q
    have hm6 := hP.res.cnt
    have hpi : Pr (insK m k x) := hpr.ins (by omega) (by omega)
    have hall' : ∀ b, t'.All b → w.heap.size ≤ b := fun b hb => by
      rcases hP.res.all b hb with h | h
      · exact hnew' b h
      · have := hE5.size; omega
    refine xj (fun vs w' => vs = [.bool false] ∧ w6 = w') ?_ ?_
    · have tail : Ret P n_meter_Meter_Count [mv (some mb)] w6 fun v w' => xGt v (.int .i64 2) fun b => [b] = [.bool false] ∧ w6 = w' := by
        refine (c_MCount hm6).mono ?_
        rintro r w7 ⟨rfl, rfl⟩
        rw [wrapI (x := (n' : Nat)) (by omega)]
        exact ⟨by simp; omega, rfl⟩
      refine xif (fun h => ?_) fun h => tail
      obtain ⟨h1, rfl⟩ := hsame h
      rw [T.v_of_ptr h1]
      refine xpne_self _ ?_
      refine xifF rfl ?_
      refine (c_MCount hm6).mono ?_
      rintro r w7 ⟨rfl, rfl⟩
      exact xifF rfl tail
    rintro vs g w7 ⟨rfl, rfl⟩
    refine xifF rfl ?_
    refine (c_MCount hm6).mono ?_
    rintro r w7 ⟨rfl, rfl⟩
    refine hblk6.ld (v := kv) rfl ?_
    refine hblk6.ld (v := u64 x) rfl ?_
    have hwr : IntKind.u64.wrap ((x : Int) + 1) = (((x + 1) % 18446744073709551616 : Nat) : Int) := by rw [show (x : Int) + 1 = ((x + 1 : Nat) : Int) by omega, wrapU64m]
    refine xi (r := (((x + 1) % 18446744073709551616 : Nat) : Int)) hwr ?_
    have hx1 : (x + 1) % 18446744073709551616 < 18446744073709551616 := Nat.mod_lt _ (by omega)
    generalize hxx : (x + 1) % 18446744073709551616 = x1 at hwr hx1
    refine (c_Put (o := 7) (n := n') hct6.tree hP.res.sep hct6.can.fine hct6.leafy hm6 (by omega) hx1 hk6 (by omega)).mono ?_
    rintro _ w8 ⟨t2, n2, rfl, hP2, -⟩
    have hfx2 := FX.nbp (o := 7) hct6.tree hm6
    have he8 : Ext (FX 7 (some mb) t') _ w8 := hP2.res.ext
    have hw8 := hw6.fx hct6.tree hm6 he8
    have hk8 := hk6.ext he8 hfx2.b
    have hps8 := hps6.ext he8 hfx2
    have hblk8 := hblk6.ext he8 (FX.not hct6.tree hm6 hblk6 oth_pair (by decide))
    have hE8 := Ext.fx hE6 he8 hmbw hall'
    have hct8 := hct6.put hpi.rises hP2
    have hm8 := hP2.res.cnt
    have hget : t'.get k = some x := by
      show t'.er.get k = _
      rw [hP.er, putE_get, if_pos rfl]
    obtain ⟨hptr, hnn⟩ := (hP2.mine how').2 (by rw [hget]; rfl)
    have hv2 : t2.v = t'.v := T.v_of_ptr hptr
    have hct8' : Ct w8 t2 (insK m k x1) := ⟨hct8.tree, hct8.can.congr fun k' => by
      rw [insK_look hpi.rises, insK_look hpr.rises, insK_look hpr.rises]
      split
      · rfl
      · rfl, hct8.leafy⟩
    refine xj (fun vs w' => vs = [.bool true] ∧ Ext No w w') ?_ ?_
    · refine xifT rfl ?_
      refine xifT rfl ?_
      rw [hv2]
      refine xpeq_self _ ?_
      refine xifT rfl ?_
      refine (c_MCount hm8).mono ?_
      rintro r w9 ⟨rfl, rfl⟩
      rw [hnn]
      refine xifT (by simp) ?_
      refine hblk8.ld (v := kv) rfl ?_
      refine hblk8.ld (v := u64 x) rfl ?_
      refine xi (r := (x1 : Int)) hwr ?_
      refine (c_r15Put hps8 hk8 hx1 hpr.many hpr.keys (by omega)).mono ?_
      rintro vp w9 ⟨hvp, he9⟩
      rw [← insK_sort m hpr.rises] at hvp
      rw [← hv2]
      refine (c_as (hw8.extN he9) (hct8'.extN he9) hvp (hpr.ins (by omega) (by omega))).mono ?_
      rintro r w10 ⟨rfl, he10⟩
      refine xifT rfl ?_
      refine (c_alive ((hw8.extN he9).extN he10)).mono ?_
      rintro r w11 ⟨rfl, he11⟩
      exact ⟨rfl, ((hE8.transN he9).transN he10).transN he11⟩
    · rintro vs g w9 ⟨rfl, he⟩
      exact ⟨rfl, he⟩
end
end law15
end Go.Proofs.YtbneecjeifionaaGreatDoor
