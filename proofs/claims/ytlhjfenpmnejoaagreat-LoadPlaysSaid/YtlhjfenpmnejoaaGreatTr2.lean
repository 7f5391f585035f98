/-  transients: what they put, take out, tell, and freeze to.  -/
import Derived.Test.YtlhjfenpmnejoaaGreatTr
namespace Go.Proofs.YtlhjfenpmnejoaaGreat
open Go Go.RowKit X
set_option linter.unusedSimpArgs false
set_option linter.unusedVariables false
set_option linter.unusedSectionVars false
variable [Floor]
theorem xkeep2 {w : World} {b : Nat} {x y : Value} {cs : List Value} {T : TypeId} (h : Blk w b (x :: y :: cs) T) : xKeepN w (.pointer (some ((⟨b, 0, none⟩ : Addr).add 0))) (.agg #[x, y]) := by
  show ∀ i, i < (#[x, y] : Array Value).size → w.cell? (((⟨b, 0, none⟩ : Addr).add 0).add i) = (#[x, y] : Array Value)[i]?
  intro i hi
  rw [Addr.add_lit, Addr.add_lit, h.cell]
  have : i = 0 ∨ i = 1 := by simp at hi; omega
  rcases this with rfl | rfl <;> rfl
/-- what a put costs -/
structure PutF (o : Nat) (t t' : T) (n n' : Nat) (k : Key) (x : Nat) : Prop where
  pot : n' + t'.pot o ≤ n + t.pot o + 2
  pot0 : (t.get k).isSome → n' + t'.pot o ≤ n + t.pot o
  still : t.Way o k → (t.get k).isSome → n' = n
  way : t.get k ≠ some x → t'.Way o k
  same : t.get k = some x → t' = t ∧ n' = n
section
variable {B : Nat} {w w1 w2 : World} {wb n j vb tb : Nat} {t : T} {l : Kv} {V : Nat → Option (T × Kv)} {M : Nat → Option TrR} {F : Nat → Prop} {r : TrR} {k : Key} {vk : Value} {x : Nat}
theorem TB.one {w0 : World} {cs : List Value} (hge : B ≤ tb) (hfl : Floor.n ≤ tb) (hb : Blk w tb cs T_trans_Trans) (e : Ext (· = tb) w w1) : VE B w w1 :=
  VE.of e (NV.blk hb (.inr (.inr (.inl rfl))) hfl) fun b hb => by have e : b = tb := hb; subst e; exact hge
theorem Ct.keepT {cs : List Value} (h : Ct w t l) (hb : Blk w tb cs T_trans_Trans) (hfl : Floor.n ≤ tb) (e : Ext (· = tb) w w1) : Ct w1 t l :=
  h.keep e (nb_trans hb hfl) fun b hb' e' => by have e' : b = tb := e'; subst e'; exact h.tree.not hb oth_trans hb'
set_option maxHeartbeats 1000000 in
theorem c_TPut (h : TI B w wb n j V M F) (hr : M tb = some r) (hk : Bs w vk k) (hkl : k.length ≤ 65535) (hx : x < 18446744073709551616) (hl : r.l.length < 100000) :
    Ret P n_trans_Trans_Put [rp tb, vk, .int .u64 x] w fun v w' => v = .int .i64 0 ∧ VE B w w' ∧ ∃ t' n', TI B w' wb n' j V (updM M tb ⟨r.o, r.vb, t', insK r.l k x⟩) F ∧ PutF r.o r.t t' n n' k x := by
  have hT := h.tr tb r hr
  have hb := hT.blk
  have hfl := hT.fl h.vi
  refine W_trans_Trans_Put ?_
  refine (c_TMay h hr).mono ?_
  rintro _ w1 ⟨rfl, rfl⟩
  refine xifF rfl ?_
  refine hb.ld (o := 2) (v := r.t.v) rfl ?_
  refine (c_Has h.vi.lw.fl hT.ct.tree hk (by omega)).mono ?_
  rintro _ w2 ⟨rfl, he2⟩
  have hd := Ext.drew (Ext.refl No w2)
  have he2d := he2.transN hd
  have hb2 := hb.ext he2d fun h => h
  refine hb2.ld (o := 2) (v := r.t.v) rfl ?_
  refine hb2.ldN (o := 0) (n := 2) (by simp) ?_
  refine hb2.ldN (o := 0) (n := 2) (by simp) ?_
  refine (c_mine (vb := r.vb) (o := r.o)).mono ?_
  rintro _ w3 ⟨rfl, he3⟩
  have hb3 := hb2.ext he3 fun h => h
  refine ⟨xkeep2 hb3, xkeepV hb3 rfl, ?_⟩
  refine (c_world (h.vi.extN (he2d.transN he3)) hT.frm).mono ?_
  rintro _ w4 ⟨rfl, he4⟩
  have hb4 := hb3.ext he4 fun h => h
  refine ⟨xkeepV hb4 rfl, ?_⟩
  refine (c_WMeter (j := j)).mono ?_
  rintro _ w5 ⟨rfl, rfl⟩
  refine ⟨xkeepV hb4 rfl, ?_⟩
  have hE4 := (he2d.transN he3).transN he4
  have h4 := h.extN hE4
  have hT4 := h4.tr tb r hr
  refine (c_Put (o := r.o) (mt := some (wmt wb j)) (n := n) hT4.ct.tree hT4.sep hT4.ct.can.fine hT4.ct.leafy h4.vi.mt hT4.o0 hx (hk.extN hE4) hkl).mono ?_
  rintro _ w6 ⟨t', n', rfl, hP, hsame⟩
  obtain ⟨hTP, hb6, hE6⟩ := h4.write hr hP.res.ext hP.res.cnt
  refine xifF rfl ?_
  refine hb6.st (o := 2) (by simp) rfl fun w7 hb7 hz7 he7 => ?_
  have hb7 : Blk w7 tb (trC r.vb r.o t' r.l.length false) T_trans_Trans := hb7
  have hgk : r.t.get k = look r.l k := hT.ct.can.get k
  have hln := insK_len hT.pr.rises k x
  refine xj (fun vs w' => Ext (· = tb) w6 w' ∧ Blk w' tb (trC r.vb r.o t' (insK r.l k x).length false) T_trans_Trans) ?_ ?_
  · rw [hgk]
    cases hg : look r.l k with
    | some y =>
      rw [hg] at hln
      refine xifF rfl ⟨he7, ?_⟩
      have : (insK r.l k x).length = r.l.length := by simpa using hln
      rw [this]; exact hb7
    | none =>
      rw [hg] at hln
      refine xifT rfl ?_
      refine hb7.ld (o := 3) (v := .int .i64 r.l.length) rfl ?_
      refine xi (r := ((r.l.length + 1 : Nat) : Int)) (by rw [wrapI (by omega)]; omega) ?_
      refine hb7.st (o := 3) (by simp) rfl fun w8 hb8 hz8 he8 => ⟨he7.transS he8, ?_⟩
      have : (insK r.l k x).length = r.l.length + 1 := by simpa using hln
      rw [this]
      exact hb8
  · rintro vs g w8 ⟨he8, hb8⟩
    have hTP8 := hTP.own1 hb6 hfl he8
    have hct6 := hT4.ct.put hT.pr.rises hP
    refine ⟨rfl, ((VE.no hE4).trans hE6).trans (TB.one (w0 := w8) hT.ge hfl hb6 he8), t', n', TP.res h4 hr hP.res.all hP.res.foot hTP8 hb8 (hct6.keepT hb6 hfl he8) (hT.pr.ins hkl hl) (hP.own _ hT.oj hT.own) hP.res.sep ?_ (h.notF hr), hP.pot, hP.pot0, fun h1 h2 => (hP.still h1 h2).2, fun h1 => (hP.up h1 hT.up).2, hsame⟩
    by_cases hg : r.t.get k = some x
    · obtain ⟨rfl, -⟩ := hsame hg
      exact hT.up
    · exact (hP.up hg hT.up).1
set_option maxHeartbeats 1000000 in
theorem c_TDel (h : TI B w wb n j V M F) (hr : M tb = some r) (hk : Bs w vk k) (hkl : k.length ≤ 65535) :
    Ret P n_trans_Trans_Del [rp tb, vk] w fun v w' => v = .tuple #[.bool (look r.l k).isSome, .int .i64 0] ∧ VE B w w' ∧ ∃ t' n', TI B w' wb n' j V (updM M tb ⟨r.o, r.vb, t', dropK k r.l⟩) F ∧ n' + t'.pot r.o ≤ n + r.t.pot r.o + 1 ∧ (look r.l k = none → t' = r.t ∧ n' = n) := by
  have hT := h.tr tb r hr
  have hb := hT.blk
  have hfl := hT.fl h.vi
  refine W_trans_Trans_Del ?_
  refine (c_TMay h hr).mono ?_
  rintro _ w1 ⟨rfl, rfl⟩
  refine xifF rfl ?_
  have hd := Ext.drew (Ext.refl No w1)
  have hb2 := hb.ext hd fun h => h
  refine hb2.ld (o := 2) (v := r.t.v) rfl ?_
  refine hb2.ldN (o := 0) (n := 2) (by simp) ?_
  refine hb2.ldN (o := 0) (n := 2) (by simp) ?_
  refine (c_mine (vb := r.vb) (o := r.o)).mono ?_
  rintro _ w3 ⟨rfl, he3⟩
  have hb3 := hb2.ext he3 fun h => h
  refine ⟨xkeep2 hb3, xkeepV hb3 rfl, ?_⟩
  refine (c_world (h.vi.extN (hd.transN he3)) hT.frm).mono ?_
  rintro _ w4 ⟨rfl, he4⟩
  have hb4 := hb3.ext he4 fun h => h
  refine ⟨xkeepV hb4 rfl, ?_⟩
  refine (c_WMeter (j := j)).mono ?_
  rintro _ w5 ⟨rfl, rfl⟩
  refine ⟨xkeepV hb4 rfl, ?_⟩
  have hE4 := (hd.transN he3).transN he4
  have h4 := h.extN hE4
  have hT4 := h4.tr tb r hr
  refine (c_Del (o := r.o) (mt := some (wmt wb j)) (n := n) hT4.ct.tree hT4.sep hT4.ct.can.fine hT4.ct.leafy (hT4.ct.long hT.pr) h4.vi.mt hT4.o0 (hk.extN hE4) hkl).mono ?_
  rintro _ w6 ⟨t', n', rfl, hD, -, -, hsame⟩
  obtain ⟨hTP, hb6, hE6⟩ := h4.write hr hD.res.ext hD.res.cnt
  refine xifF rfl ?_
  refine hb6.st (o := 2) (by simp) rfl fun w7 hb7 hz7 he7 => ?_
  have hb7 : Blk w7 tb (trC r.vb r.o t' r.l.length false) T_trans_Trans := hb7
  have hgk : r.t.get k = look r.l k := hT.ct.can.get k
  have hln := dropK_len hT.pr.rises k
  have hmany := hT.pr.many
  rw [hgk] at hsame ⊢
  refine xj (fun vs w' => Ext (· = tb) w6 w' ∧ Blk w' tb (trC r.vb r.o t' (dropK k r.l).length false) T_trans_Trans) ?_ ?_
  · cases hg : look r.l k with
    | none =>
      rw [hg] at hln
      refine xifF rfl ⟨he7, ?_⟩
      have : (dropK k r.l).length = r.l.length := by simpa using hln
      rw [this]; exact hb7
    | some y =>
      rw [hg] at hln
      have hln : (dropK k r.l).length + 1 = r.l.length := by simpa using hln
      refine xifT rfl ?_
      refine hb7.ld (o := 3) (v := .int .i64 r.l.length) rfl ?_
      refine xi (r := (((dropK k r.l).length : Nat) : Int)) (by rw [wrapI (by omega)]; omega) ?_
      exact hb7.st (o := 3) (by simp) rfl fun w8 hb8 hz8 he8 => ⟨he7.transS he8, hb8⟩
  · rintro vs g w8 ⟨he8, hb8⟩
    have hTP8 := hTP.own1 hb6 hfl he8
    have hct6 := hT4.ct.del hD
    exact ⟨rfl, ((VE.no hE4).trans hE6).trans (TB.one (w0 := w8) hT.ge hfl hb6 he8), t', n', TP.res h4 hr hD.res.all hD.res.foot hTP8 hb8 (hct6.keepT hb6 hfl he8) (hT.pr.drop k) (hD.own _ hT.oj hT.own) hD.res.sep (hD.up hT.up).1 (h.notF hr), hD.pot, hsame⟩
theorem c_TLen (h : TI B w wb n j V M F) (hr : M tb = some r) : Ret P n_trans_Trans_Len [rp tb] w fun v w' => v = .tuple #[.int .i64 r.l.length, .int .i64 0] ∧ w' = w := by
  have hT := h.tr tb r hr
  refine W_trans_Trans_Len ?_
  refine (c_TMay h hr).mono ?_
  rintro _ w1 ⟨rfl, rfl⟩
  refine xifF rfl ?_
  exact hT.blk.ld (o := 3) (v := .int .i64 r.l.length) rfl ⟨rfl, rfl⟩
theorem c_TList (h : TI B w wb n j V M F) (hr : M tb = some r) : Ret P n_trans_Trans_List [rp tb] w fun v w' => ∃ lv, v = .tuple #[lv, .int .i64 0] ∧ Ps w' lv r.l ∧ Ext No w w' := by
  have hT := h.tr tb r hr
  have hl := hT.ct.can.list hT.pr.rises
  have := hT.pr.many
  refine W_trans_Trans_List ?_
  refine (c_TMay h hr).mono ?_
  rintro _ w1 ⟨rfl, rfl⟩
  refine xifF rfl ?_
  refine hT.blk.ld (o := 2) (v := r.t.v) rfl ?_
  refine (c_List hT.ct.tree (hT.ct.long hT.pr) (by rw [hl]; omega)).mono ?_
  rintro lv w2 ⟨hps, he⟩
  rw [hl] at hps
  exact ⟨lv, rfl, hps.ps (.inl rfl), he⟩
/-- .. and what a frozen one answers -/
theorem c_TPutF {y : Value} (h : TI B w wb n j V M F) (hf : F tb) : Ret P n_trans_Trans_Put [rp tb, y, .int .u64 x] w fun v w' => v = .int .i64 11 ∧ w' = w := by
  refine W_trans_Trans_Put ?_
  refine (c_TMayF h hf).mono ?_
  rintro _ w1 ⟨rfl, rfl⟩
  exact xifT rfl ⟨rfl, rfl⟩
theorem c_TDelF {y : Value} (h : TI B w wb n j V M F) (hf : F tb) : Ret P n_trans_Trans_Del [rp tb, y] w fun v w' => v = .tuple #[.bool false, .int .i64 11] ∧ w' = w := by
  refine W_trans_Trans_Del ?_
  refine (c_TMayF h hf).mono ?_
  rintro _ w1 ⟨rfl, rfl⟩
  exact xifT rfl ⟨rfl, rfl⟩
theorem c_TLenF (h : TI B w wb n j V M F) (hf : F tb) : Ret P n_trans_Trans_Len [rp tb] w fun v w' => v = .tuple #[.int .i64 0, .int .i64 11] ∧ w' = w := by
  refine W_trans_Trans_Len ?_
  refine (c_TMayF h hf).mono ?_
  rintro _ w1 ⟨rfl, rfl⟩
  exact xifT rfl ⟨rfl, rfl⟩
theorem c_TListF (h : TI B w wb n j V M F) (hf : F tb) : Ret P n_trans_Trans_List [rp tb] w fun v w' => v = .tuple #[.slice none 0 0, .int .i64 11] ∧ w' = w := by
  refine W_trans_Trans_List ?_
  refine (c_TMayF h hf).mono ?_
  rintro _ w1 ⟨rfl, rfl⟩
  exact xifT rfl ⟨rfl, rfl⟩
theorem c_TFreezeF (h : TI B w wb n j V M F) (hf : F tb) : Ret P n_trans_Trans_Freeze [rp tb] w fun v w' => v = .tuple #[.pointer none, .int .i64 11] ∧ w' = w := by
  refine W_trans_Trans_Freeze ?_
  refine (c_TMayF h hf).mono ?_
  rintro _ w1 ⟨rfl, rfl⟩
  exact xifT rfl ⟨rfl, rfl⟩
/-- freezing -/
theorem TP.freeze (h0 : TI B w2 wb n j V M F) (h : TP B w wb n j V M F tb) (hge : B ≤ tb) (hb : ∃ vb o t c, Blk w tb (trC vb o t c true) T_trans_Trans) : TI B w wb n j V (delM M tb) (fun b => b = tb ∨ F b) :=
  ⟨h.vi, fun tb' r' hr' => by
    unfold delM at hr'
    split at hr'
    · cases hr'
    · rename_i e; exact h.tr tb' r' hr' e, fun tb' hf => by
    by_cases e : tb' = tb
    · subst e; exact ⟨hge, hb⟩
    · exact h.fz tb' (hf.resolve_left e) e, fun tb' r' hr' b hb' => by
    unfold delM at hr'
    split at hr'
    · cases hr'
    · obtain ⟨h1, h2⟩ := h0.ap tb' r' hr' b hb'
      refine ⟨h1, fun tb2 r2 hr2 hne => ?_⟩
      unfold delM at hr2
      split at hr2
      · cases hr2
      · exact h2 tb2 r2 hr2 hne⟩
theorem c_TFreeze (h : TI B w wb n j V M F) (hr : M tb = some r) :
    Ret P n_trans_Trans_Freeze [rp tb] w fun v w' => VE B w w' ∧ ∃ vb', v = .tuple #[rp vb', .int .i64 0] ∧
      ((vb' = r.vb ∧ (∃ t0, V r.vb = some (t0, r.l) ∧ r.t.ptr = t0.ptr) ∧ TI B w' wb n j V (delM M tb) (fun b => b = tb ∨ F b)) ∨
       ((∀ t0 l0, V r.vb = some (t0, l0) → r.t.ptr ≠ t0.ptr) ∧ V vb' = none ∧ w.heap.size ≤ vb' ∧ TI B w' wb n j (updV V vb' (r.t, r.l)) (delM M tb) (fun b => b = tb ∨ F b))) := by
  have hT := h.tr tb r hr
  have hb := hT.blk
  have hfl := hT.fl h.vi
  obtain ⟨⟨t0, l0⟩, hv⟩ := Option.isSome_iff_exists.1 hT.frm
  refine W_trans_Trans_Freeze ?_
  refine (c_TMay h hr).mono ?_
  rintro _ w1 ⟨rfl, rfl⟩
  refine xifF rfl ?_
  refine hb.st (o := 4) (by simp) rfl fun w2 hb2 hz2 he2 => ?_
  have hb2 : Blk w2 tb (trC r.vb r.o r.t r.l.length true) T_trans_Trans := hb2
  have hTP2 := (h.part (tb := tb)).own1 hb hfl he2
  have hTI2 : TI B w2 wb n j V (delM M tb) (fun b => b = tb ∨ F b) := hTP2.freeze h hT.ge ⟨_, _, _, _, hb2⟩
  have hct2 := hT.ct.keepT hb hfl he2
  have hVE2 : VE B w1 w2 := TB.one (w0 := w2) hT.ge hfl hb he2
  have hd := Ext.drew (Ext.refl No w2)
  have hTI3 := hTI2.extN hd
  have hct3 := hct2.extN hd
  have hb3 := hb2.drew
  refine hb3.ld (o := 2) (v := r.t.v) rfl ?_
  refine hb3.ld (o := 0) (v := rp r.vb) rfl ?_
  refine (c_VRoot hTI3.vi hv).mono ?_
  rintro _ w3 ⟨rfl, rfl⟩
  refine ⟨xkeepV hb3 rfl, ?_⟩
  have hV3 := hTI3.vi.ver r.vb t0 l0 hv
  have hVE3 := hVE2.transN hd
  have eqC : r.t.ptr = t0.ptr → XLd w2.drew ((⟨tb, 0, none⟩ : Addr).add 0) fun v1013 => VE B w1 w2.drew ∧ ∃ vb', Value.tuple #[v1013, .int .i64 0] = .tuple #[rp vb', .int .i64 0] ∧
      ((vb' = r.vb ∧ (∃ t0, V r.vb = some (t0, r.l) ∧ r.t.ptr = t0.ptr) ∧ TI B w2.drew wb n j V (delM M tb) (fun b => b = tb ∨ F b)) ∨
       ((∀ t0 l0, V r.vb = some (t0, l0) → r.t.ptr ≠ t0.ptr) ∧ V vb' = none ∧ w1.heap.size ≤ vb' ∧ TI B w2.drew wb n j (updV V vb' (r.t, r.l)) (delM M tb) (fun b => b = tb ∨ F b))) := fun e => by
    refine hb3.ld (o := 0) (v := rp r.vb) rfl ?_
    have her := Tree.inj hct3.tree hV3.ct.tree e
    have hll : l0 = r.l := hV3.pr.rises.ext hT.pr.rises fun k => by rw [← hV3.ct.can.get k, ← hct3.can.get k, her]
    subst hll
    exact ⟨hVE3, r.vb, rfl, .inl ⟨rfl, ⟨t0, hv, e⟩, hTI3⟩⟩
  have neC : r.t.ptr ≠ t0.ptr → XLdN w2.drew.drew ((⟨tb, 0, none⟩ : Addr).add 0) 2 fun v1015 => XLd w2.drew.drew ((⟨tb, 0, none⟩ : Addr).add 2) fun v1017 => Ret P n_trans_base_world [v1015] w2.drew.drew fun v1018 w1019 => xKeep1 w1019 (.pointer (some ((⟨tb, 0, none⟩ : Addr).add 2))) v1017 ∧ Ret P n_tree_World_Version [v1018, v1017] w1019 fun v1020 w' => VE B w1 w' ∧ ∃ vb', Value.tuple #[v1020, .int .i64 0] = .tuple #[rp vb', .int .i64 0] ∧
      ((vb' = r.vb ∧ (∃ t0, V r.vb = some (t0, r.l) ∧ r.t.ptr = t0.ptr) ∧ TI B w' wb n j V (delM M tb) (fun b => b = tb ∨ F b)) ∨
       ((∀ t0 l0, V r.vb = some (t0, l0) → r.t.ptr ≠ t0.ptr) ∧ V vb' = none ∧ w1.heap.size ≤ vb' ∧ TI B w' wb n j (updV V vb' (r.t, r.l)) (delM M tb) (fun b => b = tb ∨ F b))) := fun e => by
    have hd4 := Ext.drew (Ext.refl No w2.drew)
    have hb4 := hb3.drew
    have hTI4 := hTI3.extN hd4
    refine hb4.ldN (o := 0) (n := 2) (by simp) ?_
    refine hb4.ld (o := 2) (v := r.t.v) rfl ?_
    refine (c_world (o := r.o) hTI4.vi hT.frm).mono ?_
    rintro _ w5 ⟨rfl, he5⟩
    have hb5 := hb4.ext he5 fun h => h
    have hTI5 := hTI4.extN he5
    have hct5 := (hct3.extN hd4).extN he5
    refine ⟨xkeepV hb5 rfl, ?_⟩
    refine (hTI5.vi.version hct5 hT.pr hT.own hTI5.vi.sizeB).mono ?_
    rintro _ w6 ⟨rfl, hI6, he6⟩
    have hTI6 := hTI5.extN he6
    have hVE5 := (hVE3.transN hd4).transN he5
    refine ⟨hVE5.transN he6, _, rfl, .inr ⟨fun t1 l1 hv1 => ?_, hTI5.vi.new, hVE5.size, hTI6.addV hI6 fun b hb' tb' r' hr' hx => ?_⟩⟩
    · rw [hv] at hv1
      obtain ⟨rfl, rfl⟩ := by simpa using hv1
      exact e
    · unfold delM at hr'
      split at hr'
      · cases hr'
      · rename_i hne
        exact (h.ap tb' r' hr' b hx).2 tb r hr (Ne.symm hne) hb'
  have ht := hV3.ct.tree
  have ht' := hct3.tree
  show xPtrs P w2.drew (.pointer r.t.ptr) (.pointer t0.ptr) _
  generalize r.t = t' at eqC neC ht' hct3
  cases t' with
  | nil =>
    cases t0 with
    | nil => exact xifT rfl (eqC rfl)
    | node => exact xifF rfl (neC (by simp [T.ptr]))
  | node a1 ow1 p1 v1 ks1 kids1 =>
    cases t0 with
    | nil => exact xifF rfl (neC (by simp [T.ptr]))
    | node a2 ow2 p2 v2 ks2 kids2 =>
      show XSame P w2.drew ⟨a1, 0, none⟩ ⟨a2, 0, none⟩ _
      obtain ⟨pv1, hb1, -⟩ := ht'.1.blk
      obtain ⟨pv2, hbb2, -⟩ := ht.1.blk
      by_cases e : a1 = a2
      · subst e
        refine xsame (run_sameAddr_same _ _) ?_
        exact xifT rfl (eqC rfl)
      · refine xsame (run_sameAddr_other _ (by simp [e]) hb1.h hbb2.h) ?_
        exact xifF rfl (neC (by simp [T.ptr, e]))
end
end Go.Proofs.YtlhjfenpmnejoaaGreat
