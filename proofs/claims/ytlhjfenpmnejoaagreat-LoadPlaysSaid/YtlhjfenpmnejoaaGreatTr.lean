/-  transients of a world's versions.  -/
import Derived.Test.YtlhjfenpmnejoaaGreatVer
namespace Go.Proofs.YtlhjfenpmnejoaaGreat
open Go Go.RowKit X
set_option linter.unusedSimpArgs false
set_option linter.unusedVariables false
set_option linter.unusedSectionVars false
variable [Floor]
abbrev trC (vb o : Nat) (t : T) (c : Int) (fz : Bool) : List Value := [rp vb, .int .u64 o, t.v, .int .i64 c, .bool fz]
theorem oth_trans : Oth T_trans_Trans := by unfold Oth; decide
/-- a transient that may be written to: its owner, its version, its tree, its pairs -/
structure TrR where
  o : Nat
  vb : Nat
  t : T
  l : Kv
def updM (M : Nat → Option TrR) (tb : Nat) (x : TrR) : Nat → Option TrR := fun b => if b = tb then some x else M b
theorem updM_same (M : Nat → Option TrR) (tb : Nat) (x : TrR) : updM M tb x tb = some x := by simp [updM]
theorem updM_other {M : Nat → Option TrR} {tb b : Nat} {x : TrR} (h : b ≠ tb) : updM M tb x b = M b := by simp [updM, h]
def delM (M : Nat → Option TrR) (tb : Nat) : Nat → Option TrR := fun b => if b = tb then none else M b
structure TB (B : Nat) (w : World) (j : Nat) (V : Nat → Option (T × Kv)) (tb : Nat) (r : TrR) : Prop where
  ge : B ≤ tb
  blk : Blk w tb (trC r.vb r.o r.t r.l.length false) T_trans_Trans
  frm : (V r.vb).isSome = true
  ct : Ct w r.t r.l
  pr : Pr r.l
  own : r.t.OwQ (· ≤ j)
  sep : r.t.Sep r.o
  up : r.t.Up r.o
  low : ∀ b, r.t.Foot r.o b → B ≤ b
  o0 : r.o ≠ 0
  oj : r.o ≤ j
/-- one that is frozen -/
structure FB (B : Nat) (w : World) (tb : Nat) : Prop where
  ge : B ≤ tb
  blk : ∃ vb o t c, Blk w tb (trC vb o t c true) T_trans_Trans
/-- no tree but its own has what a transient may write to -/
def Apart1 (V : Nat → Option (T × Kv)) (M : Nat → Option TrR) (tb : Nat) (r : TrR) : Prop := ∀ b, r.t.Foot r.o b → (∀ vb t l, V vb = some (t, l) → ¬ t.All b) ∧ ∀ tb' r', M tb' = some r' → tb' ≠ tb → ¬ r'.t.All b
/-- a world with versions and transients -/
structure TI (B : Nat) (w : World) (wb n j : Nat) (V : Nat → Option (T × Kv)) (M : Nat → Option TrR) (F : Nat → Prop) : Prop where
  vi : VI B w wb n j V
  tr : ∀ tb r, M tb = some r → TB B w j V tb r
  fz : ∀ tb, F tb → FB B w tb
  ap : ∀ tb r, M tb = some r → Apart1 V M tb r
section
variable {B : Nat} {w w1 w2 : World} {wb n j vb tb : Nat} {t : T} {l : Kv} {V : Nat → Option (T × Kv)} {M : Nat → Option TrR} {F : Nat → Prop} {r : TrR} {k : Key} {vk : Value} {x : Nat}
theorem TB.ext {Y : Nat → Prop} {j' : Nat} {V' : Nat → Option (T × Kv)} (h : TB B w j V tb r) (e : Ext Y w w1) (nb : NB w Y) (hb : ¬ Y tb) (ha : ∀ b, r.t.All b → ¬ Y b) (hj : j ≤ j') (hV : ∀ vb, (V vb).isSome = true → (V' vb).isSome = true) : TB B w1 j' V' tb r :=
  ⟨h.ge, h.blk.ext e hb, hV _ h.frm, h.ct.keep e nb ha, h.pr, h.own.mono fun o ho => by omega, h.sep, h.up, h.low, h.o0, by have := h.oj; omega⟩
theorem FB.ext {Y : Nat → Prop} (h : FB B w tb) (e : Ext Y w w1) (hb : ¬ Y tb) : FB B w1 tb := let ⟨vb, o, t, c, h1⟩ := h.blk; ⟨h.ge, vb, o, t, c, h1.ext e hb⟩
theorem TI.extN (h : TI B w wb n j V M F) (e : Ext No w w1) : TI B w1 wb n j V M F :=
  ⟨h.vi.extN e, fun tb r hr => (h.tr tb r hr).ext e (NB.no w) (fun h => h) (fun _ _ h => h) (Nat.le_refl _) fun _ h => h, fun tb hf => (h.fz tb hf).ext e fun h => h, h.ap⟩
theorem TB.ne {cs : List Value} {T : TypeId} {b : Nat} (h : TB B w j V tb r) (hb : Blk w b cs T) (hT : T_trans_Trans ≠ T) : tb ≠ b := fun e => by subst e; exact hT (h.blk.inj hb).2
theorem FB.ne {cs : List Value} {T : TypeId} {b : Nat} (h : FB B w tb) (hb : Blk w b cs T) (hT : T_trans_Trans ≠ T) : tb ≠ b := fun e => by obtain ⟨vb, o, t, c, h1⟩ := h.blk; subst e; exact hT (h1.inj hb).2
/-- another block is written, of no tree and no transient -/
theorem TI.other {b0 n' j' : Nat} {cs : List Value} {T : TypeId} (h : TI B w wb n j V M F) (hb : Blk w b0 cs T) (hT : T_trans_Trans ≠ T) (hoT : Oth T) (nb : NB w (· = b0)) (e : Ext (· = b0) w w1) (hI : VI B w1 wb n' j' V) (hj : j ≤ j') : TI B w1 wb n' j' V M F :=
  ⟨hI, fun tb r hr => (h.tr tb r hr).ext e nb ((h.tr tb r hr).ne hb hT) (fun b hb' e' => by have e' : b = b0 := e'; subst e'; exact (h.tr tb r hr).ct.tree.not hb hoT hb') hj fun _ h => h, fun tb hf => (h.fz tb hf).ext e ((h.fz tb hf).ne hb hT), h.ap⟩
theorem VI.nbW (h : VI B w wb n j V) : NB w (· = wb) := fun b hb hl => h.mt.nb b (show wb = b from hb.symm) hl
/-- the world's own block is written -/
theorem TI.step {n' j' : Nat} (h : TI B w wb n j V M F) (e : Ext (· = wb) w w1) (hm : Mt w1 (some (wmt wb j')) n') (hj : j ≤ j') : TI B w1 wb n' j' V M F :=
  h.other h.vi.wblk (by decide) oth_world h.vi.nbW e (h.vi.step e hm hj) hj
/-- a version more -/
theorem TI.addV (h : TI B w wb n j V M F) (hI : VI B w wb n j (updV V vb (t, l))) (ha : ∀ b, t.All b → ∀ tb r, M tb = some r → ¬ r.t.Foot r.o b) : TI B w wb n j (updV V vb (t, l)) M F :=
  ⟨hI, fun tb r hr => let h1 := h.tr tb r hr; ⟨h1.ge, h1.blk, by
    by_cases e : r.vb = vb
    · rw [e, updV_same]; rfl
    · rw [updV_other e]; exact h1.frm, h1.ct, h1.pr, h1.own, h1.sep, h1.up, h1.low, h1.o0, h1.oj⟩, h.fz, fun tb r hr b hb => ⟨fun vb' t' l' hv' => by
    by_cases e : vb' = vb
    · subst e
      rw [updV_same] at hv'
      obtain ⟨rfl, rfl⟩ := by simpa using hv'
      exact fun hb' => ha b hb' tb r hr hb
    · rw [updV_other e] at hv'
      exact (h.ap tb r hr b hb).1 vb' t' l' hv', (h.ap tb r hr b hb).2⟩⟩
/-- what is left of it without one transient -/
structure TP (B : Nat) (w : World) (wb n j : Nat) (V : Nat → Option (T × Kv)) (M : Nat → Option TrR) (F : Nat → Prop) (tb : Nat) : Prop where
  vi : VI B w wb n j V
  tr : ∀ tb' r', M tb' = some r' → tb' ≠ tb → TB B w j V tb' r'
  fz : ∀ tb', F tb' → tb' ≠ tb → FB B w tb'
theorem TI.part (h : TI B w wb n j V M F) : TP B w wb n j V M F tb := ⟨h.vi, fun _ _ h1 _ => h.tr _ _ h1, fun _ h1 _ => h.fz _ h1⟩
theorem TP.extN (h : TP B w wb n j V M F tb) (e : Ext No w w1) : TP B w1 wb n j V M F tb :=
  ⟨h.vi.extN e, fun tb' r' hr hne => (h.tr tb' r' hr hne).ext e (NB.no w) (fun h => h) (fun _ _ h => h) (Nat.le_refl _) fun _ h => h, fun tb' hf hne => (h.fz tb' hf hne).ext e fun h => h⟩
theorem nb_trans {cs : List Value} (hb : Blk w tb cs T_trans_Trans) (hfl : Floor.n ≤ tb) : NB w (· = tb) := fun b hb' _ => by
  have e : b = tb := hb'
  subst e
  exact ⟨hfl, _, _, hb, by decide⟩
theorem VI.trans1 {cs : List Value} (h : VI B w wb n j V) (hb : Blk w tb cs T_trans_Trans) (hfl : Floor.n ≤ tb) (e : Ext (· = tb) w w1) : VI B w1 wb n j V := by
  have hnt : ∀ {t' : T}, Tree w t' → ∀ b', t'.All b' → ¬ b' = tb := fun ht b' hb' e' => by subst e'; exact ht.not hb oth_trans hb'
  refine ⟨h.lw.ext e fun b hb => by have e : b = tb := hb; subst e; exact hfl, h.fl, h.mt.ext e fun b hb' he => ?_, h.ge, fun vb t l hv => ?_⟩
  · have e1 : wb = b := hb'
    have e2 : b = tb := he
    subst e1; subst e2
    exact absurd (hb.inj h.wblk).2 (by decide)
  · have hV := h.ver vb t l hv
    obtain ⟨d, c, b, h1, -⟩ := hV.blk
    exact hV.ext e (nb_trans hb hfl) (fun e' => by have e' : vb = tb := e'; subst e'; exact absurd (h1.inj hb).2 (by decide)) (hnt hV.ct.tree) (Nat.le_refl _)
/-- the transient's own block is written -/
theorem TP.own1 {cs : List Value} (h : TP B w wb n j V M F tb) (hb : Blk w tb cs T_trans_Trans) (hfl : Floor.n ≤ tb) (e : Ext (· = tb) w w1) : TP B w1 wb n j V M F tb :=
  ⟨h.vi.trans1 hb hfl e, fun tb' r' hr hne => (h.tr tb' r' hr hne).ext e (nb_trans hb hfl) hne (fun b' hb' e' => by have e' : b' = tb := e'; subst e'; exact (h.tr tb' r' hr hne).ct.tree.not hb oth_trans hb') (Nat.le_refl _) fun _ h => h, fun tb' hf hne => (h.fz tb' hf hne).ext e hne⟩
/-- what a transient's operation writes: the meter, and what it owns -/
theorem TI.write {n' : Nat} (h : TI B w wb n j V M F) (hr : M tb = some r) (e : Ext (fun b => MX (some (wmt wb j)) b ∨ r.t.Foot r.o b) w w1) (hm : Mt w1 (some (wmt wb j)) n') :
    TP B w1 wb n' j V M F tb ∧ Blk w1 tb (trC r.vb r.o r.t r.l.length false) T_trans_Trans ∧ VE B w w1 := by
  have hT := h.tr tb r hr
  have hnb : NB w fun b => MX (some (wmt wb j)) b ∨ r.t.Foot r.o b := (FX.nbp (o := r.o) hT.ct.tree h.vi.mt).b
  have hX : ∀ {b cs T}, Blk w b cs T → T ≠ T_meter_Meter → T ≠ T_tree_World → Oth T → ¬ (MX (some (wmt wb j)) b ∨ r.t.Foot r.o b) := fun {b cs T} hb h1 h2 hT' hx => hx.elim (h.vi.mt.ne hb ⟨h1, h2⟩) fun hx => hT.ct.tree.not hb hT' hx.all
  have hA : ∀ {t' : T}, Tree w t' → (∀ b, r.t.Foot r.o b → ¬ t'.All b) → ∀ b, t'.All b → ¬ (MX (some (wmt wb j)) b ∨ r.t.Foot r.o b) := fun {t'} ht hd b hb hx => hx.elim (fun hx => by
    have e : wb = b := hx
    subst e
    exact ht.not h.vi.wblk oth_world hb) fun hx => hd b hx hb
  refine ⟨⟨⟨h.vi.lw.fx hT.ct.tree h.vi.mt e, h.vi.fl, hm, h.vi.ge, fun vb t l hv => ?_⟩, fun tb' r' hr' hne => ?_, fun tb' hf hne => ?_⟩, hT.blk.ext e (hX hT.blk (by decide) (by decide) oth_trans), VE.of e ?_ fun b hb => ?_⟩
  · have hV := h.vi.ver vb t l hv
    obtain ⟨d, c, b, h1, -⟩ := hV.blk
    exact hV.ext e hnb (hX h1 (by decide) (by decide) oth_ver) (hA hV.ct.tree fun b hb => (h.ap tb r hr b hb).1 vb t l hv) (Nat.le_refl _)
  · have h1 := h.tr tb' r' hr'
    exact h1.ext e hnb (hX h1.blk (by decide) (by decide) oth_trans) (hA h1.ct.tree fun b hb => (h.ap tb r hr b hb).2 tb' r' hr' hne) (Nat.le_refl _) fun _ h => h
  · have h1 := h.fz tb' hf
    obtain ⟨vb, o, t, c, h2⟩ := h1.blk
    exact h1.ext e (hX h2 (by decide) (by decide) oth_trans)
  · intro b hb hl
    rcases hb with hb | hb
    · have e : wb = b := hb
      subst e
      exact ⟨Nat.le_trans h.vi.fl h.vi.ge, _, _, h.vi.wblk, .inl rfl⟩
    · obtain ⟨cs, T', h1, h2⟩ := hT.ct.tree.ty hb.all
      exact ⟨hT.ct.tree.fl hb.all, cs, T', h1, .inr (.inr (.inr h2))⟩
  · rcases hb with hb | hb
    · have e : wb = b := hb
      subst e
      exact h.vi.ge
    · exact hT.low b hb
end
section
variable {B : Nat} {w w1 w2 : World} {wb n j vb tb : Nat} {t : T} {l : Kv} {V : Nat → Option (T × Kv)} {M : Nat → Option TrR} {F : Nat → Prop} {r : TrR} {k : Key} {vk : Value} {x : Nat}
theorem TI.drew (h : TI B w wb n j V M F) : TI B w.drew wb n j V M F := h.extN (Ext.drew (Ext.refl No w))
theorem TB.fl (h : TB B w j V tb r) (hI : VI B w wb n j V) : Floor.n ≤ tb := Nat.le_trans hI.fl h.ge
/-- a transient is begun -/
theorem c_Edit (h : TI B w wb n j V M F) (hv : V vb = some (t, l)) (hj : j + 1 < 18446744073709551616) :
    Ret P n_trans_Edit [rp vb] w fun v w' => ∃ tb, v = .tuple #[rp tb, .int .i64 0] ∧ w.heap.size ≤ tb ∧ TI B w' wb n (j + 1) V (updM M tb ⟨j + 1, vb, t, l⟩) F ∧ VE B w w' := by
  refine W_trans_Edit ?_
  refine (c_VWorld h.vi hv).mono ?_
  rintro _ w1 ⟨rfl, rfl⟩
  refine xifF rfl ?_
  refine (c_VWorld h.vi hv).mono ?_
  rintro _ w2 ⟨rfl, rfl⟩
  refine (c_WOwner h.vi.mt hj).mono ?_
  rintro _ w3 ⟨rfl, hm3, he3⟩
  have hI3 := h.step he3 hm3 (Nat.le_succ j)
  have hE3 : VE B w2 w3 := h.vi.stepE he3
  refine (c_VRoot hI3.vi hv).mono ?_
  rintro _ w4 ⟨rfl, rfl⟩
  have hV4 := hI3.vi.ver vb t l hv
  obtain ⟨d, c, b, hb4, -⟩ := hV4.blk
  refine (c_VLenX hI3.vi hv).mono ?_
  rintro _ w5 ⟨rfl, hI5, hE5, he5⟩
  have hT5 := hI3.other hb4 (by decide) oth_ver (hI3.vi.nbV hv) he5 hI5 (Nat.le_refl _)
  have hE35 := hE3.trans hE5
  show XNew w5 [rp vb, .int .u64 (j + 1 : Nat), t.v, .int .i64 l.length, .bool false] T_trans_Trans _
  refine xnew fun tb w6 htb hblk hz he6 => ?_
  have hT6 := hT5.extN he6
  have hV6 := hT6.vi.ver vb t l hv
  have hfree : t.Free (j + 1) := ((h.vi.ver vb t l hv).own.mono fun o ho => by omega).free
  have hsz := hE35.size
  refine ⟨tb, rfl, by omega, ⟨hT6.vi, fun tb' r' hr' => ?_, hT6.fz, fun tb' r' hr' b hb => ?_⟩, hE35.transN he6⟩
  · by_cases e : tb' = tb
    · subst e
      rw [updM_same] at hr'
      obtain rfl := Option.some.inj hr'
      have hB := hT5.vi.sizeB
      exact ⟨by omega, hblk, by rw [hv]; rfl, hV6.ct, hV6.pr, hV6.own, hfree.sep, hfree.up, fun b hb => (hfree.foot b hb).elim, Nat.succ_ne_zero j, Nat.le_refl _⟩
    · rw [updM_other e] at hr'
      exact hT6.tr tb' r' hr'
  · by_cases e : tb' = tb
    · subst e
      rw [updM_same] at hr'
      obtain rfl := Option.some.inj hr'
      exact (hfree.foot b hb).elim
    · rw [updM_other e] at hr'
      obtain ⟨h1, h2⟩ := hT6.ap tb' r' hr' b hb
      refine ⟨h1, fun tb2 r2 hr2 hne => ?_⟩
      by_cases e2 : tb2 = tb
      · subst e2
        rw [updM_same] at hr2
        obtain rfl := Option.some.inj hr2
        exact h1 vb t l hv
      · rw [updM_other e2] at hr2
        exact h2 tb2 r2 hr2 hne
theorem c_TMay (h : TI B w wb n j V M F) (hr : M tb = some r) : Ret P n_trans_Trans_may [rp tb] w fun v w' => v = .int .i64 0 ∧ w' = w := by
  have hb := (h.tr tb r hr).blk
  refine W_trans_Trans_may ?_
  refine xj (fun vs w' => vs = [.bool false] ∧ w = w') ?_ ?_
  · refine xifF rfl ?_
    refine hb.ld (o := 0) (v := rp r.vb) rfl ?_
    exact ⟨rfl, rfl⟩
  rintro vs g w1 ⟨rfl, rfl⟩
  refine xifF rfl ?_
  refine hb.ld (o := 4) (v := .bool false) rfl ?_
  exact xifF rfl ⟨rfl, rfl⟩
theorem c_TMayF (h : TI B w wb n j V M F) (hf : F tb) : Ret P n_trans_Trans_may [rp tb] w fun v w' => v = .int .i64 11 ∧ w' = w := by
  obtain ⟨vb, o, t, c, hb⟩ := (h.fz tb hf).blk
  refine W_trans_Trans_may ?_
  refine xj (fun vs w' => vs = [.bool false] ∧ w = w') ?_ ?_
  · refine xifF rfl ?_
    refine hb.ld (o := 0) (v := rp vb) rfl ?_
    exact ⟨rfl, rfl⟩
  rintro vs g w1 ⟨rfl, rfl⟩
  refine xifF rfl ?_
  refine hb.ld (o := 4) (v := .bool true) rfl ?_
  exact xifT rfl ⟨rfl, rfl⟩
theorem c_mine {vb o : Nat} : Ret P n_trans_base_mine [.agg #[rp vb, .int .u64 o]] w fun v w' => v = .int .u64 o ∧ Ext No w w' := by
  refine W_trans_base_mine ?_
  refine xnew fun b w1 hb hblk hz he => ?_
  have hblk : Blk w1 b [rp vb, .int .u64 o] T_trans_base := hblk
  exact hblk.ld (o := 1) (v := .int .u64 o) rfl ⟨rfl, he⟩
theorem c_world {o : Nat} (h : VI B w wb n j V) (hv : (V vb).isSome = true) : Ret P n_trans_base_world [.agg #[rp vb, .int .u64 o]] w fun v w' => v = rp wb ∧ Ext No w w' := by
  obtain ⟨⟨t, l⟩, hv⟩ := Option.isSome_iff_exists.1 hv
  refine W_trans_base_world ?_
  refine xnew fun b w1 hb hblk hz he => ?_
  have hblk : Blk w1 b [rp vb, .int .u64 o] T_trans_base := hblk
  refine hblk.ld (o := 0) (v := rp vb) rfl ?_
  refine (c_VWorld (h.extN he) hv).mono ?_
  rintro _ w2 ⟨rfl, rfl⟩
  exact ⟨rfl, he⟩
theorem insK_len {l : Kv} (h : Rises l) (k : Key) (x : Nat) : (insK l k x).length = l.length + if (look l k).isSome then 0 else 1 := by
  induction l with
  | nil => rfl
  | cons p r ih =>
    obtain ⟨h1, h2⟩ := List.pairwise_cons.1 h
    have hlk : look (p :: r) k = if p.1 = k then some p.2 else look r k := rfl
    rw [insK]
    split
    · rename_i hlt
      have hne : p.1 ≠ k := fun e => by rw [e] at hlt; exact klt_irr hlt
      rw [hlk, if_neg hne, List.length_cons, List.length_cons, ih h2]
      omega
    · split
      · rename_i e
        rw [hlk, if_pos e]
        simp
      · rename_i hn hne
        have : look r k = none := look_none.2 fun q hq e => by
          have h3 := h1 q hq
          have e' : q.1 = k := e
          rw [e'] at h3
          exact hn h3
        rw [hlk, if_neg hne, this]
        simp
theorem dropK_len {l : Kv} (h : Rises l) (k : Key) : (dropK k l).length + (if (look l k).isSome then 1 else 0) = l.length := by
  induction l with
  | nil => rfl
  | cons p r ih =>
    obtain ⟨h1, h2⟩ := List.pairwise_cons.1 h
    have hlk : look (p :: r) k = if p.1 = k then some p.2 else look r k := rfl
    have ih := ih h2
    unfold dropK at ih ⊢
    rw [List.filter_cons]
    by_cases e : p.1 = k
    · have hn : look r k = none := look_none.2 fun q hq e' => by
        have h3 := h1 q hq
        rw [e, e'] at h3
        exact klt_irr h3
      rw [hn] at ih
      rw [if_neg (by simp [e]), hlk, if_pos e]
      simp at ih ⊢
      omega
    · rw [if_pos (by simp [e]), hlk, if_neg e]
      simp only [List.length_cons]
      omega
/-- one transient's tree, anew -/
theorem TP.put {t' : T} {l' : Kv} (h : TP B w wb n j V M F tb) (hb : Blk w tb (trC r.vb r.o t' l'.length false) T_trans_Trans) (h0 : TB B w2 j V tb r) (hct : Ct w t' l') (hpr : Pr l') (how : t'.OwQ (· ≤ j)) (hsep : t'.Sep r.o) (hup : t'.Up r.o)
    (hlow : ∀ b, t'.Foot r.o b → B ≤ b) (hap : Apart1 V M tb ⟨r.o, r.vb, t', l'⟩) (hoth : ∀ tb' r', M tb' = some r' → tb' ≠ tb → Apart1 V M tb' r' ∧ ∀ b, r'.t.Foot r'.o b → ¬ t'.All b) (hf : ¬ F tb) :
    TI B w wb n j V (updM M tb ⟨r.o, r.vb, t', l'⟩) F :=
  ⟨h.vi, fun tb' r' hr' => by
    by_cases e : tb' = tb
    · subst e
      rw [updM_same] at hr'
      obtain rfl := Option.some.inj hr'
      exact ⟨h0.ge, hb, h0.frm, hct, hpr, how, hsep, hup, hlow, h0.o0, h0.oj⟩
    · rw [updM_other e] at hr'
      exact h.tr tb' r' hr' e, fun tb' hf' => h.fz tb' hf' fun e => hf (e ▸ hf'), fun tb' r' hr' b hb' => by
    by_cases e : tb' = tb
    · subst e
      rw [updM_same] at hr'
      obtain rfl := Option.some.inj hr'
      obtain ⟨h1, h2⟩ := hap b hb'
      exact ⟨h1, fun tb2 r2 hr2 hne => by rw [updM_other hne] at hr2; exact h2 tb2 r2 hr2 hne⟩
    · rw [updM_other e] at hr'
      obtain ⟨h1, h2⟩ := hoth tb' r' hr' e
      obtain ⟨h3, h4⟩ := h1 b hb'
      refine ⟨h3, fun tb2 r2 hr2 hne => ?_⟩
      by_cases e2 : tb2 = tb
      · subst e2
        rw [updM_same] at hr2
        obtain rfl := Option.some.inj hr2
        exact h2 b hb'
      · rw [updM_other e2] at hr2
        exact h4 tb2 r2 hr2 hne⟩
/-- .. and what an operation made of it -/
theorem TP.res {t' : T} {l' : Kv} {n0 : Nat} (h0 : TI B w2 wb n0 j V M F) (hr : M tb = some r) (hR : ∀ b, t'.All b → r.t.All b ∨ w2.heap.size ≤ b) (hF : ∀ b, t'.Foot r.o b → r.t.Foot r.o b ∨ w2.heap.size ≤ b)
    (h : TP B w wb n j V M F tb) (hb : Blk w tb (trC r.vb r.o t' l'.length false) T_trans_Trans) (hct : Ct w t' l') (hpr : Pr l') (how : t'.OwQ (· ≤ j)) (hsep : t'.Sep r.o) (hup : t'.Up r.o) (hf : ¬ F tb) :
    TI B w wb n j V (updM M tb ⟨r.o, r.vb, t', l'⟩) F := by
  have hT := h0.tr tb r hr
  have hlt : ∀ {t : T}, Tree w2 t → ∀ b, w2.heap.size ≤ b → ¬ t.All b := fun ht b hb hx => by have := ht.lt hx; omega
  refine h.put hb hT hct hpr how hsep hup (fun b hb => (hF b hb).elim (hT.low b) fun h => by have := h0.vi.sizeB; omega) (fun b hb => ?_) (fun tb' r' hr' hne => ⟨h0.ap tb' r' hr', fun b hb hx => ?_⟩) hf
  · rcases hF b hb with h1 | h1
    · exact h0.ap tb r hr b h1
    · exact ⟨fun vb t l hv => hlt (h0.vi.ver vb t l hv).ct.tree b h1, fun tb' r' hr' _ => hlt (h0.tr tb' r' hr').ct.tree b h1⟩
  · rcases hR b hx with h1 | h1
    · exact (h0.ap tb' r' hr' b hb).2 tb r hr (Ne.symm hne) h1
    · exact hlt (h0.tr tb' r' hr').ct.tree b h1 hb.all
theorem TI.notF (h : TI B w wb n j V M F) (hr : M tb = some r) : ¬ F tb := fun hf => by
  obtain ⟨vb, o, t, c, hb⟩ := (h.fz tb hf).blk
  have := (hb.inj (h.tr tb r hr).blk).1
  simp at this
end
end Go.Proofs.YtlhjfenpmnejoaaGreat
