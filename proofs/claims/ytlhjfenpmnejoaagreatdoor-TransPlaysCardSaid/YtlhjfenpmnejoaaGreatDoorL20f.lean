/-  law20: TransPlays: what a world does.  -/
import Derived.Test.YtlhjfenpmnejoaaGreatDoorL20e
namespace Go.Proofs.YtlhjfenpmnejoaaGreatDoor
open Go Go.RowKit X
set_option linter.unusedSimpArgs false
set_option linter.unusedVariables false
set_option linter.unusedSectionVars false
variable [Floor]
namespace law20
/-- what stays as it is -/
structure FrW (B : Nat) (w w' : World) : Prop where
  st : ∀ w0 : World, Ext No w0 w → w0.heap.size ≤ B → Ext No w0 w'
  blk : ∀ {b : Nat} {cs : List Value}, Blk w b cs T_law20_Step → Blk w' b cs T_law20_Step
  bs : ∀ {v : Value} {k : Key}, Bs w v k → Bs w' v k
  ps : ∀ {v : Value} {l : Kv}, Ps w v l → Ps w' v l
/-- .. and versions and transients too -/
structure FrT (B : Nat) (w w' : World) : Prop where
  fr : FrW B w w'
  ti : ∀ {wb n j : Nat} {V : Nat → Option (T × Kv)} {M : Nat → Option TrR} {F : Nat → Prop}, TI B w wb n j V M F → TI B w' wb n j V M F
section
variable {B : Nat} {w w1 w2 : World} {Ty : TypeId}
theorem FrW.trans (h : FrW B w w1) (k : FrW B w1 w2) : FrW B w w2 := ⟨fun w0 e hB => k.st w0 (h.st w0 e hB) hB, fun hb => k.blk (h.blk hb), fun hb => k.bs (h.bs hb), fun hb => k.ps (h.ps hb)⟩
theorem FrW.no (e : Ext No w w1) : FrW B w w1 := ⟨fun w0 e0 _ => e0.transN e, fun hb => hb.ext e fun h => h, fun hb => hb.extN e, fun hb => hb.extN e⟩
theorem FrW.ve (e : VE B w w1) : FrW B w w1 := ⟨fun w0 e0 hB => e.start e0 hB, fun hb => e.blk hb (by unfold VTy KT; decide), fun hb => e.bs hb, fun hb => e.ps hb⟩
theorem FrT.trans (h : FrT B w w1) (k : FrT B w1 w2) : FrT B w w2 := ⟨h.fr.trans k.fr, fun hi => k.ti (h.ti hi)⟩
theorem FrT.no (e : Ext No w w1) : FrT B w w1 := ⟨FrW.no e, fun hi => hi.extN e⟩
theorem FrT.ow (h : OW B Ty w w1) (hfl : Floor.n ≤ B) (h1 : Ty ≠ T_uint8) (h2 : Ty ≠ T_api_Pair) (h3 : Ty ≠ T_ref01_Pair) (h4 : T_law20_Step ≠ Ty) (h5 : T_trans_Trans ≠ Ty) (h6 : T_tree_World ≠ Ty) (h7 : T_tree_Version ≠ Ty) (ho : Oth Ty) : FrT B w w1 :=
  ⟨⟨h.st, fun hb => h.blk hb h4, fun hb => h.bs hfl h1 hb, fun hb => h.ps hfl h1 h2 h3 hb⟩, fun hi => h.ti hfl h1 h5 h6 h7 ho hi⟩
theorem FrT.owV (h : OW B T_p_tree_Version w w1) (hfl : Floor.n ≤ B) : FrT B w w1 := FrT.ow h hfl (by decide) (by decide) (by decide) (by decide) (by decide) (by decide) (by decide) (by unfold Oth; decide)
theorem FrT.owP (h : OW B T_s_ref01_Pair w w1) (hfl : Floor.n ≤ B) : FrT B w w1 := FrT.ow h hfl (by decide) (by decide) (by decide) (by decide) (by decide) (by decide) (by decide) (by unfold Oth; decide)
theorem FrT.owT (h : OW B T_p_trans_Trans w w1) (hfl : Floor.n ≤ B) : FrT B w w1 := FrT.ow h hfl (by decide) (by decide) (by decide) (by decide) (by decide) (by decide) (by decide) (by unfold Oth; decide)
theorem FrT.owQ (h : OW B T_ref20_Trans w w1) (hfl : Floor.n ≤ B) : FrT B w w1 := FrT.ow h hfl (by decide) (by decide) (by decide) (by decide) (by decide) (by decide) (by decide) (by unfold Oth; decide)
theorem FrT.owW (h : OW B T_law20_world w w1) (hfl : Floor.n ≤ B) : FrT B w w1 := FrT.ow h hfl (by decide) (by decide) (by decide) (by decide) (by decide) (by decide) (by decide) (by unfold Oth; decide)
end
section
variable {w w' : World} {B xb a a2 b : Nat} {c0 c1 c2 c3 vv vp vt vw x : Value} {vbs : List Nat} {ls : List Kv} {tbs : List Nat} {ms : List RT} {l : Kv} {f : Bool}
theorem MW.stV {K : World → Prop} (h : MW w B xb c0 c1 c2 c3 vv vp vt vw vbs ls tbs ms) (k : ∀ w', MW w' B xb vv c1 c2 c3 vv vp vt vw vbs ls tbs ms → FrT B w w' → K w') : XSt w ((⟨xb, 0, none⟩ : Addr).add 0) vv K :=
  h.blk.st (o := 0) (by simp) (Own.one1 h.v) fun w' hb _ he => let ⟨h1, h2⟩ := h.wr (d0 := vv) (d1 := c1) (d2 := c2) (d3 := c3) hb he; k w' h1 (FrT.owW h2 h.fl)
theorem MW.stP {K : World → Prop} (h : MW w B xb c0 c1 c2 c3 vv vp vt vw vbs ls tbs ms) (k : ∀ w', MW w' B xb c0 vp c2 c3 vv vp vt vw vbs ls tbs ms → FrT B w w' → K w') : XSt w ((⟨xb, 0, none⟩ : Addr).add 1) vp K :=
  h.blk.st (o := 1) (by simp) (let ⟨_, ho, _⟩ := h.p; Own.one1 ho) fun w' hb _ he => let ⟨h1, h2⟩ := h.wr (d0 := c0) (d1 := vp) (d2 := c2) (d3 := c3) hb he; k w' h1 (FrT.owW h2 h.fl)
theorem MW.stT {K : World → Prop} (h : MW w B xb c0 c1 c2 c3 vv vp vt vw vbs ls tbs ms) (k : ∀ w', MW w' B xb c0 c1 vt c3 vv vp vt vw vbs ls tbs ms → FrT B w w' → K w') : XSt w ((⟨xb, 0, none⟩ : Addr).add 2) vt K :=
  h.blk.st (o := 2) (by simp) (Own.one1 h.t) fun w' hb _ he => let ⟨h1, h2⟩ := h.wr (d0 := c0) (d1 := c1) (d2 := vt) (d3 := c3) hb he; k w' h1 (FrT.owW h2 h.fl)
theorem MW.stQ {K : World → Prop} (h : MW w B xb c0 c1 c2 c3 vv vp vt vw vbs ls tbs ms) (k : ∀ w', MW w' B xb c0 c1 c2 vw vv vp vt vw vbs ls tbs ms → FrT B w w' → K w') : XSt w ((⟨xb, 0, none⟩ : Addr).add 3) vw K :=
  h.blk.st (o := 3) (by simp) (let ⟨_, ho, _⟩ := h.q; Own.one1 ho) fun w' hb _ he => let ⟨h1, h2⟩ := h.wr (d0 := c0) (d1 := c1) (d2 := c2) (d3 := vw) hb he; k w' h1 (FrT.owW h2 h.fl)
/-- pairs are appended, and the rows of versions and of pairs are kept in the world's block -/
theorem MW.tailP {K : World → Prop} {vv0 : Value} (h : MW w B xb vv0 vp c2 c3 vv vp vt vw vbs ls tbs ms) (hb : Blk w a [x] T_s_ref01_Pair) (hx : Ps w x l) (hn : ls.length ≤ 1000)
    (k : ∀ vp' w', MW w' B xb vv vp' c2 c3 vv vp' vt vw vbs (ls ++ [l]) tbs ms → FrT B w w' → K w') :
    XRun P (Builtin.append_ #[T_s_s_ref01_Pair, T_s_s_ref01_Pair] T_s_s_ref01_Pair #[vp, .slice (some ⟨a, 0, none⟩) 1 1]) w fun vp' w' => XSt w' ((⟨xb, 0, none⟩ : Addr).add 0) vv fun w2 => XSt w2 ((⟨xb, 0, none⟩ : Addr).add 1) vp' K := by
  refine h.appP hb hx hn fun vp' w1 h1 hO1 => ?_
  refine h1.stV fun w2 h2 f2 => ?_
  exact h2.stP fun w3 h3 f3 => k vp' w3 h3 (((FrT.owP hO1 h.fl).trans f2).trans f3)
/-- a version and its pairs are appended -/
theorem MW.both {K : World → Prop} (h : MW w B xb vv vp c2 c3 vv vp vt vw vbs ls tbs ms) (hbv : Blk w a [rp b] T_p_tree_Version) (hb : Blk w a2 [x] T_s_ref01_Pair) (hx : Ps w x l) (hn : ls.length ≤ 1000) (hnv : vbs.length ≤ 1000)
    (k : ∀ vv' vp' w', MW w' B xb vv' vp' c2 c3 vv' vp' vt vw (vbs ++ [b]) (ls ++ [l]) tbs ms → FrT B w w' → K w') :
    XRun P (Builtin.append_ #[T_s_p_tree_Version, T_s_p_tree_Version] T_s_p_tree_Version #[vv, .slice (some ⟨a, 0, none⟩) 1 1]) w fun vv' w1 => xKeep1 w1 (.pointer (some ((⟨xb, 0, none⟩ : Addr).add 1))) vp ∧ 
      XRun P (Builtin.append_ #[T_s_s_ref01_Pair, T_s_s_ref01_Pair] T_s_s_ref01_Pair #[vp, .slice (some ⟨a2, 0, none⟩) 1 1]) w1 fun vp' w' => XSt w' ((⟨xb, 0, none⟩ : Addr).add 0) vv' fun w2 => XSt w2 ((⟨xb, 0, none⟩ : Addr).add 1) vp' K := by
  refine h.appV hbv hnv fun vv' w1 h1 hO1 => ?_
  have f1 := FrT.owV hO1 h.fl
  refine ⟨xkeepV h1.blk rfl, ?_⟩
  exact h1.tailP (hO1.blk hb (by decide)) (f1.fr.ps hx) hn fun vp' w2 h2 f2 => k vv' vp' w2 h2 (f1.trans f2)
/-- an element of the document's transients is written, out of a block of the call's own -/
theorem MW.setL {K : World → Prop} {kd : IntKind} {i : Int} (h : MW w B xb c0 c1 c2 vw vv vp vt vw vbs ls tbs ms) (hb : Blk w a [x, .bool f] T_ref20_Trans) (m : Nat) (hi : i = (m : Int)) (hm : m < ms.length) (hx : Ps w x l)
    (k : ∀ w1, MW w1 B xb c0 c1 c2 vw vv vp vt vw vbs ls tbs (ms.set m (l, f)) → FrT B w w1 → K w1) :
    XLd w.drew ((⟨xb, 0, none⟩ : Addr).add 3) fun v => XLdN w.drew ⟨a, 0, none⟩ 2 fun y => xIxS v (.int kd i) 2 fun u => xAt u fun a => XDo P (storeVar T_ref20_Trans a y) w.drew K := by
  have hd := Ext.drew (Ext.refl No w)
  have hM := h.extN hd
  refine hM.blk.ld (o := 3) rfl ?_
  refine hb.drew.ldA rfl ?_
  exact hM.setQ m hi hm (hx.extN hd) fun w1 h1 hO => k w1 h1 ((FrT.no hd).trans (FrT.owQ hO h.fl))
/-- a block of the call's own is made and written -/
theorem loc_rt {K : Addr → World → Prop} (hx : Ps w x l) (k : ∀ a w', Blk w' a [x, .bool f] T_ref20_Trans → Ext No w w' → K ⟨a, 0, none⟩ w') :
    XNew w [.slice none 0 0, .bool false] T_ref20_Trans fun a w1 => XDo P (storeVar T_ref20_Trans a (.agg #[x, .bool f])) w1 fun w2 => K a w2 := by
  refine xnew fun a3 w3 ha3 hb3 hz3 he3 => ?_
  refine xstoreVar (vs := [x, .bool f]) hb3 (by kernel_rfl) (by simp) (fun u hu => by simp only [List.mem_cons, List.mem_nil_iff, or_false] at hu; exact hu.elim (fun e => e ▸ hx.one1) fun e => e ▸ rfl) fun w4 hb4 hz4 he4 => ?_
  exact k a3 w4 (by simpa using hb4) (he3.trans1 he4 (by omega))
end
theorem nodup_ix {L : List Nat} (h : L.Nodup) {m j a : Nat} (h1 : L[m]? = some a) (h2 : L[j]? = some a) : m = j := by
  obtain ⟨hm, e1⟩ := List.getElem?_eq_some_iff.1 h1
  obtain ⟨hj, e2⟩ := List.getElem?_eq_some_iff.1 h2
  rcases Nat.lt_trichotomy m j with c | c | c
  · exact absurd (e1.trans e2.symm) (List.pairwise_iff_getElem.1 h m j hm hj c)
  · exact c
  · exact absurd (e2.trans e1.symm) (List.pairwise_iff_getElem.1 h j m hj hm c)
/-- versions and transients, and the document's -/
structure WI (B : Nat) (w : World) (wb n j : Nat) (V : Nat → Option (T × Kv)) (M : Nat → Option TrR) (F : Nat → Prop) (xb : Nat) (vbs : List Nat) (ls : List Kv) (tbs : List Nat) (ms : List RT) : Prop where
  ti : TI B w wb n j V M F
  mw : ∃ vv vp vt vw, MW w B xb vv vp vt vw vv vp vt vw vbs ls tbs ms
  ver : ∀ (m vb : Nat) (l : Kv), vbs[m]? = some vb → ls[m]? = some l → ∃ t, V vb = some (t, l)
  tr : ∀ (m tb : Nat) (y : RT), tbs[m]? = some tb → ms[m]? = some y → (y.2 = true → F tb) ∧ (y.2 = false → ∃ r, M tb = some r ∧ r.l = y.1)
  nod : tbs.Nodup
  lv : vbs.length = ls.length
  lt : tbs.length = ms.length
  pos : 0 < ls.length
section
variable {B : Nat} {w w' : World} {wb n j xb : Nat} {V : Nat → Option (T × Kv)} {M : Nat → Option TrR} {F : Nat → Prop} {vbs : List Nat} {ls : List Kv} {tbs : List Nat} {ms : List RT}
theorem WI.extN (h : WI B w wb n j V M F xb vbs ls tbs ms) (e : Ext No w w') : WI B w' wb n j V M F xb vbs ls tbs ms :=
  ⟨h.ti.extN e, let ⟨_, _, _, _, hM⟩ := h.mw; ⟨_, _, _, _, hM.extN e⟩, h.ver, h.tr, h.nod, h.lv, h.lt, h.pos⟩
theorem WI.tlt (h : WI B w wb n j V M F xb vbs ls tbs ms) : ∀ tb ∈ tbs, tb < w.heap.size := fun tb htb => by
  obtain ⟨m, hm, rfl⟩ := List.mem_iff_getElem.1 htb
  have hm2 : m < ms.length := by have := h.lt; omega
  obtain ⟨h1, h2⟩ := h.tr m _ _ (List.getElem?_eq_getElem hm) (List.getElem?_eq_getElem hm2)
  cases hb : ms[m].2 with
  | true =>
    obtain ⟨vb, o, t, c, h3⟩ := (h.ti.fz _ (h1 hb)).blk
    exact h3.lt
  | false =>
    obtain ⟨r, h3, -⟩ := h2 hb
    exact (h.ti.tr _ _ h3).blk.lt
theorem WI.fl (h : WI B w wb n j V M F xb vbs ls tbs ms) : Floor.n ≤ w.heap.size := h.ti.vi.lw.fl
/-- a transient is begun -/
theorem c_edit (h : WI B w wb n j V M F xb vbs ls tbs ms) (i : Nat) (hi : i < ls.length) (hj : j + 1 < 18446744073709551616) (hn : ms.length ≤ 1000) :
    Ret P n_law20_world_edit [rp xb, .int .i64 i] w fun r w' => r = .bool true ∧ FrW B w w' ∧ ∃ M' tb, WI B w' wb n (j + 1) V M' F xb vbs ls (tbs ++ [tb]) (ms ++ [(ls[i], false)]) := by
  obtain ⟨vv, vp, vt, vw, hM⟩ := h.mw
  have hiv : i < vbs.length := by rw [h.lv]; exact hi
  have hlt := h.lt
  refine W_law20_world_edit ?_
  refine hM.blk.ld (o := 0) rfl ?_
  refine hM.v.sl.rd1 i rfl hiv (x := rp vbs[i]) (by simp [hiv]) ?_
  obtain ⟨t, hv⟩ := h.ver i _ _ (List.getElem?_eq_getElem hiv) (List.getElem?_eq_getElem hi)
  refine (c_Edit h.ti hv hj).mono ?_
  rintro _ w1 ⟨tb, rfl, htb, hT1, hE1⟩
  have hM1 := hM.ve hE1
  refine hM1.blk.ld (o := 2) rfl ?_
  show XNew w1 [rp tb] T_p_trans_Trans _
  refine xnew fun a w2 ha hb2 hz2 he2 => ?_
  refine (hM1.extN he2).appT hb2 (by omega) fun vt' w3 hM3 hO3 => ?_
  have f3 := (FrT.no (B := B) he2).trans (FrT.owT hO3 hM.fl)
  refine hM3.stT fun w4 hM4 f4 => ?_
  have hd := Ext.drew (Ext.refl No w4)
  have hM4d := hM4.extN hd
  refine hM4d.blk.ld (o := 3) rfl ?_
  refine hM4d.blk.ld (o := 1) rfl ?_
  refine hM4d.p.rdK i rfl hi fun p x hx _ => ?_
  obtain ⟨ad, cap, rfl⟩ := hx.slice
  show XNew w4.drew [_, .bool false] T_ref20_Trans _
  refine xnew fun a5 w5 ha5 hb5 hz5 he5 => ?_
  have hM5 := hM4d.extN he5
  refine ⟨xkeepV hM5.blk rfl, ?_⟩
  refine hM5.appQ hb5 (hx.extN he5) hn fun vw' w6 hM6 hO6 => ?_
  refine hM6.stQ fun w7 hM7 f7 => ?_
  have ff : FrT B w1 w7 := ((((f3.trans f4).trans (FrT.no hd)).trans (FrT.no he5)).trans (FrT.owQ hO6 hM.fl)).trans f7
  refine xj (fun vs w' => vs = [.bool true] ∧ w7 = w') ?_ ?_
  · refine xpne_vb ?_
    exact xifT rfl ⟨rfl, rfl⟩
  rintro vs g w8 ⟨rfl, rfl⟩
  have hne : ∀ tb' ∈ tbs, tb' ≠ tb := fun tb' h' e => by have := h.tlt tb' h'; omega
  refine ⟨rfl, (FrW.ve hE1).trans ff.fr, _, tb, ff.ti hT1, ⟨_, _, _, _, hM7⟩, h.ver, fun m tb' y h1 h2 => ?_, ?_, h.lv, by simp [hlt], h.pos⟩
  · rcases at_end h1 with ⟨c1, h1⟩ | ⟨c1, rfl⟩
    · rcases at_end h2 with ⟨c2, h2⟩ | ⟨c2, -⟩
      · rw [updM_other (hne tb' (List.mem_of_getElem? h1))]
        exact h.tr m tb' y h1 h2
      · omega
    · rcases at_end h2 with ⟨c2, h2⟩ | ⟨c2, rfl⟩
      · omega
      · exact ⟨fun h => (by cases h), fun _ => ⟨_, updM_same _ _ _, rfl⟩⟩
  · rw [List.nodup_append]
    exact ⟨h.nod, by simp, fun a ha b hb => by rw [List.mem_singleton.1 hb]; exact hne a ha⟩
set_option maxHeartbeats 1000000 in
/-- one is frozen -/
theorem c_freeze (h : WI B w wb n j V M F xb vbs ls tbs ms) (q : Nat) (hq : q < ms.length) (hn : ls.length ≤ 1000) :
    Ret P n_law20_world_freeze [rp xb, .int .i64 q] w fun r w' => r = .bool true ∧ FrW B w w' ∧ ∃ V' M' F' vbs', WI B w' wb n j V' M' F' xb vbs' (if ms[q].2 then ls else ls ++ [ms[q].1]) tbs (ms.set q (ms[q].1, true)) := by
  obtain ⟨vv, vp, vt, vw, hM⟩ := h.mw
  have hqt : q < tbs.length := by rw [h.lt]; exact hq
  have hlt := h.lt
  have hlv := h.lv
  refine W_law20_world_freeze ?_
  refine hM.blk.ld (o := 2) rfl ?_
  refine hM.t.sl.rd1 q rfl hqt (x := rp tbs[q]) (by simp [hqt]) ?_
  obtain ⟨hF, hR⟩ := h.tr q _ _ (List.getElem?_eq_getElem hqt) (List.getElem?_eq_getElem hq)
  have hfz : Ret P n_trans_Trans_Freeze [rp tbs[q]] w fun v w' => VE B w w' ∧ ∃ e1 V' M' F', v = .tuple #[e1, .int .i64 (if ms[q].2 then 11 else 0)] ∧ TI B w' wb n j V' M' F' ∧ (∀ b y, V b = some y → V' b = some y) ∧ F' tbs[q] ∧ (∀ b, b ≠ tbs[q] → M' b = M b) ∧ (∀ b, F b → F' b) ∧
      (ms[q].2 = true → e1 = .pointer none) ∧ (ms[q].2 = false → ∃ vb' t', e1 = rp vb' ∧ V' vb' = some (t', ms[q].1)) := by
    cases hb : ms[q].2 with
    | true =>
      refine (c_TFreezeF h.ti (hF hb)).mono ?_
      rintro _ w1 ⟨rfl, rfl⟩
      exact ⟨VE.refl _, _, V, M, F, rfl, h.ti, fun _ _ h => h, hF hb, fun _ _ => rfl, fun _ h => h, fun _ => rfl, fun h => by cases h⟩
    | false =>
      obtain ⟨r, hr, hrl⟩ := hR hb
      refine (c_TFreezeE h.ti hr).mono ?_
      rintro _ w1 ⟨hE, vb', V', t', rfl, hT, hv, hk, -, -⟩
      exact ⟨hE, _, V', _, _, rfl, hT, hk, .inl rfl, fun b hne => delM_other hne, fun b h => .inr h, fun h => (by cases h), fun _ => ⟨vb', t', rfl, by rw [← hrl]; exact hv⟩⟩
  refine hfz.mono ?_
  rintro _ w1 ⟨hE1, e1, V1, M1, F1, rfl, hT1, hV1, hF1, hM1', hFF, he1t, he1f⟩
  have hM1 := hM.ve hE1
  refine hM1.blk.ld (o := 3) rfl ?_
  refine hM1.q.rdK q rfl hq fun p x hx _ => ?_
  refine (c_r20Freeze hx hT1.vi.lw.fl).mono ?_
  rintro _ w2 ⟨rfl, hx2, he2⟩
  refine loc_rt hx2 fun a3 w3 hb3 he3 => ?_
  have hE13 := he2.transN he3
  refine (hM1.extN hE13).setL hb3 q rfl hq (hx2.extN he3) fun w5 hM5 f5 => ?_
  have ff5 := (FrT.no (B := B) hE13).trans f5
  have hx5 := f5.fr.ps (hx2.extN he3)
  have hT5 := ff5.ti hT1
  have fin : ∀ {w' : World} {vbs' : List Nat} {ls' : List Kv}, FrT B w5 w' → (∃ vv vp vt vw, MW w' B xb vv vp vt vw vv vp vt vw vbs' ls' tbs (ms.set q (ms[q].1, true))) → (∀ (m vb : Nat) (l : Kv), vbs'[m]? = some vb → ls'[m]? = some l → ∃ t, V1 vb = some (t, l)) → vbs'.length = ls'.length → 0 < ls'.length → FrW B w w' ∧ WI B w' wb n j V1 M1 F1 xb vbs' ls' tbs (ms.set q (ms[q].1, true)) := by
    intro w' vbs' ls' f hmw hver hlen hpos
    refine ⟨((FrW.ve hE1).trans ff5.fr).trans f.fr, f.ti hT5, hmw, hver, fun m tb y h1 h2 => ?_, h.nod, hlen, by simp [hlt], hpos⟩
    rw [List.getElem?_set] at h2
    split at h2
    · rename_i e
      subst e
      cases h2
      rw [List.getElem?_eq_getElem hqt] at h1
      cases h1
      exact ⟨fun _ => hF1, fun h => by cases h⟩
    · rename_i hne
      obtain ⟨g1, g2⟩ := h.tr m tb y h1 h2
      have hne2 : tb ≠ tbs[q] := fun e => hne (nodup_ix h.nod (by rw [List.getElem?_eq_getElem hqt, e]) h1)
      exact ⟨fun h => hFF _ (g1 h), fun h => by rw [hM1' tb hne2]; exact g2 h⟩
  refine xj (fun vs w' => vs = [] ∧ ∃ vbs', FrW B w w' ∧ WI B w' wb n j V1 M1 F1 xb vbs' (if ms[q].2 then ls else ls ++ [ms[q].1]) tbs (ms.set q (ms[q].1, true))) ?_ ?_
  · cases hb : ms[q].2 with
    | true =>
      refine xifF rfl ?_
      exact ⟨rfl, vbs, fin (FrT.no (Ext.refl _ _)) ⟨_, _, _, _, hM5⟩ (fun m vb l h1 h2 => let ⟨t, h3⟩ := h.ver m vb l h1 h2; ⟨t, hV1 _ _ h3⟩) hlv h.pos⟩
    | false =>
      obtain ⟨vb', t', rfl, hv'⟩ := he1f hb
      refine xifT rfl ?_
      have hd := Ext.drew (Ext.refl No w5)
      have hM6 := hM5.extN hd
      have hx6 := hx5.extN hd
      have fd := FrT.no (B := B) hd
      refine hM6.blk.ld (o := 0) rfl ?_
      refine hM6.blk.ld (o := 1) rfl ?_
      have done : ∀ {w' : World} {vv' vp' : Value}, MW w' B xb vv' vp' vt vw vv' vp' vt vw (vbs ++ [vb']) (ls ++ [ms[q].1]) tbs (ms.set q (ms[q].1, true)) → FrT B w5 w' → ([] : List Value) = [] ∧ ∃ vbs', FrW B w w' ∧ WI B w' wb n j V1 M1 F1 xb vbs' (if false = true then ls else ls ++ [ms[q].1]) tbs (ms.set q (ms[q].1, true)) := by
        intro w' vv' vp' hM' f
        refine ⟨rfl, vbs ++ [vb'], fin f ⟨_, _, _, _, hM'⟩ (fun m vb l h1 h2 => ?_) (by simp [hlv]) (by simp)⟩
        rcases at_end h1 with ⟨c1, h1⟩ | ⟨c1, rfl⟩
        · rcases at_end h2 with ⟨c2, h2⟩ | ⟨c2, -⟩
          · obtain ⟨t, h3⟩ := h.ver m vb l h1 h2
            exact ⟨t, hV1 _ _ h3⟩
          · omega
        · rcases at_end h2 with ⟨c2, h2⟩ | ⟨c2, rfl⟩
          · omega
          · exact ⟨t', hv'⟩
      obtain ⟨ad, cap, rfl⟩ := hx6.slice
      refine ⟨?_, ?_⟩
      · show XNew w5.drew [rp vb'] T_p_tree_Version _
        refine xnew fun a7 w7 ha7 hb7 hz7 he7 => ?_
        have hM7 := hM6.extN he7
        refine ⟨xkeepV hM7.blk rfl, xkeepV hM7.blk rfl, ?_, ?_⟩
        · refine hM7.appV hb7 (by omega) fun vv' w8 hM8 hO8 => ?_
          refine ⟨xkeepV hM8.blk rfl, ?_⟩
          show XNew w8 [_] T_s_ref01_Pair _
          refine xnew fun a9 w9 ha9 hb9 hz9 he9 => ?_
          have hM9 := hM8.extN he9
          have f9 := ((fd.trans (FrT.no he7)).trans (FrT.owV hO8 hM.fl)).trans (FrT.no he9)
          refine ⟨xkeepV hM9.blk rfl, ?_⟩
          exact hM9.tailP hb9 (f9.fr.ps hx5) hn fun vp' w10 hM10 f10 => done hM10 (f9.trans f10)
        · show XNew w7 [_] T_s_ref01_Pair _
          refine xnew fun a9 w9 ha9 hb9 hz9 he9 => ?_
          have hM9 := hM7.extN he9
          have f9 := (fd.trans (FrT.no he7)).trans (FrT.no he9)
          refine ⟨xkeepV hM9.blk rfl, xkeepV hM9.blk rfl, ?_⟩
          exact hM9.both (hb7.ext he9 fun h => h) hb9 (f9.fr.ps hx5) hn (by omega) fun vv' vp' w10 hM10 f10 => done hM10 (f9.trans f10)
      · show XNew w5.drew [_] T_s_ref01_Pair _
        refine xnew fun a7 w7 ha7 hb7 hz7 he7 => ?_
        have hM7 := hM6.extN he7
        refine ⟨xkeepV hM7.blk rfl, xkeepV hM7.blk rfl, ?_⟩
        show XNew w7 [rp vb'] T_p_tree_Version _
        refine xnew fun a9 w9 ha9 hb9 hz9 he9 => ?_
        have hM9 := hM7.extN he9
        have f9 := (fd.trans (FrT.no he7)).trans (FrT.no he9)
        refine ⟨xkeepV hM9.blk rfl, xkeepV hM9.blk rfl, ?_⟩
        exact hM9.both hb9 (hb7.ext he9 fun h => h) (f9.fr.ps hx5) hn (by omega) fun vv' vp' w10 hM10 f10 => done hM10 (f9.trans f10)
  rintro vs g w6 ⟨rfl, vbs', hfr, hW⟩
  refine xj (fun vs w' => vs = [.bool true] ∧ w6 = w') ?_ ?_
  · cases hb : ms[q].2 with
    | true =>
      rw [he1t hb]
      refine xifT rfl ?_
      exact xpne_self (w := w6) T.nil (K := fun v => xBEq (.bool false) v fun u => [u] = [Value.bool true] ∧ w6 = w6) ⟨rfl, rfl⟩
    | false =>
      obtain ⟨vb', t', rfl, hv'⟩ := he1f hb
      refine xifT rfl ?_
      exact xpne_vb (b := vb') (w := w6) (K := fun v => xBEq (.bool true) v fun u => [u] = [Value.bool true] ∧ w6 = w6) ⟨rfl, rfl⟩
  rintro vs g w7 ⟨rfl, rfl⟩
  exact ⟨rfl, hfr, V1, M1, F1, vbs', hW⟩
end
end law20
end Go.Proofs.YtlhjfenpmnejoaaGreatDoor
