/-  law20: TransPlays.  -/
import Derived.Test.YtlhjfenpmnejoaaGreatDoorL20g
namespace Go.Proofs.YtlhjfenpmnejoaaGreatDoor
open Go Go.RowKit X
set_option linter.unusedSimpArgs false
set_option linter.unusedVariables false
set_option linter.unusedSectionVars false
variable [Floor]
namespace law20
/-- few of them, and short -/
structure Sm (i : Nat) (ls : List Kv) (ms : List RT) : Prop where
  nl : ls.length ≤ 1 + i
  nm : ms.length ≤ i
  l : ∀ l ∈ ls, l.length ≤ i ∧ ∀ p ∈ l, p.1.length ≤ 300
  m : ∀ y ∈ ms, y.1.length ≤ i ∧ ∀ p ∈ y.1, p.1.length ≤ 300
section
variable {i q : Nat} {ls : List Kv} {ms : List RT} {k : Key} {d x : Nat}
theorem Sm.up (h : Sm i ls ms) : Sm (i + 1) ls ms := ⟨by have := h.nl; omega, by have := h.nm; omega, fun l hl => ⟨by have := (h.l l hl).1; omega, (h.l l hl).2⟩, fun y hy => ⟨by have := (h.m y hy).1; omega, (h.m y hy).2⟩⟩
theorem Sm.edit (h : Sm i ls ms) (hq : q < ls.length) : Sm (i + 1) ls (ms ++ [(ls[q], false)]) := by
  have u := h.up
  refine ⟨u.nl, by have := h.nm; simp; omega, u.l, fun y hy => ?_⟩
  rcases List.mem_append.1 hy with e | e
  · exact u.m y e
  · rw [List.mem_singleton.1 e]; exact u.l _ (List.getElem_mem hq)
theorem Sm.set (h : Sm i ls ms) {y : RT} (hy : y.1.length ≤ i + 1 ∧ ∀ p ∈ y.1, p.1.length ≤ 300) : Sm (i + 1) ls (ms.set q y) := by
  have u := h.up
  refine ⟨u.nl, by rw [List.length_set]; exact u.nm, u.l, fun z hz => ?_⟩
  rcases List.mem_or_eq_of_mem_set hz with e | e
  · exact u.m z e
  · rw [e]; exact hy
theorem Sm.freeze (h : Sm i ls ms) (hq : q < ms.length) : Sm (i + 1) (if ms[q].2 then ls else ls ++ [ms[q].1]) (ms.set q (ms[q].1, true)) := by
  have u := h.up
  have hy := u.m _ (List.getElem_mem hq)
  have s := h.set (q := q) (y := (ms[q].1, true)) hy
  split
  · exact s
  · refine ⟨by have := h.nl; simp; omega, s.nm, fun l hl => ?_, s.m⟩
    rcases List.mem_append.1 hl with e | e
    · exact s.l l e
    · rw [List.mem_singleton.1 e]; exact hy
theorem ins_small {l : Kv} (h : l.length ≤ i ∧ ∀ p ∈ l, p.1.length ≤ 300) (hk : k.length ≤ 300) : (insK l k x).length ≤ i + 1 ∧ ∀ p ∈ insK l k x, p.1.length ≤ 300 := by
  refine ⟨by have := insK_length l k x; omega, fun p hp => ?_⟩
  rcases insK_mem hp with e | e
  · rw [e]; exact hk
  · exact h.2 p e
theorem Sm.write (h : Sm i ls ms) (hq : q < ms.length) (hk : k.length ≤ 300) : Sm (i + 1) ls (ms.set q (wrK d k x ms[q])) := by
  have hy := h.m _ (List.getElem_mem hq)
  refine h.set ?_
  unfold wrK
  split
  · exact ⟨by omega, hy.2⟩
  · split
    · refine ⟨by have := dropK_length k ms[q].1; show (dropK k ms[q].1).length ≤ _; omega, fun p hp => hy.2 p ?_⟩
      exact (List.mem_filter.1 hp).1
    · exact ins_small hy hk
theorem Sm.put (h : Sm i ls ms) (hq : q < ls.length) (hk : k.length ≤ 300) : Sm (i + 1) (ls ++ [insK ls[q] k x]) ms := by
  have u := h.up
  refine ⟨by have := h.nl; simp; omega, u.nm, fun l hl => ?_, u.m⟩
  rcases List.mem_append.1 hl with e | e
  · exact u.l l e
  · rw [List.mem_singleton.1 e]; exact ins_small (h.l _ (List.getElem_mem hq)) hk
end
section
variable {B : Nat} {w w' : World} {wb n j xb : Nat} {V : Nat → Option (T × Kv)} {M : Nat → Option TrR} {F : Nat → Prop} {vbs : List Nat} {ls : List Kv} {tbs : List Nat} {ms : List RT} {k : Key} {kv : Value} {d i jj x c : Nat}
set_option maxHeartbeats 1000000 in
/-- a step -/
theorem c_step (h : WI B w wb n j V M F xb vbs ls tbs ms) (hs : Sm c ls ms) (hc : c ≤ 100) (hk : Bs w kv k) (hkl : k.length ≤ 300) (hx : x < 18446744073709551616) (hi : i < 65536) (hjj : jj < 65536) (hj : j + 1 < 18446744073709551616) :
    Ret P n_law20_world_step [rp xb, .agg #[.int .u8 d, .int .u16 i, .int .u16 jj, kv, u64 x]] w fun r w' => r = .bool true ∧ FrW B w w' ∧ ∃ n' j' V' M' F' vbs' ls' tbs' ms', WI B w' wb n' j' V' M' F' xb vbs' ls' tbs' ms' ∧ j' ≤ j + 1 ∧ Sm (c + 1) ls' ms' := by
  have hlv := h.lv
  have hlt := h.lt
  have hpos := h.pos
  have hnl := hs.nl
  have hnm := hs.nm
  refine W_law20_world_step ?_
  obtain ⟨kad, kcap, rfl⟩ := hk.slice
  generalize hkv : Value.slice kad k.length kcap = kv at hk
  show XNew w [.int .u8 d, .int .u16 i, .int .u16 jj, kv, u64 x] T_law20_Step _
  refine xnew fun a w1 ha hb1 hz1 he1 => ?_
  have hd1 := Ext.drew (Ext.refl No w1)
  have hb1 : Blk w1 a [.int .u8 d, .int .u16 i, .int .u16 jj, kv, u64 x] T_law20_Step := hb1
  have hb1d := hb1.drew
  have he1d := he1.transN hd1
  have h1 := h.extN he1d
  have hk1 := hk.extN he1d
  obtain ⟨vv, vp, vt, vw, hM⟩ := h1.mw
  refine hb1d.ld (o := 1) (v := .int .u16 i) rfl ?_
  refine xi (r := (i : Int)) (wrapI (by omega)) ?_
  refine hM.blk.ld (o := 0) rfl ?_
  refine xLen_sl hM.v.sl ?_
  refine xrem (a := i) (b := vbs.length) (by omega) ?_
  have hq1 : i % vbs.length < ls.length := by rw [← hlv]; exact Nat.mod_lt _ (by omega)
  generalize i % vbs.length = q1 at hq1
  refine xj (fun vs w' => ∃ b : Bool, vs = [.bool b] ∧ w1.drew = w' ∧ (b = false → tbs.length ≠ 0)) ?_ ?_
  · refine hb1d.ld (o := 0) (v := .int .u8 d) rfl ?_
    refine xrem (a := d) (b := 6) (by omega) ?_
    refine xif_mod (b := 0) (fun h6 => ⟨true, rfl, rfl, fun h => by cases h⟩) fun h6 => ?_
    refine hM.blk.ld (o := 2) rfl ?_
    refine xLen_sl hM.t.sl ?_
    refine ⟨_, rfl, rfl, fun h e => ?_⟩
    rw [e] at h
    cases h
  rintro vs g w2 ⟨b, rfl, rfl, hb⟩
  refine xif_or (fun hbt => ?_) fun hbf => ?_
  · refine (c_edit h1 q1 hq1 hj (by omega)).mono ?_
    rintro _ w3 ⟨rfl, f, M', tb, hW⟩
    exact ⟨rfl, (FrW.no he1d).trans f, _, _, _, _, _, _, _, _, _, hW, Nat.le_refl _, hs.edit hq1⟩
  have hnt := hb hbf
  have hdd := Ext.drew (Ext.refl No w1.drew)
  have he1dd := he1d.transN hdd
  have h2 := h1.extN hdd
  have hk2 := hk1.extN hdd
  have hb2 := hb1d.drew
  refine hb2.ld (o := 2) (v := .int .u16 jj) rfl ?_
  refine xi (r := (jj : Int)) (wrapI (by omega)) ?_
  refine (hM.extN hdd).blk.ld (o := 2) rfl ?_
  refine xLen_sl (hM.extN hdd).t.sl ?_
  refine xrem (a := jj) (b := tbs.length) (by omega) ?_
  have hq2 : jj % tbs.length < ms.length := by rw [← hlt]; exact Nat.mod_lt _ (by omega)
  generalize jj % tbs.length = q2 at hq2
  refine hb2.ld (o := 0) (v := .int .u8 d) rfl ?_
  refine xrem (a := d) (b := 6) (by omega) ?_
  refine xif_mod (b := 3) (fun h3 => ?_) fun h3 => ?_
  · refine (c_freeze h2 q2 hq2 (by omega)).mono ?_
    rintro _ w3 ⟨rfl, f, V', M', F', vbs', hW⟩
    exact ⟨rfl, (FrW.no he1dd).trans f, _, _, _, _, _, _, _, _, _, hW, Nat.le_succ j, hs.freeze hq2⟩
  refine xif_mod (b := 4) (fun h4 => ?_) fun h4 => ?_
  · have hd3 := Ext.drew (Ext.refl No w1.drew.drew)
    have hl1 := hs.l _ (List.getElem_mem hq1)
    refine c_stepPut (K := fun r w' => r = .bool true ∧ FrW B w w' ∧ ∃ n' j' V' M' F' vbs' ls' tbs' ms', WI B w' wb n' j' V' M' F' xb vbs' ls' tbs' ms' ∧ j' ≤ j + 1 ∧ Sm (c + 1) ls' ms') (h2.extN hd3) hq1 hb2.drew (hk2.extN hd3) (by omega) hx (by omega) (by omega) hj fun w3 f hW => ?_
    obtain ⟨n', V', vbs', hW⟩ := hW
    exact ⟨rfl, (FrW.no (he1dd.transN hd3)).trans f, _, _, _, _, _, _, _, _, _, hW, Nat.le_refl _, hs.put hq1 hkl⟩
  · refine hb2.ldA rfl ?_
    have hl2 := hs.m _ (List.getElem_mem hq2)
    refine (c_write (i := i) (jj := jj) h2 q2 hq2 hk2 (by omega) hx (by omega) fun p hp => by have := hl2.2 p hp; omega).mono ?_
    rintro _ w3 ⟨rfl, f, n', M', hW⟩
    exact ⟨rfl, (FrW.no he1dd).trans f, _, _, _, _, _, _, _, _, _, hW, Nat.le_succ j, hs.write hq2 hkl⟩
set_option maxHeartbeats 1000000 in
/-- a transient is the document's -/
theorem c_as (h : WI B w wb n j V M F xb vbs ls tbs ms) (hs : Sm c ls ms) (hc : c ≤ 100) (q : Nat) (hq : q < ms.length) (hk : Bs w kv k) (hkl : k.length ≤ 300) :
    Ret P n_law20_world_as [rp xb, .int .i64 q, kv] w fun r w' => r = .bool true ∧ Ext No w w' := by
  have hlt := h.lt
  have hqt : q < tbs.length := by omega
  have hl2 := hs.m _ (List.getElem_mem hq)
  have hks : ∀ p ∈ ms[q].1, p.1.length ≤ 65535 := fun p hp => by have := hl2.2 p hp; omega
  refine W_law20_world_as ?_
  have hd := Ext.drew (Ext.refl No w)
  have hW := h.extN hd
  have hkd := hk.extN hd
  obtain ⟨vv, vp, vt, vw, hM⟩ := hW.mw
  refine hM.blk.ld (o := 2) rfl ?_
  refine hM.t.sl.rd1K q rfl hqt (x := rp tbs[q]) (by simp [hqt]) fun pt hpt => ?_
  refine hM.blk.ld (o := 3) rfl ?_
  refine hM.q.rdK q rfl hq fun p x hx hkp => ?_
  refine xnew fun a w1 ha hb1 hz1 he1 => ?_
  have hM1 := hM.extN he1
  refine ⟨hkp w1 he1, xkeepV hM1.blk rfl, hpt w1 hM1.t.sl, xkeepV hM1.blk rfl, hkp w1 he1, xkeepV hM1.blk rfl, ?_⟩
  refine xstoreVar (vs := [x, .bool ms[q].2]) hb1 (by kernel_rfl) (by simp) (fun u hu => by simp only [List.mem_cons, List.mem_nil_iff, or_false] at hu; exact hu.elim (fun e => e ▸ hx.one1) fun e => e ▸ rfl) fun w2 hb2 hz2 he2 => ?_
  have hb2 : Blk w2 a [x, .bool ms[q].2] T_ref20_Trans := by simpa using hb2
  have hE2d : Ext No w.drew w2 := he1.trans1 he2 (by omega)
  have hE2 : Ext No w w2 := hd.transN hE2d
  have hT2 := hW.ti.extN hE2d
  have hk2 := hkd.extN hE2d
  have hx2 := hx.extN hE2d
  obtain ⟨hF, hR⟩ := h.tr q _ _ (List.getElem?_eq_getElem hqt) (List.getElem?_eq_getElem hq)
  cases hb : ms[q].2 with
  | true =>
    have hf := hF hb
    refine (c_TListF hT2 hf).mono ?_
    rintro _ w3 ⟨rfl, rfl⟩
    refine (c_TLenF hT2 hf).mono ?_
    rintro _ w4 ⟨rfl, rfl⟩
    refine (c_TGetF hT2 hf).mono ?_
    rintro _ w5 ⟨rfl, rfl⟩
    refine hb2.ld (o := 1) (v := .bool true) (by rw [hb]; rfl) ?_
    refine xifT rfl ?_
    refine xj (fun vs w' => vs = [.bool true] ∧ w5 = w') ?_ ?_
    · refine (c_TFrozenF hT2 hf).mono ?_
      rintro _ w6 ⟨rfl, rfl⟩
      refine xifT rfl ?_
      refine xifT rfl ?_
      refine xifT rfl ?_
      refine xifT rfl ?_
      refine (Ps.none w6).len ?_
      refine xi (r := 0) (by decide) ?_
      refine xifT rfl ?_
      refine xifT rfl ?_
      exact ⟨rfl, rfl⟩
    rintro vs g w6 ⟨rfl, rfl⟩
    exact ⟨rfl, hE2⟩
  | false =>
    obtain ⟨r, hr, hrl⟩ := hR hb
    refine (c_TList hT2 hr).mono ?_
    rintro _ w3 ⟨lv, rfl, hlv, he3⟩
    have hT3 := hT2.extN he3
    refine (c_TLen hT3 hr).mono ?_
    rintro _ w4 ⟨rfl, rfl⟩
    refine (c_TGet hT3 hr (hk2.extN he3) (by omega)).mono ?_
    rintro _ w5 ⟨rfl, he5⟩
    have he25 := he3.transN he5
    have hb5 := hb2.ext he25 fun h => h
    have hx5 := hx2.extN he25
    refine hb5.ld (o := 1) (v := .bool false) (by rw [hb]; rfl) ?_
    refine xifF rfl ?_
    refine hb5.ld (o := 0) rfl ?_
    refine (c_r14Get hx5 (hk2.extN he25) (by omega) hks).mono ?_
    rintro _ w6 ⟨rfl, he6⟩
    have he26 := he25.transN he6
    rw [hrl] at hlv ⊢
    refine xj (fun vs w' => vs = [.bool true] ∧ Ext No w6 w') ?_ ?_
    · refine (c_TFrozen (hT2.extN he26) hr).mono ?_
      rintro _ w7 ⟨rfl, rfl⟩
      refine xifT rfl ?_
      refine xifT rfl ?_
      refine xifT rfl ?_
      refine xifT rfl ?_
      have hb7 := hb2.ext he26 fun h => h
      refine hb7.ld (o := 0) rfl ?_
      refine (c_same (hlv.extN (he5.transN he6)) (hx2.extN he26) (by omega) (by omega) hks).mono ?_
      rintro _ w8 ⟨rfl, he8⟩
      refine xifT (decide_eq_true rfl) ?_
      refine (hb7.ext he8 fun h => h).ld (o := 0) rfl ?_
      refine ((hx2.extN he26).extN he8).len ?_
      refine xifT (by simp) ?_
      refine xifT (by simp) ?_
      exact ⟨by simp, he8⟩
    rintro vs g w7 ⟨rfl, he7⟩
    exact ⟨rfl, (hE2.transN he26).transN he7⟩
/-- a step, as it is handed over -/
structure Stp where
  d : Nat
  i : Nat
  j : Nat
  k : Key
  x : Nat
def Sts (w : World) (v : Value) (ss : List Stp) : Prop := ∃ cells : List Value, Sl w (fun b _ => b < Floor.n) v 5 ss.length cells ∧
  ∀ (m : Nat) (s : Stp), ss[m]? = some s → ∃ kv, (cells.drop (m * 5)).take 5 = [.int .u8 s.d, .int .u16 s.i, .int .u16 s.j, kv, u64 s.x] ∧ Bs w kv s.k ∧ s.d < 256 ∧ s.i < 65536 ∧ s.j < 65536 ∧ s.x < 18446744073709551616
section
variable {w w' : World} {v : Value} {ss : List Stp}
theorem Sts.extN (h : Sts w v ss) (e : Ext No w w') : Sts w' v ss := let ⟨cells, h1, h2⟩ := h; ⟨cells, h1.extN e, fun m s hs => let ⟨kv, h3, h4, h6⟩ := h2 m s hs; ⟨kv, h3, h4.extN e, h6⟩⟩
theorem Sts.len {K : Value → Prop} (h : Sts w v ss) (k : K (.int .i64 ss.length)) : xLen v K := let ⟨_, h1, _⟩ := h; xLen_sl h1 k
theorem Sts.rd {K : Value → Prop} {kd : IntKind} {i : Int} (h : Sts w v ss) (m : Nat) (hi : i = (m : Int)) (hm : m < ss.length) (k : ∀ kv, Bs w kv ss[m].k → ss[m].i < 65536 → ss[m].j < 65536 → ss[m].x < 18446744073709551616 → K (.agg #[.int .u8 ss[m].d, .int .u16 ss[m].i, .int .u16 ss[m].j, kv, u64 ss[m].x])) : xIxS v (.int kd i) 5 fun u => xAt u fun a => XLdN w a 5 K := by
  obtain ⟨cells, h1, h2⟩ := h
  obtain ⟨kv, h3, h4, h6, h7, h8, h9⟩ := h2 m ss[m] (List.getElem?_eq_getElem hm)
  refine h1.rdN m hi hm ?_
  rw [h3]
  exact k kv h4 h7 h8 h9
set_option maxRecDepth 100000 in
set_option maxHeartbeats 2000000 in
theorem l_TransPlays (hw : Lw w) (h : Sts w v ss) : Ret P n_law20_TransPlays [v] w fun r w' => r = .bool true ∧ Ext No w w' := by
  refine W_law20_TransPlays ?_
  refine h.len ?_
  refine xifD (fun hbig => ?_) fun hfew => ?_
  · refine (c_alive hw).mono ?_
    rintro _ w2 ⟨rfl, he2⟩
    exact ⟨rfl, he2⟩
  have hn50 : ss.length ≤ 50 := by omega
  refine (c_WNew (B := w.heap.size) hw (Nat.le_refl _) hw.fl).mono ?_
  rintro _ w2 ⟨rfl, hI2, he2⟩
  refine (c_From hI2 (Ps.none w2) Pr.nil (by omega)).mono ?_
  rintro _ w3 ⟨v0, t0, rfl, -, -, hI3, -, hE3⟩
  have hv3 : updV (fun _ => none) v0 (t0, []) v0 = some (t0, []) := updV_same _ _ _
  generalize updV (fun _ => none) v0 (t0, []) = V3 at hI3 hv3
  generalize 0 + t0.er.size = n3 at hI3
  have hfl : Floor.n ≤ w.heap.size := hw.fl
  generalize hB : w.heap.size = B at hI3 hE3 hfl
  have hge3 : B ≤ w3.heap.size := hI3.sizeB
  have hE13 : Ext No w w3 := hE3.start he2 (by omega)
  refine xj (fun vs w' => vs = [.bool false] ∧ w3 = w') ?_ ?_
  · refine xpeq_vb ?_
    exact xifF rfl ⟨rfl, rfl⟩
  rintro vs g w4 ⟨rfl, rfl⟩
  refine xifF rfl ?_
  show XNew w3 [rp v0] T_p_tree_Version _
  refine xnew fun a4 w4 ha4 hb4 hz4 he4 => ?_
  show XNew w4 [.slice none 0 0] T_s_ref01_Pair _
  refine xnew fun a5 w5 ha5 hb5 hz5 he5 => ?_
  show XNew w5 [.slice (some ⟨a4, 0, none⟩) 1 1, .slice (some ⟨a5, 0, none⟩) 1 1, .slice none 0 0, .slice none 0 0] T_law20_world _
  refine xnew fun xb w6 ha6 hb6 hz6 he6 => ?_
  have hE36 := (he4.transN he5).transN he6
  have hW6 : WI B w6 B n3 (0 + 1) V3 (fun _ => none) (fun _ => False) xb [v0] [[]] [] [] := by
    refine ⟨(TI.of hI3).extN hE36, ⟨.slice (some ⟨a4, 0, none⟩) 1 1, .slice (some ⟨a5, 0, none⟩) 1 1, .slice none 0 0, .slice none 0 0, ⟨hfl, by omega, hb6, Own.of (by omega) (hb4.ext (he5.transN he6) fun h => h) (Nat.le_refl 1) (by decide) rfl rfl rfl, ⟨[.slice none 0 0], Own.of (by omega) (hb5.ext he6 fun h => h) (Nat.le_refl 1) (by decide) rfl rfl rfl, fun m l hm => ?_⟩, Own.nil _ _ _ _, QR.nil _ _⟩⟩, fun m vb l h3 h4 => ?_, fun m tb y h1 _ => by simp at h1, by simp, rfl, rfl, by simp⟩
    · cases m with
      | zero => simp at hm; subst hm; exact ⟨_, rfl, Ps.none _⟩
      | succ m => simp at hm
    · cases m with
      | zero => simp at h3 h4; subst h3; subst h4; exact ⟨t0, hv3⟩
      | succ m => simp at h3
  have hS6 : Sm 0 [[]] [] := ⟨by simp, by simp, fun l hl => by simp at hl; subst hl; simp, fun y hy => by cases hy⟩
  refine (h.extN (hE13.transN hE36)).len ?_
  refine xloop (fun n vs w' => ∃ (c n' j : Nat) (V : Nat → Option (T × Kv)) (M : Nat → Option TrR) (F : Nat → Prop) (vbs : List Nat) (ls : List Kv) (tbs : List Nat) (ms : List RT) (y : Value), vs = [.int .i64 c, y] ∧ n = ss.length - c ∧ c ≤ ss.length ∧ WI B w' B n' j V M F xb vbs ls tbs ms ∧ j ≤ 1 + c ∧ Sm c ls ms ∧ Ext No w w') ss.length
    ⟨0, _, _, _, _, _, _, _, _, _, _, rfl, rfl, by omega, hW6, by omega, hS6, hE13.transN hE36⟩ ?_
  rintro nn vs g w7 ⟨c, n7, j, V, M, F, vbs, ls, tbs, ms, y, rfl, rfl, hc, hW, hj, hS, hE⟩
  unfold S_law20_TransPlays_l2
  refine xifD (fun hlt => ?_) fun hge => ?_
  · have hcl : c < ss.length := by omega
    refine (h.extN hE).rd c rfl hcl fun kv hkv hi16 hj16 hx64 => ?_
    generalize ss[c] = s at hkv hi16 hj16 hx64
    obtain ⟨kad, kcap, rfl⟩ := hkv.slice
    generalize hkv' : Value.slice kad s.k.length kcap = kv at hkv
    refine xnew fun a w8 ha hb8 hz8 he8 => ?_
    refine xstoreVar (vs := [.int .u8 s.d, .int .u16 s.i, .int .u16 s.j, kv, u64 s.x]) hb8 (by kernel_rfl) (by simp) ?_ fun w9 hb9 hz9 he9 => ?_
    · intro u hu
      simp only [List.mem_cons, List.mem_nil_iff, or_false] at hu
      rcases hu with rfl | rfl | rfl | rfl | rfl
      · rfl
      · rfl
      · rfl
      · exact hkv.one1
      · rfl
    have hb9 : Blk w9 a [.int .u8 s.d, .int .u16 s.i, .int .u16 s.j, kv, u64 s.x] T_law20_Step := by simpa using hb9
    have hE79 : Ext No w7 w9 := he8.trans1 he9 (by omega)
    have hW9 := hW.extN hE79
    have hk9 := hkv.extN hE79
    refine hb9.ld (o := 3) (v := kv) rfl ?_
    refine hk9.len ?_
    refine xifD (fun hlong => ?_) fun hshort => ?_
    · refine (c_alive hW9.ti.vi.lw).mono ?_
      rintro _ w10 ⟨rfl, he10⟩
      exact ⟨rfl, (hE.transN hE79).transN he10⟩
    have hkl : s.k.length ≤ 300 := by omega
    refine hb9.ldA rfl ?_
    refine (c_step (c := c) hW9 hS (by omega) hk9 hkl hx64 hi16 hj16 (by omega)).mono ?_
    rintro _ w10 ⟨rfl, fr, n10, j10, V10, M10, F10, vbs10, ls10, tbs10, ms10, hW10, hj10, hS10⟩
    refine xifF rfl ?_
    have hE10 : Ext No w w10 := fr.st w (hE.transN hE79) (by omega)
    have hb10 := fr.blk hb9
    have hk10 := fr.bs hk9
    have hd := Ext.drew (Ext.refl No w10)
    obtain ⟨vv, vp, vt, vw, hM⟩ := (hW10.extN hd).mw
    refine xj (fun vs w' => vs = [.bool false] ∧ Ext No w10 w') ?_ ?_
    · refine hM.blk.ld (o := 2) rfl ?_
      refine xLen_sl hM.t.sl ?_
      refine xifD (fun hpos => ?_) fun hno => ⟨rfl, hd⟩
      refine hb10.drew.ld (o := 2) (v := .int .u16 s.j) rfl ?_
      refine xi (r := (s.j : Int)) (wrapI (by omega)) ?_
      refine hM.blk.ld (o := 2) rfl ?_
      refine xLen_sl hM.t.sl ?_
      refine xrem (a := s.j) (b := tbs10.length) (by omega) ?_
      have hq : s.j % tbs10.length < ms10.length := by rw [← hW10.lt]; exact Nat.mod_lt _ (by omega)
      generalize s.j % tbs10.length = q at hq
      refine hb10.drew.ld (o := 3) (v := kv) rfl ?_
      refine (c_as (hW10.extN hd) hS10 (by omega) q hq (hk10.extN hd) hkl).mono ?_
      rintro _ w11 ⟨rfl, he11⟩
      exact ⟨rfl, hd.transN he11⟩
    rintro vs g w11 ⟨rfl, he11⟩
    refine xifF rfl ?_
    refine xi (r := ((c + 1 : Nat) : Int)) (by rw [wrapI (by omega)]; omega) ?_
    exact xnext (ss.length - (c + 1)) (by omega) ⟨c + 1, _, _, _, _, _, _, _, _, _, _, rfl, rfl, by omega, hW10.extN he11, by omega, hS10, hE10.transN he11⟩
  · obtain ⟨vv, vp, vt, vw, hM⟩ := hW.mw
    refine hM.blk.ld (o := 0) rfl ?_
    refine xLen_sl hM.v.sl ?_
    have hlv := hW.lv
    have hnl := hS.nl
    refine xloop (fun n vs w' => ∃ (i : Nat) (y1 y2 y3 : Value), vs = [.int .i64 i, y1, y2, y3] ∧ n = vbs.length - i ∧ i ≤ vbs.length ∧ MW w' B xb vv vp vt vw vv vp vt vw vbs ls tbs ms ∧ (∃ n' , VI B w' B n' j V) ∧ Ext No w w') vbs.length ⟨0, _, _, _, rfl, rfl, by omega, hM, ⟨_, hW.ti.vi⟩, hE⟩ ?_
    rintro nn vs g w8 ⟨q, y1, y2, y3, rfl, rfl, hq, hM8, ⟨n8, hI8⟩, hE8⟩
    unfold S_law20_TransPlays_l1
    refine xifD (fun hlt2 => ?_) fun hge2 => ?_
    · have hql : q < vbs.length := by omega
      have hqs : q < ls.length := by omega
      obtain ⟨t, hv⟩ := hW.ver q vbs[q] ls[q] (List.getElem?_eq_getElem hql) (List.getElem?_eq_getElem hqs)
      have hpr := (hI8.ver _ _ _ hv).pr
      have hmany := hpr.many
      refine hM8.v.sl.rd1 q rfl hql (x := rp vbs[q]) (by simp [hql]) ?_
      refine xj (fun vs w' => vs = [.bool false] ∧ MW w' B xb vv vp vt vw vv vp vt vw vbs ls tbs ms ∧ (∃ n' , VI B w' B n' j V) ∧ Ext No w w') ?_ ?_
      · have hd := Ext.drew (Ext.refl No w8)
        have hM8d := hM8.extN hd
        refine hM8d.blk.ld (o := 1) rfl ?_
        refine hM8d.p.rdK q rfl hqs fun p x hx hkp => ?_
        refine (c_VList (hI8.extN hd) hv).mono ?_
        rintro _ w9 ⟨hps9, he9⟩
        refine ⟨hkp w9 fun ho => ho.extN he9, xkeepV (hM8d.extN he9).blk rfl, ?_⟩
        refine (c_same hps9 (hx.extN he9) hmany hmany hpr.keys).mono ?_
        rintro _ w10 ⟨rfl, he10⟩
        rw [decide_eq_true rfl]
        have he810 := (hd.transN he9).transN he10
        have hM10 := hM8.extN he810
        refine xifF rfl ?_
        refine hM10.blk.ld (o := 1) rfl ?_
        refine hM10.p.rdK q rfl hqs fun p x hx hkp => ?_
        refine hx.len ?_
        refine (c_VLen (hI8.extN he810) hv).mono ?_
        rintro _ w11 ⟨rfl, hI11, hE11⟩
        have hM11 := hM10.ve hE11
        refine ⟨hkp w11 fun ho => VE.own0 hE11 ho (by unfold VTy KT; decide), xkeepV hM11.blk rfl, ?_⟩
        refine xifF (by simp) ?_
        refine hM11.blk.ld (o := 1) rfl ?_
        refine hM11.p.rdK q rfl hqs fun p x hx hkp => ?_
        refine (c_VShape hI11 hv).mono ?_
        rintro _ w12 ⟨rfl, he12⟩
        refine ⟨hkp w12 fun ho => ho.extN he12, xkeepV (hM11.extN he12).blk rfl, ?_⟩
        refine (c_rBuild (by omega) (hx.extN he12) hpr.rises hpr.keys).mono ?_
        rintro _ w13 ⟨e, cs, rfl, hrc, hcan, he13⟩
        have hI13 := (hI11.extN he12).extN he13
        have hct := (hI13.ver _ _ _ hv).ct
        obtain rfl := hcan.uniq hct.can
        refine (c_rShape _ hrc hcan.fine (hct.tree.shapeLen hct.can hpr.rises hpr.many)).mono ?_
        rintro _ w14 ⟨rfl, he14⟩
        refine xsne ?_
        rw [decide_eq_true rfl]
        refine xifF rfl ?_
        have hI14 := hI13.extN he14
        refine (c_VWorld hI14 hv).mono ?_
        rintro _ w15 ⟨rfl, rfl⟩
        refine xpne_rp ?_
        have hE : Ext No w w15 := ((((hE11.start (hE8.transN he810) (by omega)).transN he12).transN he13).transN he14)
        exact ⟨rfl, (((hM11.extN he12).extN he13).extN he14), ⟨_, hI14⟩, hE⟩
      rintro vs g w9 ⟨rfl, hM9, hI9, hE9⟩
      refine xifF rfl ?_
      refine xi (r := ((q + 1 : Nat) : Int)) (by rw [wrapI (by omega)]; omega) ?_
      exact xnext (vbs.length - (q + 1)) (by omega) ⟨q + 1, _, _, _, rfl, rfl, by omega, hM9, hI9, hE9⟩
    · refine (c_alive hI8.lw).mono ?_
      rintro _ w9 ⟨rfl, he9⟩
      exact ⟨rfl, hE8.transN he9⟩
end
end
end law20
end Go.Proofs.YtlhjfenpmnejoaaGreatDoor
