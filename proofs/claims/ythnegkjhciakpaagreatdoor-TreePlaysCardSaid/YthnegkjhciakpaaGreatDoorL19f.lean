/-  law19: TreePlays: the walk.  -/
import Derived.Test.YthnegkjhciakpaaGreatDoorL19e
namespace Go.Proofs.YthnegkjhciakpaaGreatDoor
open Go Go.RowKit X
set_option linter.unusedSimpArgs false
set_option linter.unusedVariables false
set_option linter.unusedSectionVars false
variable [Floor]
/-- versions in a row, and the pairs that each of them is to hold -/
structure PI (B : Nat) (w : World) (wb n j : Nat) (V : Nat → Option (T × Kv)) (va vw : Value) (vbs : List Nat) (ls : List Kv) : Prop where
  vi : VI B w wb n j V
  all : Own w B T_p_tree_Version 1 va vbs.length (vbs.map rp)
  want : ∃ cells, Own w B T_s_ref01_Pair 1 vw ls.length cells ∧ ∀ (m : Nat) (l : Kv), ls[m]? = some l → ∃ x, cells[m]? = some x ∧ Ps w x l
  ver : ∀ (m vb : Nat) (l : Kv), vbs[m]? = some vb → ls[m]? = some l → ∃ t, V vb = some (t, l)
  len : vbs.length = ls.length
  pos : 0 < ls.length
section
variable {B : Nat} {w w' : World} {wb n j n' j' : Nat} {V V' : Nat → Option (T × Kv)} {va vw : Value} {vbs : List Nat} {ls : List Kv}
theorem PI.ve (h : PI B w wb n j V va vw vbs ls) (hE : VE B w w') (hI : VI B w' wb n' j' V') (hV : ∀ b y, V b = some y → V' b = some y) : PI B w' wb n' j' V' va vw vbs ls := by
  obtain ⟨cells, h1, h2⟩ := h.want
  refine ⟨hI, hE.own h.all (by unfold VTy KT; decide) (by rw [h.len]; exact h.pos), ⟨cells, hE.own h1 (by unfold VTy KT; decide) h.pos, fun m l hm => ?_⟩, fun m vb l h3 h4 => ?_, h.len, h.pos⟩
  · obtain ⟨x, h3, h4⟩ := h2 m l hm
    exact ⟨x, h3, hE.ps h4⟩
  · obtain ⟨t, ht⟩ := h.ver m vb l h3 h4
    exact ⟨t, hV _ _ ht⟩
theorem PI.push {K : Value → Value → World → Prop} {x : Value} {vb' : Nat} {l' : Kv} (h : PI B w wb n j V va vw vbs ls) (hv : ∃ t', V vb' = some (t', l')) (hx : Ps w x l') (hs : ls.length ≤ 1000)
    (k : ∀ va' vw' w', PI B w' wb n j V va' vw' (vbs ++ [vb']) (ls ++ [l']) → (∀ w0 : World, Ext No w0 w → w0.heap.size ≤ B → Ext No w0 w') → K va' vw' w') :
    XNew w [rp vb'] T_p_tree_Version fun a1 w1 => XRun P (Builtin.append_ #[T_s_p_tree_Version, T_s_p_tree_Version] T_s_p_tree_Version #[va, .slice (some a1) 1 1]) w1 fun va' w2 => XNew w2 [x] T_s_ref01_Pair fun a2 w3 => XRun P (Builtin.append_ #[T_s_s_ref01_Pair, T_s_s_ref01_Pair] T_s_s_ref01_Pair #[vw, .slice (some a2) 1 1]) w3 fun vw' w4 => K va' vw' w4 := by
  obtain ⟨cells, hw, hc⟩ := h.want
  have hlen := h.len
  have hpos := h.pos
  have hfl := h.vi.fl
  refine xnew fun b1 w1 hb1 hblk1 hz1 he1 => ?_
  have hI1 := h.vi.extN he1
  refine app_one ei_ver (h.all.extN he1) hI1.sizeB (by omega) rfl hblk1 (by omega) (by omega) fun va' w2 g2 ho2 he2 hg2 hbg2 => ?_
  obtain ⟨cur2, hbg2⟩ := hbg2
  have hI2 := hI1.one hbg2 (Nat.le_trans hfl hg2) (by decide) (by decide) (by decide) (by unfold Oth; decide) he2
  have hnbp2 := nbp_one hbg2 (Nat.le_trans hfl hg2) (by decide) (by decide) (by decide)
  have hw2 := (hw.extN he1).ext he2 fun b hb hb' => Own.neB (hw.extN he1) hbg2 (by decide) (by have e : b = g2 := hb'; rw [← e]; exact hb)
  refine xnew fun b3 w3 hb3 hblk3 hz3 he3 => ?_
  have hI3 := hI2.extN he3
  refine app_one ei_sps (hw2.extN he3) hI3.sizeB (by omega) hx.one1 hblk3 (by omega) (by omega) fun vw' w4 g4 ho4 he4 hg4 hbg4 => ?_
  obtain ⟨cur4, hbg4⟩ := hbg4
  have hI4 := hI3.one hbg4 (Nat.le_trans hfl hg4) (by decide) (by decide) (by decide) (by unfold Oth; decide) he4
  have hnbp4 := nbp_one hbg4 (Nat.le_trans hfl hg4) (by decide) (by decide) (by decide)
  have hp : ∀ {y : Value} {m : Kv}, Ps w y m → Ps w4 y m := fun hy => (((hy.extN he1).ext he2 hnbp2).extN he3).ext he4 hnbp4
  have hcl : cells.length = ls.length := by have := hw.len; omega
  refine k va' vw' w4 ⟨hI4, ?_, ⟨_, by rw [List.length_append]; exact ho4, ?_⟩, ?_, by simp [hlen], by simp⟩ ?_
  · rw [List.length_append, List.map_append]
    exact (ho2.extN he3).ext he4 fun b hb hb' => Own.neB (ho2.extN he3) hbg4 (by decide) (by have e : b = g4 := hb'; rw [← e]; exact hb)
  · intro m l hm
    rcases Nat.lt_trichotomy m ls.length with hlt | heq | hgt
    · rw [List.getElem?_append_left hlt] at hm
      obtain ⟨y, h1, h2⟩ := hc m l hm
      exact ⟨y, by rw [List.getElem?_append_left (by omega)]; exact h1, hp h2⟩
    · subst heq
      rw [List.getElem?_append_right (by omega)] at hm
      simp at hm
      subst hm
      exact ⟨x, by rw [List.getElem?_append_right (by omega), hcl]; simp, hp hx⟩
    · rw [List.getElem?_eq_none (by simp; omega)] at hm; cases hm
  · intro m vb l h3 h4
    rcases Nat.lt_trichotomy m ls.length with hlt | heq | hgt
    · rw [List.getElem?_append_left hlt] at h4
      rw [List.getElem?_append_left (by omega)] at h3
      exact h.ver m vb l h3 h4
    · subst heq
      rw [List.getElem?_append_right (by omega)] at h3 h4
      simp [hlen] at h3 h4
      subst h3; subst h4
      exact hv
    · rw [List.getElem?_eq_none (by simp; omega)] at h4; cases h4
  · intro w0 e0 hB
    have s0 := h.vi.sizeB
    exact (((e0.transN he1).trans he2 fun b hlt hb => by have e : b = g2 := hb; omega).transN he3).trans he4 fun b hlt hb => by have e : b = g4 := hb; omega
theorem PI.extN (h : PI B w wb n j V va vw vbs ls) (e : Ext No w w') : PI B w' wb n j V va vw vbs ls := h.ve (VE.no e) (h.vi.extN e) fun _ _ h => h
end
namespace law19
section
variable {w : World} {v : Value} {ss : List Stp}
theorem l_TreePlays (hw : Lw w) (h : Sts w v ss) : Ret P n_law19_TreePlays [v] w fun r w' => r = .bool true ∧ Ext No w w' := by
  refine W_law19_TreePlays ?_
  refine (c_long h).mono ?_
  rintro _ w1 ⟨bl, rfl, he1, hfew⟩
  cases bl with
  | true =>
    refine xifT rfl ?_
    refine (c_alive (hw.extN he1)).mono ?_
    rintro _ w2 ⟨rfl, he2⟩
    exact ⟨rfl, he1.transN he2⟩
  | false =>
    have hfew := hfew rfl
    refine xifF rfl ?_
    have hw1 := hw.extN he1
    have h1 := h.extN he1
    refine (c_WNew (B := w1.heap.size) hw1 (Nat.le_refl _) hw1.fl).mono ?_
    rintro _ w2 ⟨rfl, hI2, he2⟩
    refine (c_From hI2 (Ps.none w2) Pr.nil (by omega)).mono ?_
    rintro _ w3 ⟨v0, t0, rfl, -, -, hI3, -, hE3⟩
    have hv3 : updV (fun _ => none) v0 (t0, []) v0 = some (t0, []) := updV_same _ _ _
    generalize updV (fun _ => none) v0 (t0, []) = V3 at hI3 hv3
    generalize t0.er.size = n3 at hI3
    generalize hB : w1.heap.size = B at hI3 hE3
    have hge3 : B ≤ w3.heap.size := hI3.sizeB
    have hE13 : Ext No w1 w3 := hE3.start he2 (by omega)
    refine xifF rfl ?_
    show XNew w3 [rp v0] T_p_tree_Version _
    refine xnew fun a4 w4 ha4 hb4 hz4 he4 => ?_
    show XNew w4 [.slice none 0 0] T_s_ref01_Pair _
    refine xnew fun a5 w5 ha5 hb5 hz5 he5 => ?_
    have hP5 : PI B w5 B (0 + n3) (0 + 1) V3 (.slice (some ⟨a4, 0, none⟩) 1 1) (.slice (some ⟨a5, 0, none⟩) 1 1) [v0] [[]] := by
      refine ⟨(hI3.extN he4).extN he5, Own.of (by omega) (hb4.ext he5 fun h => h) (Nat.le_refl 1) (by decide) rfl rfl rfl, ⟨[.slice none 0 0], Own.of (by omega) hb5 (Nat.le_refl 1) (by decide) rfl rfl rfl, fun m l hm => ?_⟩, fun m vb l h3 h4 => ?_, rfl, by simp⟩
      · cases m with
        | zero => simp at hm; subst hm; exact ⟨_, rfl, Ps.none _⟩
        | succ m => simp at hm
      · cases m with
        | zero => simp at h3 h4; subst h3; subst h4; exact ⟨t0, hv3⟩
        | succ m => simp at h3
    have hfn := hfew.n
    have hfl : Floor.n ≤ B := hI3.fl
    refine h1.len ?_
    refine xloop (fun n vs w' => ∃ (i n' j : Nat) (V : Nat → Option (T × Kv)) (va vw : Value) (vbs : List Nat) (ls : List Kv) (x2 x3 x4 x6 x7 : Value), vs = [.int .i64 i, va, x2, x3, x4, vw, x6, x7, .bool false] ∧ n = ss.length - i ∧ i ≤ ss.length ∧ PI B w' B n' j V va vw vbs ls ∧ j ≤ 1 + i ∧ ls.length ≤ 1 + i ∧ (∀ l ∈ ls, l.length ≤ 60 + i ∧ ∀ p ∈ l, p.1.length ≤ 300 + 40 * i) ∧ Ext No w1 w') ss.length
      ⟨0, _, _, _, _, _, _, _, _, _, _, _, _, rfl, rfl, by omega, hP5, by omega, by simp, (fun l hl => by simp at hl; subst hl; simp), (hE13.transN he4).transN he5⟩ ?_
    rintro n vs g w6 ⟨i, n', j, V, va, vw, vbs, ls, x2, x3, x4, x6, x7, rfl, rfl, hi, hP, hj, hln, hsm, hE⟩
    unfold S_law19_TreePlays_l2
    have hlen := hP.len
    have hpos := hP.pos
    refine xifD (fun hlt => ?_) fun hge => ?_
    · have hil : i < ss.length := by omega
      have hsi := hfew.s _ (List.getElem_mem hil)
      refine xj (fun vs w' => ∃ (n' j : Nat) (V : Nat → Option (T × Kv)) (va vw : Value) (vbs : List Nat) (ls : List Kv) (x2 x3 x4 x6 x7 : Value), vs = [x2, x3, x4, x6, x7, .bool false, va, vw] ∧ PI B w' B n' j V va vw vbs ls ∧ j ≤ 1 + (i + 1) ∧ ls.length ≤ 1 + (i + 1) ∧ (∀ l ∈ ls, l.length ≤ 60 + (i + 1) ∧ ∀ p ∈ l, p.1.length ≤ 300 + 40 * (i + 1)) ∧ Ext No w1 w') ?_ ?_
      · refine (h1.extN hE).rd i rfl hil fun kv av hkv hav hd hii hx => ?_
        generalize ss[i] = s at hkv hav hd hii hx hsi
        obtain ⟨hs1, hs2, hs3⟩ := hsi
        refine xnew fun b w7 hb hbl hz7 he7 => ?_
        refine xstoreVar hbl (by kernel_rfl) (by simp) ?_ fun w8 hb8 hz8 he8 => ?_
        · intro u hu
          simp only [List.mem_cons, List.mem_nil_iff, or_false] at hu
          rcases hu with rfl | rfl | rfl | rfl | rfl
          · rfl
          · rfl
          · exact hkv.one1
          · rfl
          · exact hav.one1
        have hE68 : Ext No w6 w8 := he7.trans1 he8 (by omega)
        have hb8 : Blk w8 b [.int .u8 s.d, .int .u16 s.i, kv, u64 s.x, av] T_ref19_Step := by simpa using hb8
        have hE68d : Ext No w6 w8.drew := hE68.transN (Ext.drew (Ext.refl No w8))
        have hP8 := hP.extN hE68d
        refine hb8.ld (o := 1) (v := .int .u16 s.i) rfl ?_
        refine xi (r := (s.i : Int)) (wrapI (by omega)) ?_
        refine xLen_sl hP.all.sl ?_
        refine xrem (a := s.i) (b := vbs.length) (by omega) ?_
        have hql : s.i % vbs.length < vbs.length := Nat.mod_lt _ (by omega)
        generalize s.i % vbs.length = q at hql
        have hqs : q < ls.length := by omega
        obtain ⟨t, hv⟩ := hP8.ver q vbs[q] ls[q] (List.getElem?_eq_getElem hql) (List.getElem?_eq_getElem hqs)
        have hlq := hsm _ (List.getElem_mem hqs)
        have hpr := (hP8.vi.ver _ _ _ hv).pr
        refine hP8.all.sl.rd1K q rfl hql (x := rp vbs[q]) (by simp [hql]) fun p _ => ?_
        refine hb8.drew.ldA rfl ?_
        have hlk : ∀ p ∈ ls[q], p.1.length ≤ 60000 := fun p hp => by have := hlq.2 p hp; omega
        refine (c_after (s := s) hP8.vi hv (hkv.extN hE68d) (hav.extN hE68d) hx hs1 hs2 hs3 (by omega) hlk (by omega)).mono ?_
        rintro r w9 ⟨hE9, hcase⟩
        have hcase : ∃ (e1 : Value) (c : Nat) (n2 : Nat) (V2 : Nat → Option (T × Kv)), r = .tuple #[e1, .int .i64 (c : Int)] ∧ VI B w9 B n2 (j + 1) V2 ∧ (∀ b y, V b = some y → V2 b = some y) ∧ ((∃ l' vb', stepK s ls[q] = some l' ∧ c = 0 ∧ e1 = rp vb' ∧ ∃ t', V2 vb' = some (t', l')) ∨ (stepK s ls[q] = none ∧ c = 12 ∧ e1 = .pointer none)) := by
          rcases hcase with ⟨l', vb', h2, rfl, t', n2, V2, h3, h4, h5⟩ | ⟨h2, rfl, n2, h3⟩
          · exact ⟨_, 0, n2, V2, rfl, h3, h5, .inl ⟨l', vb', h2, rfl, rfl, t', h4⟩⟩
          · exact ⟨_, 12, n2, V, rfl, h3, fun _ _ h => h, .inr ⟨h2, rfl, rfl⟩⟩
        obtain ⟨e1, c, n2, V2, rfl, hI9, hVV, hcase⟩ := hcase
        have hP9 := (hP8.ve hE9 hI9 hVV).extN (Ext.drew (Ext.refl No w9))
        obtain ⟨cells, hw9, hc9⟩ := hP9.want
        obtain ⟨x, hxc, hxps⟩ := hc9 q ls[q] (List.getElem?_eq_getElem hqs)
        refine hw9.sl.rd1K q rfl hqs hxc fun p _ => ?_
        refine (hE9.blkR hb8.drew (by unfold VTy KT; decide)).drew.ldA rfl ?_
        have hd9 := Ext.drew (Ext.refl No w9)
        have hfl9 : Floor.n ≤ w9.drew.heap.size := Nat.le_trans hfl hP9.vi.sizeB
        refine (c_refAfter (s := s) hfl9 hxps hpr ((hE9.bs (hkv.extN hE68d)).extN hd9) ((hE9.ps (hav.extN hE68d)).extN hd9) hx hs1 hs2 hs3 hlk).mono ?_
        rintro r w10 ⟨he10, href⟩
        have hP10 := hP9.extN he10
        have hE10 : Ext No w1 w10 := ((hE9.start (hE.transN hE68d) (by omega)).transN hd9).transN he10
        rcases hcase with ⟨l', vb', h2, rfl, rfl, t', h3⟩ | ⟨h2, rfl, rfl⟩
        · rcases href with ⟨l2, v', h4, rfl, hps⟩ | ⟨h4, -⟩
          · rw [h2] at h4
            obtain rfl := Option.some.inj h4
            have hsl' := stepK_small (m := i) h2 hs1 hs2 hs3 hlq.1 hlq.2
            refine xifF rfl ?_
            refine xifF rfl ?_
            obtain ⟨ad, cap, rfl⟩ := hps.slice
            refine hP10.push ⟨t', h3⟩ hps (by omega) fun va' vw' w11 hP11 hE11 => ?_
            refine ⟨_, _, _, _, _, _, _, _, _, _, _, _, rfl, hP11, by omega, by simp; omega, fun l hl => ?_, hE11 _ hE10 (by omega)⟩
            rcases List.mem_append.1 hl with e | e
            · have := hsm l e
              exact ⟨by omega, fun p hp => by have := this.2 p hp; omega⟩
            · rw [List.mem_singleton.1 e]; exact hsl'
          · rw [h2] at h4; cases h4
        · rcases href with ⟨l2, v', h4, rfl, hps⟩ | ⟨h4, v', rfl⟩
          · rw [h2] at h4; cases h4
          · refine xifF rfl ?_
            refine xifT rfl ?_
            refine xpne_self T.nil ?_
            refine xifF rfl ?_
            exact ⟨_, _, _, _, _, _, _, _, _, _, _, _, rfl, hP10, by omega, by omega, (fun l hl => by
              have := hsm l hl
              exact ⟨by omega, fun p hp => by have := this.2 p hp; omega⟩), hE10⟩
      rintro vs g w12 ⟨n2, j2, V2, va2, vw2, vbs2, ls2, y2, y3, y4, y6, y7, rfl, hP2, hj2, hln2, hsm2, hE2⟩
      refine xi (r := ((i + 1 : Nat) : Int)) (by rw [wrapI (by omega)]; omega) ?_
      exact xnext (ss.length - (i + 1)) (by omega) ⟨i + 1, n2, j2, V2, va2, vw2, vbs2, ls2, _, _, _, _, _, rfl, rfl, by omega, hP2, hj2, hln2, hsm2, hE2⟩
    · refine xLen_sl hP.all.sl ?_
      refine xloop (fun n vs w' => ∃ (i : Nat) (y1 y2 : Value), vs = [.int .i64 i, y1, y2, .bool false] ∧ n = vbs.length - i ∧ i ≤ vbs.length ∧ PI B w' B n' j V va vw vbs ls ∧ Ext No w1 w') vbs.length ⟨0, _, _, rfl, rfl, by omega, hP, hE⟩ ?_
      rintro n vs g w7 ⟨q, y1, y2, rfl, rfl, hq, hP7, hE7⟩
      unfold S_law19_TreePlays_l1
      refine xifD (fun hlt2 => ?_) fun hge2 => ?_
      · have hql : q < vbs.length := by omega
        have hqs : q < ls.length := by omega
        obtain ⟨t, hv⟩ := hP7.ver q vbs[q] ls[q] (List.getElem?_eq_getElem hql) (List.getElem?_eq_getElem hqs)
        obtain ⟨cells, hw7, hc7⟩ := hP7.want
        obtain ⟨x, hxc, hxp⟩ := hc7 q ls[q] (List.getElem?_eq_getElem hqs)
        have hpr := (hP7.vi.ver _ _ _ hv).pr
        have hmany := hpr.many
        refine hP7.all.sl.rd1K q rfl hql (x := rp vbs[q]) (by simp [hql]) fun p _ => ?_
        refine xj (fun vs w' => vs = [.bool false] ∧ PI B w' B n' j V va vw vbs ls ∧ Ext No w1 w') ?_ ?_
        · refine hw7.drew.sl.rd1K q rfl hqs hxc fun p hk => ?_
          have hd7 := Ext.drew (Ext.refl No w7)
          refine (c_VList hP7.vi.drew hv).mono ?_
          rintro _ w8 ⟨hps8, he8⟩
          refine ⟨hk w8 (hw7.drew.extN he8).sl, ?_⟩
          refine (c_same hps8 (hxp.extN (hd7.transN he8)) hmany hmany hpr.keys).mono ?_
          rintro _ w9 ⟨rfl, he9⟩
          rw [decide_eq_true rfl]
          have he79 := (hd7.transN he8).transN he9
          have hw9 := hw7.extN he79
          refine xifF rfl ?_
          refine hw9.sl.rd1K q rfl hqs hxc fun p hk => ?_
          refine (hxp.extN he79).len ?_
          refine (c_VLen (hP7.vi.extN he79) hv).mono ?_
          rintro _ w10 ⟨rfl, hI10, hE10⟩
          have hw10 := hE10.own hw9 (by unfold VTy KT; decide) (by omega)
          refine ⟨hk w10 hw10.sl, ?_⟩
          refine xifF (by simp) ?_
          refine hw10.sl.rd1K q rfl hqs hxc fun p hk => ?_
          refine (hE10.ps (hxp.extN he79)).len ?_
          refine (c_VLen hI10 hv).mono ?_
          rintro _ w11 ⟨rfl, hI11, hE11⟩
          have hw11 := hE11.own hw10 (by unfold VTy KT; decide) (by omega)
          refine ⟨hk w11 hw11.sl, ?_⟩
          refine xifF (by simp) ?_
          have hx11 := hE11.ps (hE10.ps (hxp.extN he79))
          refine hw11.sl.rd1K q rfl hqs hxc fun p hk => ?_
          refine (c_VShape hI11 hv).mono ?_
          rintro _ w12 ⟨rfl, he12⟩
          refine ⟨hk w12 (hw11.extN he12).sl, ?_⟩
          refine (c_rBuild (by omega) (hx11.extN he12) hpr.rises hpr.keys).mono ?_
          rintro _ w13 ⟨e, cs, rfl, hrc, hcan, he13⟩
          have hI13 := (hI11.extN he12).extN he13
          have hct := (hI13.ver _ _ _ hv).ct
          obtain rfl := hcan.uniq hct.can
          refine (c_rShape _ hrc hcan.fine (hct.tree.shapeLen hct.can hpr.rises hpr.many)).mono ?_
          rintro _ w14 ⟨rfl, he14⟩
          refine xsne ?_
          rw [decide_eq_true rfl]
          refine xifF rfl ?_
          have hI14 := hI13.extN he14
          refine (c_VWorld hI14 hv).mono ?_
          rintro _ w15 ⟨rfl, rfl⟩
          refine xpne_rp ?_
          refine xifF rfl ?_
          refine (c_VRoot hI14 hv).mono ?_
          rintro _ w16 ⟨rfl, rfl⟩
          have hct14 := (hI14.ver _ _ _ hv).ct
          refine (c_Fine hct14.tree hct14.can.fine hct14.leafy (hct14.long hpr)).mono ?_
          rintro _ w17 ⟨rfl, he17⟩
          have hEE : VE B w7 w17 := (((((VE.no he79).trans hE10).trans hE11).transN he12).transN he13).transN (he14.transN he17)
          exact ⟨rfl, hP7.ve hEE (hI14.extN he17) fun _ _ h => h, hEE.start hE7 (by omega)⟩
        rintro vs g w8 ⟨rfl, hP8, hE8⟩
        refine xifF rfl ?_
        refine xi (r := ((q + 1 : Nat) : Int)) (by rw [wrapI (by omega)]; omega) ?_
        exact xnext (vbs.length - (q + 1)) (by omega) ⟨q + 1, _, _, rfl, rfl, by omega, hP8, hE8⟩
      · refine (c_alive hP7.vi.lw).mono ?_
        rintro _ w8 ⟨rfl, he8⟩
        exact ⟨rfl, he1.transN (hE7.transN he8)⟩
end
end law19
end Go.Proofs.YthnegkjhciakpaaGreatDoor
