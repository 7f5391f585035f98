/-  law25: InterLaws.  -/
import Derived.Test.YtbgfmgkimccbeaaGreatDoorL25z
namespace Go.Proofs.YtbgfmgkimccbeaaGreatDoor
open Go Go.RowKit X
set_option linter.unusedSimpArgs false
set_option linter.unusedVariables false
set_option linter.unusedSectionVars false
variable [Floor]
theorem xkeepI' {w : World} {b o : Nat} {cs : List Value} {T : TypeId} {v : Value} (h : Blk w b cs T) (hv : cs[o]? = some v) : xKeep1 w (.pointer (some ⟨b, 0 + o, none⟩)) v := by
  show w.cell? ⟨b, 0 + o, none⟩ = some v
  rw [h.cell, Nat.zero_add, hv]
/-- canonical trees of the same pairs have one shape -/
theorem Ct.shapeI {w w' : World} {t t' : T} {l l' : Kv} (h : Ct w t l) (h' : Ct w' t' l') (e : ∀ k, look l k = look l' k) : t.er.shape = t'.er.shape := by
  rw [h.can.uniq (h'.can.congr fun k => (e k).symm)]
theorem interO_merge (x y z : Option Nat) : interO 1 (mergeO 1 x y) z = mergeO 1 (interO 1 x z) (interO 1 y z) := by
  cases x <;> cases y <;> cases z <;> rfl
theorem interO_part (x y : Option Nat) : interO 1 x (mergeO 1 x y) = x := by
  cases x <;> cases y <;> rfl
theorem interO_assoc {p : Nat} (hp : 1 ≤ p ∧ p ≤ 5) (x y z : Option Nat) : interO p (interO p x y) z = interO p x (interO p y z) := by
  cases x <;> cases y <;> cases z <;> first | rfl | (show some _ = some _; rw [pick_assoc hp])
theorem interO_back {p : Nat} (hp : 1 ≤ p ∧ p ≤ 5) (x y : Option Nat) : interO (backN p) y x = interO p x y := by
  cases x <;> cases y <;> first | rfl | (show some _ = some _; rw [pick_back hp])
namespace law25
section
variable {w : World} {va vb vc : Value} {la lb lc : Kv} {z : Int}
set_option maxHeartbeats 1000000 in
theorem l_InterLaws (hw : Lw w) {z : Int} (ha : Ps w va la) (hb : Ps w vb lb) (hc : Ps w vc lc) : Ret P n_law25_InterLaws [.int .i64 z, .agg #[va, vb, vc]] w fun r w' => r = .bool true ∧ Ext No w w' := by
  refine W_law25_InterLaws ?_
  refine xnew fun ob w1 hob hblk hz1 he1 => ?_
  have hO : Blk w1 ob [va, vb, vc] _ := hblk
  refine xj (fun vs w' => ∃ b, vs = [.bool b] ∧ Ext No w1 w' ∧ (b = false → (la.length ≤ 60 ∧ ∀ p ∈ la, p.1.length ≤ 300) ∧ (lb.length ≤ 60 ∧ ∀ p ∈ lb, p.1.length ≤ 300) ∧ (lc.length ≤ 60 ∧ ∀ p ∈ lc, p.1.length ≤ 300) ∧ 1 ≤ z ∧ z ≤ 5)) ?_ ?_
  · refine xixA 0 rfl (by omega) ?_
    refine hO.ld (o := 0) (v := va) rfl ?_
    refine (c_far (m := 60) (ha.extN he1) (by omega)).mono ?_
    rintro r w2 ⟨b, rfl, he2, hb1⟩
    cases b with
    | true => exact xifT rfl ⟨true, rfl, he2, fun h => by cases h⟩
    | false =>
      refine xifF rfl ?_
      refine xixA 1 rfl (by omega) ?_
      refine (hO.ext he2 fun h => h).ld (o := 1) (v := vb) rfl ?_
      refine (c_far (m := 60) (hb.extN (he1.transN he2)) (by omega)).mono ?_
      rintro r w3 ⟨b, rfl, he3, hb2⟩
      cases b with
      | true => exact xifT rfl ⟨true, rfl, he2.transN he3, fun h => by cases h⟩
      | false =>
        refine xifF rfl ?_
        refine xixA 2 rfl (by omega) ?_
        have he23 := he2.transN he3
        refine (hO.ext he23 fun h => h).ld (o := 2) (v := vc) rfl ?_
        refine (c_far (m := 60) (hc.extN (he1.transN he23)) (by omega)).mono ?_
        rintro r w4 ⟨b, rfl, he4, hb3⟩
        cases b with
        | true => exact xifT rfl ⟨true, rfl, he23.transN he4, fun h => by cases h⟩
        | false =>
          refine xifF rfl ?_
          refine xifD (fun h => ⟨true, rfl, he23.transN he4, fun h => by cases h⟩) fun h1 => ?_
          exact ⟨_, rfl, he23.transN he4, fun h5 => ⟨hb1 rfl, hb2 rfl, hb3 rfl, by omega, by have := of_decide_eq_false h5; omega⟩⟩
  rintro vs g w2 ⟨b, rfl, he2, hbb⟩
  have hE2 := he1.transN he2
  cases b with
  | true =>
    refine xifT rfl ?_
    refine (c_alive (hw.extN hE2)).mono ?_
    rintro r w3 ⟨rfl, he3⟩
    exact ⟨rfl, hE2.transN he3⟩
  | false =>
    refine xifF rfl ?_
    obtain ⟨⟨a6, a3⟩, ⟨b6, b3⟩, ⟨c6, c3⟩, z1, z5⟩ := hbb rfl
    obtain ⟨p, rfl⟩ : ∃ p : Nat, z = p := ⟨z.toNat, by omega⟩
    have hpp : 1 ≤ p ∧ p ≤ 5 := by omega
    have pa : Pr (sortK la) := Pr.sort (by omega) fun p h => by have := a3 p h; omega
    have pb : Pr (sortK lb) := Pr.sort (by omega) fun p h => by have := b3 p h; omega
    have pc : Pr (sortK lc) := Pr.sort (by omega) fun p h => by have := c3 p h; omega
    have na := sortK_length la
    have nb := sortK_length lb
    have nc := sortK_length lc
    have hd := Ext.drew (Ext.refl No w2)
    have hE2d := hE2.transN hd
    have hO2 := (hO.ext he2 fun h => h).drew
    have hw2 := hw.extN hE2d
    refine xixA 0 rfl (by omega) ?_
    refine hO2.ld (o := 0) (v := va) rfl ?_
    refine xixA 1 rfl (by omega) ?_
    refine hO2.ld (o := 1) (v := vb) rfl ?_
    refine xixA 2 rfl (by omega) ?_
    refine hO2.ld (o := 2) (v := vc) rfl ?_
    refine (c_rSort (ha.extN hE2d) (by omega) (fun p h => by have := a3 p h; omega)).mono ?_
    rintro vl w3 ⟨hso, he3⟩
    have hps := hso.ps he3 (.inr rfl)
    refine ⟨xkeepI' (hO2.ext he3 fun h => h) rfl, xkeepI' (hO2.ext he3 fun h => h) rfl, ?_⟩
    refine (c_tree hps pa (hw2.extN he3) (ow := 1) (by omega)).mono ?_
    rintro r w4 ⟨ta, rfl, cta, -, -, -, he4⟩
    have h24 := he3.transN he4
    refine ⟨xkeepI' (hO2.ext h24 fun h => h) rfl, xkeepI' (hO2.ext h24 fun h => h) rfl, ?_⟩
    refine (c_rSort (hb.extN (hE2d.transN h24)) (by omega) (fun p h => by have := b3 p h; omega)).mono ?_
    rintro vl2 w5 ⟨hso5, he5⟩
    have hps5 := hso5.ps he5 (.inr rfl)
    have h25 := h24.transN he5
    refine ⟨xkeepI' (hO2.ext h25 fun h => h) rfl, ?_⟩
    refine (c_tree hps5 pb (hw2.extN h25) (ow := 2) (by omega)).mono ?_
    rintro r w6 ⟨tb, rfl, ctb, -, -, -, he6⟩
    have h26 := h25.transN he6
    refine ⟨xkeepI' (hO2.ext h26 fun h => h) rfl, ?_⟩
    refine (c_rSort (hc.extN (hE2d.transN h26)) (by omega) (fun p h => by have := c3 p h; omega)).mono ?_
    rintro vl3 w7 ⟨hso7, he7⟩
    have hps7 := hso7.ps he7 (.inr rfl)
    have h27 := h26.transN he7
    refine (c_tree hps7 pc (hw2.extN h27) (ow := 3) (by omega)).mono ?_
    rintro r w8 ⟨tc, rfl, ctc, -, -, -, he8⟩
    have h28 := h27.transN he8
    have hw8 := hw2.extN h28
    have cta8 := (cta.extN ((he5.transN he6).transN he7)).extN he8
    have ctb8 := ctb.extN (he7.transN he8)
    generalize sortK la = ma at pa cta8 na
    generalize sortK lb = mb at pb ctb8 nb
    generalize sortK lc = mc at pc ctc nc
    have h11 : 1 ≤ 1 ∧ 1 ≤ 5 := by omega
    have pab : Pr (unionK 1 ma mb) := unionK_pr pa pb (by omega)
    refine (c_Of (z := 1) (p := 1) (o := 4) (n := 0) (mt := none) h11 rfl cta8 pa ctb8 pb hw8.mt0 (by omega)).mono ?_
    rintro _ w9 ⟨tab, n9, rfl, O9⟩
    have he9 : Ext No w8 w9 := O9.ext
    refine (c_If (z := 1) (p := 1) (o := 5) (n := 0) (mt := none) h11 rfl O9.ct pab (ctc.extN he9) pc (hw8.extN he9).mt0 (by omega)).mono ?_
    rintro _ w10 ⟨tx, n10, rfl, O10⟩
    have he10 : Ext No w9 w10 := O10.ext
    have h810 := he9.transN he10
    refine (c_If (z := 1) (p := 1) (o := 6) (n := 0) (mt := none) h11 rfl (cta8.extN h810) pa (ctc.extN h810) pc (hw8.extN h810).mt0 (by omega)).mono ?_
    rintro _ w11 ⟨tac, n11, rfl, O11⟩
    have he11 : Ext No w10 w11 := O11.ext
    have h811 := h810.transN he11
    refine (c_If (z := 1) (p := 1) (o := 7) (n := 0) (mt := none) h11 rfl (ctb8.extN h811) pb (ctc.extN h811) pc (hw8.extN h811).mt0 (by omega)).mono ?_
    rintro _ w12 ⟨tbc, n12, rfl, O12⟩
    have he12 : Ext No w11 w12 := O12.ext
    have h812 := h811.transN he12
    have pac : Pr (interK 1 ma mc) := interF_pr pa
    have pbc : Pr (interK 1 mb mc) := interF_pr pb
    have nac := interF_length (pickN 1) ma mc
    have nbc := interF_length (pickN 1) mb mc
    have py : Pr (unionK 1 (interK 1 ma mc) (interK 1 mb mc)) := unionK_pr pac pbc (by
      have h1 : (interK 1 ma mc).length ≤ ma.length := nac
      have h2 : (interK 1 mb mc).length ≤ mb.length := nbc
      omega)
    refine (c_Of (z := 1) (p := 1) (o := 8) (n := 0) (mt := none) h11 rfl (O11.ct.extN he12) pac O12.ct pbc (hw8.extN h812).mt0 (by omega)).mono ?_
    rintro _ w13 ⟨ty, n13, rfl, O13⟩
    have he13 : Ext No w12 w13 := O13.ext
    have h813 := h812.transN he13
    have ctab13 := ((O9.ct.extN he10).extN he11).extN (he12.transN he13)
    refine (c_If (z := 1) (p := 1) (o := 9) (n := 0) (mt := none) h11 rfl (cta8.extN h813) pa ctab13 pab (hw8.extN h813).mt0 (by omega)).mono ?_
    rintro _ w14 ⟨tz, n14, rfl, O14⟩
    have he14 : Ext No w13 w14 := O14.ext
    have h814 := h813.transN he14
    obtain ⟨rfl, -⟩ := O14.idle ((interF_rises pa.rises).ext pa.rises fun k => by
      rw [interF_look, unionK_look pa.rises pb.rises, interO_part])
    have px : Pr (interK 1 (unionK 1 ma mb) mc) := interF_pr pab
    have cx := ((O10.ct.extN he11).extN he12).extN (he13.transN he14)
    have cy := O13.ct.extN he14
    have exy : tx.er.shape = ty.er.shape := cx.shapeI cy fun k => by
      rw [interF_look, unionK_look pa.rises pb.rises, unionK_look pac.rises pbc.rises, interF_look, interF_look, interO_merge]
    have hw14 := hw8.extN h814
    refine xj (fun vs w' => vs = [.bool false] ∧ Ext No w14 w') ?_ ?_
    · refine (c_Shape hw14.tab cx.tree cx.leafy (cx.tree.shapeLen cx.can px.rises px.many)).mono ?_
      rintro _ w15 ⟨rfl, he15⟩
      refine (c_Shape (hw14.extN he15).tab (cy.extN he15).tree cy.leafy (cy.tree.shapeLen cy.can py.rises py.many)).mono ?_
      rintro _ w16 ⟨rfl, he16⟩
      refine xsne ?_
      rw [decide_eq_true exy]
      refine xifF rfl ?_
      refine xpne_self (w := w16) tz ?_
      refine xifF rfl ?_
      have h1416 := he15.transN he16
      refine (c_Fine (cx.extN h1416).tree cx.can.fine cx.leafy (cx.long px)).mono ?_
      rintro _ w17 ⟨rfl, he17⟩
      exact ⟨rfl, h1416.transN he17⟩
    rintro vs g w15 ⟨rfl, he15⟩
    refine xifF rfl ?_
    have h815 := h814.transN he15
    have hw15 := hw8.extN h815
    have ca15 := cta8.extN h815
    have cb15 := ctb8.extN h815
    have cc15 := ctc.extN h815
    refine (c_If (p := p) (o := 10) (n := 0) (mt := none) hpp rfl ca15 pa cb15 pb hw15.mt0 (by omega)).mono ?_
    rintro _ w16 ⟨tp, n16, rfl, P16⟩
    have he16 : Ext No w15 w16 := P16.ext
    have pp : Pr (interK p ma mb) := interF_pr pa
    refine (c_If (p := p) (o := 11) (n := 0) (mt := none) hpp rfl P16.ct pp (cc15.extN he16) pc (hw15.extN he16).mt0 (by omega)).mono ?_
    rintro _ w17 ⟨tq, n17, rfl, P17⟩
    have he17 : Ext No w16 w17 := P17.ext
    have h1517 := he16.transN he17
    have pq : Pr (interK p (interK p ma mb) mc) := interF_pr pp
    refine (c_If (p := p) (o := 12) (n := 0) (mt := none) hpp rfl (cb15.extN h1517) pb (cc15.extN h1517) pc (hw15.extN h1517).mt0 (by omega)).mono ?_
    rintro _ w18 ⟨tr, n18, rfl, P18⟩
    have he18 : Ext No w17 w18 := P18.ext
    have h1518 := h1517.transN he18
    have pr : Pr (interK p mb mc) := interF_pr pb
    refine (c_If (p := p) (o := 13) (n := 0) (mt := none) hpp rfl (ca15.extN h1518) pa P18.ct pr (hw15.extN h1518).mt0 (by omega)).mono ?_
    rintro _ w19 ⟨ts, n19, rfl, P19⟩
    have he19 : Ext No w18 w19 := P19.ext
    have h1519 := h1518.transN he19
    have ps : Pr (interK p ma (interK p mb mc)) := interF_pr pa
    have hbk := backN_ok hpp
    refine xj (fun vs w' => ∃ x y : Value, vs = [x, .int .i64 (backN p : Nat), y] ∧ w19 = w') ?_ ?_
    · refine xifE (fun h => ?_) fun h => ?_
      · have : p = 1 := by omega
        subst this
        exact ⟨_, _, rfl, rfl⟩
      · refine xifE (fun h' => ?_) fun h' => ?_
        · have : p = 2 := by omega
          subst this
          exact ⟨_, _, rfl, rfl⟩
        · have : backN p = p := by
            have h : p = 3 ∨ p = 4 ∨ p = 5 := by omega
            rcases h with rfl | rfl | rfl <;> rfl
          rw [this]
          exact ⟨_, _, rfl, rfl⟩
    rintro vs g w20 ⟨x, y, rfl, rfl⟩
    refine (c_If (p := backN p) (o := 14) (n := 0) (mt := none) hbk rfl (cb15.extN h1519) pb (ca15.extN h1519) pa (hw15.extN h1519).mt0 (by omega)).mono ?_
    rintro _ w20 ⟨tt, n20, rfl, P20⟩
    have he20 : Ext No w19 w20 := P20.ext
    have h1520 := h1519.transN he20
    have hw20 := hw15.extN h1520
    have pt : Pr (interK (backN p) mb ma) := interF_pr pb
    have cq := (P17.ct.extN he18).extN (he19.transN he20)
    have cs := P19.ct.extN he20
    have cp := ((P16.ct.extN he17).extN he18).extN (he19.transN he20)
    have ct := P20.ct
    have eqs : tq.er.shape = ts.er.shape := cq.shapeI cs fun k => by
      rw [interF_look, interF_look, interF_look, interF_look, interO_assoc hpp]
    have etp : tt.er.shape = tp.er.shape := ct.shapeI cp fun k => by
      rw [interF_look, interF_look, interO_back hpp]
    have hE20 := ((hE2d.transN h28).transN h815).transN h1520
    refine xj (fun vs w' => vs = [.bool true] ∧ Ext No w w') ?_ ?_
    · refine (c_Shape hw20.tab cq.tree cq.leafy (cq.tree.shapeLen cq.can pq.rises pq.many)).mono ?_
      rintro _ w21 ⟨rfl, he21⟩
      refine (c_Shape (hw20.extN he21).tab (cs.extN he21).tree cs.leafy (cs.tree.shapeLen cs.can ps.rises ps.many)).mono ?_
      rintro _ w22 ⟨rfl, he22⟩
      refine xseq ?_
      refine xifT (decide_eq_true eqs) ?_
      have h2022 := he21.transN he22
      refine (c_Shape (hw20.extN h2022).tab (ct.extN h2022).tree ct.leafy (ct.tree.shapeLen ct.can pt.rises pt.many)).mono ?_
      rintro _ w23 ⟨rfl, he23⟩
      have h2023 := h2022.transN he23
      refine (c_Shape (hw20.extN h2023).tab (cp.extN h2023).tree cp.leafy (cp.tree.shapeLen cp.can pp.rises pp.many)).mono ?_
      rintro _ w24 ⟨rfl, he24⟩
      refine xseq ?_
      refine xifT (decide_eq_true etp) ?_
      have h2024 := h2023.transN he24
      refine (c_alive (hw20.extN h2024)).mono ?_
      rintro _ w25 ⟨rfl, he25⟩
      exact ⟨rfl, (hE20.transN h2024).transN he25⟩
    · rintro vs g w21 ⟨rfl, he⟩
      exact ⟨rfl, he⟩
end
end law25
end Go.Proofs.YtbgfmgkimccbeaaGreatDoor
