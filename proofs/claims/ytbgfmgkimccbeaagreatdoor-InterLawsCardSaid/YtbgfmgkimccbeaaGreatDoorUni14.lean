/-  union: two ends are one.  -/
import Derived.Test.YtbgfmgkimccbeaaGreatDoorUni8
import Derived.Laws.StructEq
import Derived.Test.YtbgfmgkimccbeaaGreatDoorUni
import Derived.Test.YtbgfmgkimccbeaaGreatDoorRefV
section
namespace Go.Proofs.YtbgfmgkimccbeaaGreatDoor
open Go Go.RowKit X
set_option linter.unusedSimpArgs false
set_option linter.unusedVariables false
set_option linter.unusedSectionVars false
noncomputable abbrev endF (i : Nat) : Field := (P.fieldsOf T_union_end).getD i { name := "", type := 0, offset := 0, embedded := false, tag := "", pkgPath := "", byteOffset := 0 }
theorem endF_all : (P.fieldsOf T_union_end).toList = [endF 0, endF 1] := by kernel_rfl
theorem endF_0 : (endF 0).name = "n" ∧ (endF 0).type = T_p_node_Node ∧ (endF 0).offset = 0 := ⟨by kernel_rfl, by kernel_rfl, by kernel_rfl⟩
theorem endF_1 : (endF 1).name = "off" ∧ (endF 1).type = T_int ∧ (endF 1).offset = 1 := ⟨by kernel_rfl, by kernel_rfl, by kernel_rfl⟩
theorem part_cell {Q : Program} {t : TypeId} {d : TypeDesc} {xs : Array Value} {o : Nat} {w : World} {v : Value} (hu : Q.underlying t = some d) (hd : aggT Q t = false) (h : xs[o]? = some v) : (part t xs o).run Q w = .ok v w := by
  have ha : (isAgg t).run Q w = .ok false w := by rw [isAgg_run hu, hd]
  unfold part
  rw [Sem.run_bind, ha, Result.andThen_ok, if_neg (by simp), h]
  rfl
theorem eq_ptr_g {Q : Program} {w : World} {d : Nat} {t e : TypeId} {i : TypeInfo} {a b : Addr} {r : Bool} (hu : Q.underlying t = some (.pointer e)) (hi : Q.info? e = some i) (hs : Q.cellsOf e ≠ 0) (h : (sameAddr a b).run Q w = .ok r w) : (Op.equalIn (d + 1) t (.pointer (some a)) (.pointer (some b))).run Q w = .ok r w := by
  simp only [Op.equalIn, Sem.run_bind, run_underlying hu, Result.andThen_ok, run_sizeOf w hi]
  rw [if_pos hs]
  exact h
theorem eq_two {Q : Program} {w : World} {d : Nat} {f0 f1 : Field} {xs ys : Array Value} {x0 x1 y0 y1 : Value} {t u : Bool} (n0 : f0.name ≠ "_") (n1 : f1.name ≠ "_")
    (p0 : (part f0.type xs f0.offset).run Q w = .ok x0 w) (q0 : (part f0.type ys f0.offset).run Q w = .ok y0 w) (e0 : (Op.equalIn d f0.type x0 y0).run Q w = .ok t w)
    (p1 : (part f1.type xs f1.offset).run Q w = .ok x1 w) (q1 : (part f1.type ys f1.offset).run Q w = .ok y1 w) (e1 : (Op.equalIn d f1.type x1 y1).run Q w = .ok u w) :
    (Op.eqFields d xs ys [f0, f1]).run Q w = .ok (t && u) w := by
  simp only [Op.eqFields]
  rw [if_pos n0]
  simp only [Sem.run_bind, p0, q0, e0, Result.andThen_ok]
  cases t with
  | false => simp
  | true =>
    rw [if_neg (by simp), if_pos n1]
    simp only [Sem.run_bind, p1, q1, e1, Result.andThen_ok]
    cases u <;> simp
theorem size_node : P.cellsOf T_node_Node = 5 := by kernel_rfl
theorem agg_ptr : aggT P T_p_node_Node = false := by kernel_rfl
theorem agg_int : aggT P T_int = false := by kernel_rfl
theorem und_ptr : P.underlying T_p_node_Node = some (.pointer T_node_Node) := by kernel_rfl
theorem und_int : P.underlying T_int = some (.int .i64) := by kernel_rfl
theorem inf_node : ∃ i, P.info? T_node_Node = some i := by
  have h1 : (P.info? T_node_Node).isSome = true := by kernel_rfl
  exact Option.isSome_iff_exists.1 h1
theorem xeqv_end {w : World} {a b : Nat} {i j : Nat} {x y : Operand} {t : Bool} {K : Bool → Prop} (h : (sameAddr ⟨a, 0, none⟩ ⟨b, 0, none⟩).run P w = .ok t w) (k : K (t && decide (i = j))) :
    XEqv P .eql T_union_end x y (.agg #[rp a, .int .i64 i]) (.agg #[rp b, .int .i64 j]) w K := by
  refine ⟨⟨t && decide (i = j), run_eqGuard_agg w _ _ _ _ _ _ (by kernel_rfl), ?_, k⟩⟩
  show (Op.equalIn (9999 + 1) T_union_end _ _).run P w = _
  rw [run_equalIn_struct w 9999 _ _ _ (by kernel_rfl) (by kernel_rfl), endF_all]
  obtain ⟨n0, t0, o0⟩ := endF_0
  obtain ⟨n1, t1, o1⟩ := endF_1
  have e1 : (((i : Nat) : Int) == (j : Int)) = decide (i = j) := by
    by_cases e : i = j
    · subst e; simp
    · rw [decide_eq_false e]; exact beq_eq_false_iff_ne.2 (by omega)
  have hint : (Op.equalIn 9999 T_int (.int .i64 (i : Int)) (.int .i64 (j : Int))).run P w = .ok (decide (i = j)) w := by
    have := run_equalIn_int w 9998 T_int .i64 .i64 (i : Int) (j : Int) und_int
    rw [e1] at this
    exact this
  obtain ⟨inf, hinf⟩ := inf_node
  refine eq_two (x0 := rp a) (y0 := rp b) (x1 := .int .i64 (i : Int)) (y1 := .int .i64 (j : Int)) (by rw [n0]; decide) (by rw [n1]; decide) ?_ ?_ ?_ ?_ ?_ ?_
  · rw [t0, o0]; exact part_cell und_ptr agg_ptr rfl
  · rw [t0, o0]; exact part_cell und_ptr agg_ptr rfl
  · rw [t0]; exact eq_ptr_g (d := 9998) und_ptr hinf (by rw [size_node]; decide) h
  · rw [t1, o1]; exact part_cell und_int agg_int rfl
  · rw [t1, o1]; exact part_cell und_int agg_int rfl
  · rw [t1]; exact hint
end Go.Proofs.YtbgfmgkimccbeaaGreatDoor
end
section
namespace Go.Proofs.YtbgfmgkimccbeaaGreatDoor
open Go Go.RowKit X
set_option linter.unusedSimpArgs false
set_option linter.unusedVariables false
set_option linter.unusedSectionVars false
variable [Floor]
theorem xkeepA {w : World} {b : Nat} {cs : List Value} {T : TypeId} (h : Blk w b cs T) : xKeepN w (.pointer (some ⟨b, 0, none⟩)) (.agg cs.toArray) := by
  show ∀ i, i < cs.toArray.size → w.cell? ((⟨b, 0, none⟩ : Addr).add i) = cs.toArray[i]?
  intro i hi
  rw [Addr.add_lit, h.cell, Nat.zero_add]
  simp
theorem offE_long {off : Nat} {e : E} : True := trivial
section
variable {w : World} {aa aow ba bow o p n oa ob M : Nat} {apart bpart : Key} {aval bval : Option Nat} {aks bks : List Nat} {akids bkids : UInt8 → T} {mt : Option Mtr} {a b t' : T}
/-- nothing, and a tree -/
theorem ur_nil {n' : Nat} {w' : World} (hb : Go1 w b ob) (htr : Tree w' t') (her : t'.er = offE ob b.er) (hl : t'.Leafy) (hall : ∀ c, t'.All c → b.All c ∨ w.heap.size ≤ c) (hm : Mt w' mt n') (hz : ob = 0 → t' = b ∧ n' = n) (he : Ext (MX mt) w w') : UR w w' p .nil b oa ob t' mt n n' := by
  refine ⟨htr, hm, he, fun c hc => .inr (hall c hc), hl, ⟨by rw [her]; exact offE_fine hb.fine, fun k => by rw [her]; show _ = mergeO p ((offE oa E.nil).get k) _; rfl⟩, fun h0 hmg => ?_⟩
  have hbn : b = .nil := by
    cases hb' : b with
    | nil => rfl
    | node =>
      exfalso
      obtain ⟨k, v, hk⟩ := low_some (low := b) (ol := ob) (by rw [hb']; simp) hb.fine
      have := hmg k
      rw [hk] at this
      cases this
  subst hbn
  have h0 : ob = 0 := by have := hb.off; have : ob ≤ 0 := this; omega
  obtain ⟨rfl, rfl⟩ := hz h0
  exact ⟨rfl, rfl⟩
/-- a tree, and what is not more -/
theorem ur_same {n' : Nat} {w' : World} (ha : Go1 w a oa) (htr : Tree w' t') (her : t'.er = offE oa a.er) (hl : t'.Leafy) (hall : ∀ c, t'.All c → a.All c ∨ w.heap.size ≤ c) (hm : Mt w' mt n') (hz : oa = 0 → t' = a ∧ n' = n) (he : Ext (MX mt) w w')
    (hmg : ∀ k, mergeO p ((offE oa a.er).get k) ((offE ob b.er).get k) = (offE oa a.er).get k) : UR w w' p a b oa ob t' mt n n' :=
  ⟨htr, hm, he, fun c hc => (hall c hc).imp id .inr, hl, ⟨by rw [her]; exact offE_fine ha.fine, fun k => by rw [her, hmg k]⟩, fun h0 _ => by obtain ⟨rfl, rfl⟩ := hz h0; exact ⟨rfl, rfl⟩⟩
/-- the lower one second -/
theorem ur_under {n' r0 : Nat} {w' : World} {y : UInt8} (ha : Go1 w (.node aa aow apart aval aks akids) oa) (hb : Go1 w (.node ba bow bpart bval bks bkids) ob) (hsp : bpart.drop ob = apart.drop oa ++ y :: bpart.drop r0)
    (hD : DR w w' (.node aa aow apart aval aks akids) (.node ba bow bpart bval bks bkids) oa r0 y p false t' mt n n') : UR w w' p (.node aa aow apart aval aks akids) (.node ba bow bpart bval bks bkids) oa ob t' mt n n' := by
  obtain ⟨e2, her, hcan⟩ := hD.er
  have hfa : (E.node (apart.drop oa) aval fun c => (akids c).er).Fine := offE_fine (off := oa) ha.fine
  have hfb : (E.node (bpart.drop r0) bval fun c => (bkids c).er).Fine := offE_fine (off := r0) hb.fine
  have hC := can_under (p := p) hfa hfb (y := y) (e2 := e2) hcan
  rw [← hsp] at hC
  refine ⟨hD.tree, hD.cnt, hD.ext, hD.all, hD.leafy, ⟨by rw [her]; exact hC.fine, fun k => by rw [her]; exact hC.get k⟩, fun h0 hmg => hD.idle rfl h0 fun r => ?_⟩
  subst h0
  have hsp' : bpart.drop ob = apart ++ y :: bpart.drop r0 := hsp
  have h1 := hmg (apart ++ y :: r)
  have e : offE ob (T.node ba bow bpart bval bks bkids).er = E.node (apart ++ y :: bpart.drop r0) bval fun c => (bkids c).er := by
    show E.node (bpart.drop ob) bval _ = _
    rw [hsp']
  rw [e] at h1
  have h1 : mergeO p ((E.node apart aval fun c => (akids c).er).get (apart ++ y :: r)) ((E.node (apart ++ y :: bpart.drop r0) bval fun c => (bkids c).er).get (apart ++ y :: r)) = (E.node apart aval fun c => (akids c).er).get (apart ++ y :: r) := h1
  rw [get_cons, get_shift] at h1
  exact h1
/-- the lower one first -/
theorem ur_under' {n' r0 : Nat} {w' : World} {y : UInt8} (ha : Go1 w (.node aa aow apart aval aks akids) oa) (hb : Go1 w (.node ba bow bpart bval bks bkids) ob) (hsp : apart.drop oa = bpart.drop ob ++ y :: apart.drop r0)
    (hD : DR w w' (.node ba bow bpart bval bks bkids) (.node aa aow apart aval aks akids) ob r0 y p true t' mt n n') : UR w w' p (.node aa aow apart aval aks akids) (.node ba bow bpart bval bks bkids) oa ob t' mt n n' := by
  obtain ⟨e2, her, hcan⟩ := hD.er
  have hfb : (E.node (bpart.drop ob) bval fun c => (bkids c).er).Fine := offE_fine (off := ob) hb.fine
  have hfa : (E.node (apart.drop r0) aval fun c => (akids c).er).Fine := offE_fine (off := r0) ha.fine
  have hC := can_under' (p := p) hfb hfa (y := y) (e2 := e2) hcan
  rw [← hsp] at hC
  refine ⟨hD.tree, hD.cnt, hD.ext, fun c hc => (hD.all c hc).elim (fun h => .inr (.inl h)) fun h => h.elim .inl fun h => .inr (.inr h), hD.leafy, ⟨by rw [her]; exact hC.fine, fun k => by rw [her]; exact hC.get k⟩, fun h0 hmg => ?_⟩
  exfalso
  subst h0
  refine no_under (p := p) (Q := bpart.drop ob) (p' := apart.drop r0) (y := y) (va := aval) (ka := fun c => (akids c).er) hfb fun k => ?_
  have h1 := hmg k
  have hsp' : apart = bpart.drop ob ++ y :: apart.drop r0 := hsp
  have e : (T.node aa aow apart aval aks akids).er = E.node (bpart.drop ob ++ y :: apart.drop r0) aval fun c => (akids c).er := by
    show E.node apart aval _ = _
    rw [← hsp']
  rw [e] at h1
  exact h1
end
end Go.Proofs.YtbgfmgkimccbeaaGreatDoor
end
section
namespace Go.Proofs.YtbgfmgkimccbeaaGreatDoor
open Go Go.RowKit X
set_option linter.unusedSimpArgs false
set_option linter.unusedVariables false
set_option linter.unusedSectionVars false
variable [Floor]
section
variable {w : World} {aa aow ba bow o p n oa ob ou ol M : Nat} {apart bpart : Key} {aval bval : Option Nat} {aks bks : List Nat} {akids bkids : UInt8 → T} {mt : Option Mtr} {y : UInt8} {low : T} {turned : Bool}
theorem c_uUnder (hI : OfS p o mt M) (hup : Go1 w (.node aa aow apart aval aks akids) ou) (hlow : Go1 w low ol) (hln : low ≠ .nil) (hm : Mt w mt n) (ho : o ≠ 0) (hM : ((T.node aa aow apart aval aks akids).er.long + 1 - ou) + (low.er.long + 1 - ol) ≤ M) :
    Ret P n_union_joiner_under [joiV p o mt, endV (.node aa aow apart aval aks akids) ou, bv y, endV low ol, .bool turned] w fun r w' => ∃ t' n', r = t'.v ∧ DR w w' (.node aa aow apart aval aks akids) low ou ol y p turned t' mt n n' := by
  cases aks with
  | nil => exact c_uUnderLeaf hup hlow hln hm ho
  | cons k r => exact c_uUnderNode hI hup (by simp) hlow hln hm ho hM
theorem Go1.mono {t : T} {o1 o2 : Nat} (h : Go1 w t o1) (h2 : o2 ≤ t.part.length) : Go1 w t o2 := ⟨h.tree, h.fine, h.leafy, h.long, h2⟩
set_option maxHeartbeats 2000000 in
theorem c_uOfNodes (hI : OfS p o mt M) (ha : Go1 w (.node aa aow apart aval aks akids) oa) (hb : Go1 w (.node ba bow bpart bval bks bkids) ob) (ho : o ≠ 0) (hp : 1 ≤ p ∧ p ≤ 5) (hM : ((T.node aa aow apart aval aks akids).er.long + 1 - oa) + ((T.node ba bow bpart bval bks bkids).er.long + 1 - ob) ≤ M) (hm : Mt w mt n) :
    Ret P n_union_joiner_of [joiV p o mt, endV (.node aa aow apart aval aks akids) oa, endV (.node ba bow bpart bval bks bkids) ob] w fun r w' => ∃ t' n', r = t'.v ∧ UR w w' p (.node aa aow apart aval aks akids) (.node ba bow bpart bval bks bkids) oa ob t' mt n n' := by
  have hoffa : oa ≤ apart.length := ha.off
  have hoffb : ob ≤ bpart.length := hb.off
  have hsa := ha.tree.1.short
  have hsb := hb.tree.1.short
  refine W_union_joiner_of ?_
  refine xnew fun jb w1 hjb hj hz1 he1 => ?_
  have hj : Blk w1 jb (joiC p o mt) T_union_joiner := hj
  refine xnew fun ea w2 hea hA hz2 he2 => ?_
  have hA : Blk w2 ea [(T.node aa aow apart aval aks akids).v, .int .i64 oa] T_union_end := hA
  refine xnew fun eb w3 heb hB hz3 he3 => ?_
  have hB : Blk w3 eb [(T.node ba bow bpart bval bks bkids).v, .int .i64 ob] T_union_end := hB
  have hj3 := (hj.ext he2 fun h => h).ext he3 fun h => h
  have hA3 := hA.ext he3 fun h => h
  have hE3 := (he1.transN he2).transN he3
  have ha3 := ha.extN hE3
  have hb3 := hb.extN hE3
  have hm3 := hm.extN hE3
  refine hA3.ld (v := (T.node aa aow apart aval aks akids).v) rfl ?_
  refine xifF rfl ?_
  obtain ⟨pva, hba, -⟩ := ha3.tree.1.blk
  obtain ⟨pvb, hbb, -⟩ := hb3.tree.1.blk
  refine xj (fun vs w' => ∃ t : Bool, vs = [.bool t] ∧ w' = w3 ∧ (t = true → p ≠ 3 ∧ aa = ba ∧ oa = ob)) ?_ ?_
  · refine hB.ld (v := (T.node ba bow bpart bval bks bkids).v) rfl ?_
    refine xifF rfl ?_
    refine hA3.ldA rfl ?_
    refine hB.ldA rfl ?_
    have key : ∀ t : Bool, (sameAddr ⟨aa, 0, none⟩ ⟨ba, 0, none⟩).run P w3 = .ok t w3 → (t = true → aa = ba) → XEqv P .eql T_union_end (.tmp 21) (.tmp 22) (.agg #[rp aa, .int .i64 oa]) (.agg #[rp ba, .int .i64 ob]) w3 fun r1020 =>
        xIf (.bool r1020) (XLd w3 (((⟨jb, 0, none⟩ : Addr).add 0).add 1) fun v1021 => ∃ t : Bool, [v1021] = [.bool t] ∧ w3 = w3 ∧ (t = true → p ≠ 3 ∧ aa = ba ∧ oa = ob)) (∃ t : Bool, [Value.bool false] = [.bool t] ∧ w3 = w3 ∧ (t = true → p ≠ 3 ∧ aa = ba ∧ oa = ob)) := fun t ht htt => by
      refine xeqv_end ht ?_
      by_cases h : (t && decide (oa = ob)) = true
      · rw [h]
        refine xifT rfl ?_
        refine hj3.ld (o := 1) (v := .bool (polS p)) rfl ?_
        simp only [Bool.and_eq_true, decide_eq_true_eq] at h
        exact ⟨_, rfl, rfl, fun hs => ⟨by unfold polS at hs; simpa using hs, htt h.1, h.2⟩⟩
      · rw [show (t && decide (oa = ob)) = false by simpa using h]
        exact xifF rfl ⟨false, rfl, rfl, fun h => by cases h⟩
    by_cases e : aa = ba
    · exact key true (by rw [e]; exact run_sameAddr_same _ _) fun _ => e
    · exact key false (run_sameAddr_other _ (by simp [e]) hba.h hbb.h) fun h => by cases h
  rintro vs g w4 ⟨t, rfl, rfl, ht⟩
  cases t with
  | true =>
    obtain ⟨h3, e, rfl⟩ := ht rfl
    refine xifT rfl ?_
    refine hj3.ldA rfl ?_
    refine hA3.ldA rfl ?_
    refine (c_whole (p := p) ha3.tree hm3 ho ha3.off).mono ?_
    rintro _ w5 ⟨t', n', rfl, htr, her, hl, hall, hm5, -, hz, he5⟩
    have hab := Tree.inj ha3.tree hb3.tree (by show some (⟨aa, 0, none⟩ : Addr) = some ⟨ba, 0, none⟩; rw [e])
    refine ⟨t', n', rfl, (ur_same ha3 htr her (hl ha.leafy) hall hm5 hz he5 fun k => ?_).from' hE3⟩
    rw [← hab, merge_same h3]
  | false =>
    refine xifF rfl ?_
    have hd := Ext.drew (Ext.refl No w4)
    refine hA3.drew.ldA rfl ?_
    refine hB.drew.ldA rfl ?_
    refine (c_endPart (off := oa) (ha3.tree.extN hd) ha3.off).mono ?_
    rintro pv w5 ⟨hpv, he5⟩
    have hpv : Bs w5 pv (apart.drop oa) := hpv
    have he45 := hd.transN he5
    refine ⟨xkeepA (hB.ext he45 fun h => h), ?_⟩
    refine (c_endPart (off := ob) (hb3.tree.extN he45) hb3.off).mono ?_
    rintro qv w6 ⟨hqv, he6⟩
    have hqv : Bs w6 qv (bpart.drop ob) := hqv
    have hpv6 := hpv.extN he6
    refine (c_Common hpv6 hqv (by rw [List.length_drop]; omega) (by rw [List.length_drop]; omega)).mono ?_
    rintro _ w7 ⟨rfl, he7⟩
    have he47 := (he45.transN he6).transN he7
    have hE7 := hE3.transN he47
    have hp7 := hpv6.extN he7
    have hq7 := hqv.extN he7
    have hj7 := hj3.ext he47 fun h => h
    have hA7 := hA3.ext he47 fun h => h
    have hB7 := hB.ext he47 fun h => h
    have ha7 := ha.extN hE7
    have hb7 := hb.extN hE7
    have hm7 := hm.extN hE7
    have hdl : (apart.drop oa).length = apart.length - oa := List.length_drop
    have hdl' : (bpart.drop ob).length = bpart.length - ob := List.length_drop
    obtain ⟨c, q, r, ha0, hb0, hc0, hdf⟩ := common_split (apart.drop oa) (bpart.drop ob)
    rw [← hc0]
    have hla : (apart.drop oa).length = c.length + q.length := by rw [ha0, List.length_append]
    have hlb : (bpart.drop ob).length = c.length + r.length := by rw [hb0, List.length_append]
    have hdropa : ∀ k, apart.drop (oa + k) = (c ++ q).drop k := fun k => by rw [← ha0, List.drop_drop]
    have hdropb : ∀ k, bpart.drop (ob + k) = (c ++ r).drop k := fun k => by rw [← hb0, List.drop_drop]
    have hd7 := Ext.drew (Ext.refl No w7)
    have hE7d := hE7.transN hd7
    have hs7 := hE7.size
    have goodq : ∀ y r', r = y :: r' → (bpart.drop ob)[c.length]? = some y := fun y r' e => by rw [hb0, e]; simp
    have goodp : ∀ x q', q = x :: q' → (apart.drop oa)[c.length]? = some x := fun x q' e => by rw [ha0, e]; simp
    refine xj (fun vs w' => ∃ t : Bool, vs = [.bool t] ∧ w7 = w' ∧ (t = true ↔ q ≠ [] ∧ r ≠ [])) ?_ ?_
    · refine hp7.len ?_
      refine xifD (fun h => ?_) fun h => ⟨false, rfl, rfl, ?_⟩
      · refine hq7.len ?_
        refine ⟨_, rfl, rfl, ?_⟩
        rw [decide_eq_true_iff]
        constructor
        · intro h2; exact ⟨fun e => by subst e; simp at hla; omega, fun e => by subst e; simp at hlb; omega⟩
        · rintro ⟨-, h2⟩
          have : 0 < r.length := List.length_pos_iff.2 h2
          omega
      · constructor
        · intro h2; cases h2
        · rintro ⟨h2, -⟩
          have : 0 < q.length := List.length_pos_iff.2 h2
          omega
    rintro vs g w8 ⟨t, rfl, rfl, ht⟩
    cases t with
    | true =>
      obtain ⟨hq0, hr0⟩ := ht.1 rfl
      obtain ⟨x, q', rfl⟩ := List.exists_cons_of_ne_nil hq0
      obtain ⟨y, r', rfl⟩ := List.exists_cons_of_ne_nil hr0
      have hxy : x ≠ y := hdf x y q' r' rfl rfl
      have hx := goodp x q' rfl
      have hy := goodq y r' rfl
      obtain ⟨hxl, hxe⟩ := List.getElem?_eq_some_iff.1 hx
      obtain ⟨hyl, hye⟩ := List.getElem?_eq_some_iff.1 hy
      refine xifT rfl ?_
      refine hj7.drew.ldA rfl ?_
      refine (hp7.extN hd7).take c.length rfl (by omega) fun v' hv' => ?_
      rw [ha0, List.take_left] at hv'
      refine (hp7.extN hd7).rdK c.length hxl rfl fun p0 hk0 => ?_
      rw [hxe] at hk0 ⊢
      refine hA7.drew.ldA rfl ?_
      refine (hq7.extN hd7).rdK c.length hyl rfl fun p1 hk1 => ?_
      rw [hye] at hk1 ⊢
      refine hB7.drew.ldA rfl ?_
      refine (c_endBehind (t := .node aa aow apart aval aks akids) (off := oa) (m := c.length) (by omega)).mono ?_
      rintro _ w9 ⟨rfl, he9⟩
      have h79 := hd7.transN he9
      refine ⟨xkeepA (hB7.ext h79 fun h => h), hk1 _ (hq7.extN h79), hk0 _ (hp7.extN h79), xkeepA (hj7.ext h79 fun h => h), ?_⟩
      refine (c_endBehind (t := .node ba bow bpart bval bks bkids) (off := ob) (m := c.length) (by omega)).mono ?_
      rintro _ w10 ⟨rfl, he10⟩
      have h710 := h79.transN he10
      have hE10 := hE7.transN h710
      refine ⟨hk1 _ (hq7.extN h710), hk0 _ (hp7.extN h710), xkeepA (hj7.ext h710 fun h => h), ?_⟩
      have ha10 := ha.extN hE10
      have hb10 := hb.extN hE10
      have hla' : (c ++ x :: q').length = c.length + (q'.length + 1) := by simp
      have hlb' : (c ++ y :: r').length = c.length + (r'.length + 1) := by simp
      have hla2 : c.length + (q'.length + 1) = apart.length - oa := by rw [← hla', ← ha0, hdl]
      have hlb2 : c.length + (r'.length + 1) = bpart.length - ob := by rw [← hlb', ← hb0, hdl']
      refine (c_uFork (p := p) (x := x) (y := y) (oa := oa + c.length + 1) (ob := ob + c.length + 1) ha10.tree hb10.tree ha.leafy hb.leafy (by simp) (by simp) (hm.extN hE10) ho (hv'.extN (he9.transN he10)) (by omega) (show oa + c.length + 1 ≤ apart.length by omega) (show ob + c.length + 1 ≤ bpart.length by omega) hxy).mono ?_
      rintro _ w11 ⟨t', n', rfl, htr, htn, her, hlf, hall, -, hm11, he11⟩
      have e1 : offE (oa + c.length + 1) (T.node aa aow apart aval aks akids).er = E.node q' aval fun d => (akids d).er := by
        show E.node (apart.drop (oa + c.length + 1)) aval _ = _
        rw [Nat.add_assoc, hdropa, show (c ++ x :: q').drop (c.length + 1) = q' by rw [← List.drop_drop, List.drop_left]; rfl]
      have e2 : offE (ob + c.length + 1) (T.node ba bow bpart bval bks bkids).er = E.node r' bval fun d => (bkids d).er := by
        show E.node (bpart.drop (ob + c.length + 1)) bval _ = _
        rw [Nat.add_assoc, hdropb, show (c ++ y :: r').drop (c.length + 1) = r' by rw [← List.drop_drop, List.drop_left]; rfl]
      have e3 : offE oa (T.node aa aow apart aval aks akids).er = E.node (c ++ x :: q') aval fun d => (akids d).er := by
        show E.node (apart.drop oa) aval _ = _
        rw [ha0]
      have e4 : offE ob (T.node ba bow bpart bval bks bkids).er = E.node (c ++ y :: r') bval fun d => (bkids d).er := by
        show E.node (bpart.drop ob) bval _ = _
        rw [hb0]
      have fa := offE_fine (off := oa + c.length + 1) ha.fine
      have fb := offE_fine (off := ob + c.length + 1) hb.fine
      have fb' := offE_fine (off := ob) hb.fine
      rw [e1] at fa her
      rw [e2] at fb her
      rw [e4] at fb'
      refine ⟨t', n', rfl, UR.from' hE10 ⟨htr, hm11, he11, hall, hlf, ⟨?_, fun K => ?_⟩, fun h0 hmg => ?_⟩⟩
      · rw [her]; exact fine_fork hxy fa fb (by simp) (by simp)
      · rw [her, e3, e4]; exact merge_fork hxy K
      · exfalso
        subst h0
        rw [e4] at hmg
        rw [offE_zero] at e3
        rw [e3] at hmg
        exact no_fork hxy fb' hmg
    | false =>
      refine xifF rfl ?_
      refine hq7.len ?_
      refine xifD (fun h => ?_) fun h => ?_
      · obtain ⟨y, r', rfl⟩ : ∃ y r', r = y :: r' := List.exists_cons_of_ne_nil fun e => by subst e; simp at hlb; omega
        have hqn : q = [] := by
          cases q with
          | nil => rfl
          | cons => have := ht.2 ⟨by simp, by simp⟩; cases this
        subst hqn
        have hy := goodq y r' rfl
        obtain ⟨hyl, hye⟩ := List.getElem?_eq_some_iff.1 hy
        refine hj7.drew.ldA rfl ?_
        refine hA7.drew.ldA rfl ?_
        refine (hq7.extN hd7).rdK c.length hyl rfl fun p1 hk1 => ?_
        rw [hye] at hk1 ⊢
        refine hB7.drew.ldA rfl ?_
        refine (c_endBehind (t := .node ba bow bpart bval bks bkids) (off := ob) (m := c.length) (by omega)).mono ?_
        rintro _ w9 ⟨rfl, he9⟩
        have h79 := hd7.transN he9
        have hE9 := hE7.transN h79
        refine ⟨hk1 _ (hq7.extN h79), xkeepA (hA7.ext h79 fun h => h), xkeepA (hj7.ext h79 fun h => h), ?_⟩
        have hlb' : (c ++ y :: r').length = c.length + (r'.length + 1) := by simp
        have hlb2 : c.length + (r'.length + 1) = bpart.length - ob := by rw [← hlb', ← hb0, hdl']
        have hb9 : Go1 w9 (.node ba bow bpart bval bks bkids) (ob + c.length + 1) := (hb.extN hE9).mono (show ob + c.length + 1 ≤ bpart.length by omega)
        refine (c_uUnder hI (ha.extN hE9) hb9 (by simp) (hm.extN hE9) ho (by omega)).mono ?_
        rintro _ w10 ⟨t', n', rfl, hD⟩
        refine ⟨t', n', rfl, (ur_under (r0 := ob + c.length + 1) (y := y) (ha.extN hE9) (hb.extN hE9) ?_ hD).from' hE9⟩
        rw [Nat.add_assoc, hdropb, show (c ++ y :: r').drop (c.length + 1) = r' by rw [← List.drop_drop, List.drop_left]; rfl, hb0, ha0, List.append_nil]
      · have hrn : r = [] := by
          cases r with
          | nil => rfl
          | cons => exfalso; simp at hlb; omega
        subst hrn
        refine hp7.len ?_
        refine xifD (fun h => ?_) fun h => ?_
        · obtain ⟨x, q', rfl⟩ : ∃ y r', q = y :: r' := List.exists_cons_of_ne_nil fun e => by subst e; simp at hla; omega
          have hx := goodp x q' rfl
          obtain ⟨hxl, hxe⟩ := List.getElem?_eq_some_iff.1 hx
          refine hj7.drew.ldA rfl ?_
          refine hB7.drew.ldA rfl ?_
          refine (hp7.extN hd7).rdK c.length hxl rfl fun p1 hk1 => ?_
          rw [hxe] at hk1 ⊢
          refine hA7.drew.ldA rfl ?_
          refine (c_endBehind (t := .node aa aow apart aval aks akids) (off := oa) (m := c.length) (by omega)).mono ?_
          rintro _ w9 ⟨rfl, he9⟩
          have h79 := hd7.transN he9
          have hE9 := hE7.transN h79
          refine ⟨hk1 _ (hp7.extN h79), xkeepA (hB7.ext h79 fun h => h), xkeepA (hj7.ext h79 fun h => h), ?_⟩
          have hla' : (c ++ x :: q').length = c.length + (q'.length + 1) := by simp
          have hla2 : c.length + (q'.length + 1) = apart.length - oa := by rw [← hla', ← ha0, hdl]
          have ha9 : Go1 w9 (.node aa aow apart aval aks akids) (oa + c.length + 1) := (ha.extN hE9).mono (show oa + c.length + 1 ≤ apart.length by omega)
          refine (c_uUnder hI (hb.extN hE9) ha9 (by simp) (hm.extN hE9) ho (by omega)).mono ?_
          rintro _ w10 ⟨t', n', rfl, hD⟩
          refine ⟨t', n', rfl, (ur_under' (r0 := oa + c.length + 1) (y := x) (ha.extN hE9) (hb.extN hE9) ?_ hD).from' hE9⟩
          rw [Nat.add_assoc, hdropa, show (c ++ x :: q').drop (c.length + 1) = q' by rw [← List.drop_drop, List.drop_left]; rfl, ha0, hb0, List.append_nil]
        · have hqn : q = [] := by
            cases q with
            | nil => rfl
            | cons => exfalso; simp at hla; omega
          subst hqn
          refine hj7.ldA rfl ?_
          refine hA7.ldA rfl ?_
          refine hB7.ldA rfl ?_
          refine (c_uLevel hI ha7 hb7 ho hp hM (by rw [ha0, hb0]) hm7).mono ?_
          rintro _ w10 ⟨t', n', rfl, hU⟩
          exact ⟨t', n', rfl, hU.from' hE7⟩
theorem c_uOfNil {b : T} (hb : Go1 w b ob) (ho : o ≠ 0) (hm : Mt w mt n) : Ret P n_union_joiner_of [joiV p o mt, endV .nil oa, endV b ob] w fun r w' => ∃ t' n', r = t'.v ∧ UR w w' p .nil b oa ob t' mt n n' ∧ (ob = 0 → t' = b ∧ n' = n) := by
  refine W_union_joiner_of ?_
  refine xnew fun jb w1 hjb hj hz1 he1 => ?_
  have hj : Blk w1 jb (joiC p o mt) T_union_joiner := hj
  refine xnew fun ea w2 hea hA hz2 he2 => ?_
  have hA : Blk w2 ea [.pointer none, .int .i64 oa] T_union_end := hA
  refine xnew fun eb w3 heb hB hz3 he3 => ?_
  have hB : Blk w3 eb [b.v, .int .i64 ob] T_union_end := hB
  have hj3 := (hj.ext he2 fun h => h).ext he3 fun h => h
  have hA3 := hA.ext he3 fun h => h
  have hE3 := (he1.transN he2).transN he3
  refine hA3.ld (v := .pointer none) rfl ?_
  refine xifT rfl ?_
  refine hj3.ldA rfl ?_
  refine hB.ldA rfl ?_
  have hb3 := hb.extN hE3
  refine (c_whole (p := p) hb3.tree (hm.extN hE3) ho hb.off).mono ?_
  rintro _ w4 ⟨t', n', rfl, htr, her, hl, hall, hm4, -, hz, he4⟩
  exact ⟨t', n', rfl, (ur_nil hb3 htr her (hl hb.leafy) hall hm4 hz he4).from' hE3, hz⟩
theorem c_uOf (hp : 1 ≤ p ∧ p ≤ 5) (ho : o ≠ 0) : ∀ M, OfS p o mt M := by
  intro M
  induction M with
  | zero => intro w a b oa ob n hlt; omega
  | succ M ih =>
    intro w a b oa ob n hlt ha hb hm
    cases a with
    | nil => exact (c_uOfNil hb ho hm).mono fun r w' ⟨t', n', h1, h2, _⟩ => ⟨t', n', h1, h2⟩
    | node aa aow apart aval aks akids =>
      cases b with
      | nil =>
        refine W_union_joiner_of ?_
        refine xnew fun jb w1 hjb hj hz1 he1 => ?_
        have hj : Blk w1 jb (joiC p o mt) T_union_joiner := hj
        refine xnew fun ea w2 hea hA hz2 he2 => ?_
        have hA : Blk w2 ea [(T.node aa aow apart aval aks akids).v, .int .i64 oa] T_union_end := hA
        refine xnew fun eb w3 heb hB hz3 he3 => ?_
        have hB : Blk w3 eb [.pointer none, .int .i64 ob] T_union_end := hB
        have hj3 := (hj.ext he2 fun h => h).ext he3 fun h => h
        have hA3 := hA.ext he3 fun h => h
        have hE3 := (he1.transN he2).transN he3
        refine hA3.ld (v := (T.node aa aow apart aval aks akids).v) rfl ?_
        refine xifF rfl ?_
        refine xj (fun vs w' => vs = [.bool true] ∧ w3 = w') ?_ ?_
        · refine hB.ld (v := .pointer none) rfl ?_
          exact xifT rfl ⟨rfl, rfl⟩
        rintro vs g w4 ⟨rfl, rfl⟩
        refine xifT rfl ?_
        refine hj3.ldA rfl ?_
        refine hA3.ldA rfl ?_
        have ha3 := ha.extN hE3
        refine (c_whole (p := p) ha3.tree (hm.extN hE3) ho ha.off).mono ?_
        rintro _ w4 ⟨t', n', rfl, htr, her, hl, hall, hm4, -, hz, he4⟩
        refine ⟨t', n', rfl, (ur_same ha3 htr her (hl ha.leafy) hall hm4 hz he4 fun k => ?_).from' hE3⟩
        exact merge_none
      | node ba bow bpart bval bks bkids =>
        exact c_uOfNodes ih ha hb ho hp (by omega) hm
end
end Go.Proofs.YtbgfmgkimccbeaaGreatDoor
end
section
namespace Go.Proofs.YtbgfmgkimccbeaaGreatDoor
open Go Go.RowKit X
set_option linter.unusedSimpArgs false
set_option linter.unusedVariables false
set_option linter.unusedSectionVars false
variable [Floor]
section
variable {w : World} {a b : T} {o n : Nat} {mt : Option Mtr} {z : Int} {l m : Kv}
/-- a tree of pairs may be put together -/
theorem Ct.go1 (h : Ct w a l) (hp : Pr l) : Go1 w a 0 := ⟨h.tree, h.can.fine, h.leafy, by have := h.long hp; omega, Nat.zero_le _⟩
/-- the union of two trees -/
structure OfR (w w' : World) (p : Nat) (a b : T) (l m : Kv) (t' : T) (mt : Option Mtr) (n n' : Nat) : Prop where
  ct : Ct w' t' (unionK p l m)
  cnt : Mt w' mt n'
  ext : Ext (MX mt) w w'
  all : ∀ c, t'.All c → a.All c ∨ b.All c ∨ w.heap.size ≤ c
  idle : unionK p l m = l → t'.v = a.v ∧ n' = n
  nil : a = .nil → t'.v = b.v ∧ n' = n
theorem c_Of {p : Nat} (hp : 1 ≤ p ∧ p ≤ 5) (hz : z = p) (ha : Ct w a l) (hl : Pr l) (hb : Ct w b m) (hm : Pr m) (hmt : Mt w mt n) (ho : o ≠ 0) :
    Ret P n_union_Of [.int .i64 z, a.v, b.v, .int .u64 o, mv mt] w fun r w' => ∃ t' n', r = .tuple #[t'.v, .int .i64 0] ∧ OfR w w' p a b l m t' mt n n' := by
  refine W_union_Of ?_
  refine (c_ufind (z := z)).mono ?_
  rintro r w1 ⟨he1, ⟨p', h1, h5, hp', rfl⟩ | ⟨hn, rfl⟩⟩
  case inr => exact absurd ⟨by omega, by omega⟩ hn
  obtain rfl : p' = p := by omega
  refine xnew fun g w2 hg hblk hz2 he2 => ?_
  refine store2 hblk (by kernel_rfl) (by unfold polF; split <;> rfl) rfl fun w3 hb3 hz3 he3 => ?_
  have hs1 := he1.size
  have hE3 : Ext No w w3 := (he1.transN he2).trans1 he3 (by omega)
  refine xj (fun vs w' => vs = [.bool false] ∧ w3 = w') ?_ ?_
  · refine xifF rfl ?_
    refine ⟨?_, rfl⟩
    simp; omega
  rintro vs g' w4 ⟨rfl, rfl⟩
  refine xifF rfl ?_
  refine hb3.ldA rfl ?_
  have key : Ret P n_union_joiner_of [joiV p' o mt, endV a 0, endV b 0] w3 fun r w' => ∃ t' n', r = t'.v ∧ UR w3 w' p' a b 0 0 t' mt n n' ∧ (a = .nil → t' = b ∧ n' = n) := by
    cases a with
    | nil => exact (c_uOfNil ((hb.go1 hm).extN hE3) ho (hmt.extN hE3)).mono fun _ _ ⟨t', n', h1, h2, h3⟩ => ⟨t', n', h1, h2, fun _ => h3 rfl⟩
    | node => exact (c_uOf hp ho _ (Nat.lt_succ_self _) ((ha.go1 hl).extN hE3) ((hb.go1 hm).extN hE3) (hmt.extN hE3)).mono fun _ _ ⟨t', n', h1, h2⟩ => ⟨t', n', h1, h2, fun h => by cases h⟩
  refine key.mono ?_
  rintro _ w5 ⟨t', n', rfl, hU, hnil⟩
  have hU := hU.from' hE3
  have hcan : Can t'.er (look (unionK p' l m)) := hU.can.congr fun k => by
    rw [offE_zero, offE_zero, ha.can.get, hb.can.get, unionK_look hl.rises hm.rises]
  refine ⟨t', n', rfl, ⟨⟨hU.tree, hcan, hU.leafy⟩, hU.cnt, hU.ext, hU.all, fun e => ?_, fun e => ?_⟩⟩
  · obtain ⟨h1, h2⟩ := hU.idle rfl fun k => by
      rw [offE_zero, ha.can.get, hb.can.get, ← unionK_look hl.rises hm.rises, e]
    exact ⟨T.v_of_ptr h1, h2⟩
  · obtain ⟨rfl, rfl⟩ := hnil e
    exact ⟨rfl, rfl⟩
end
end Go.Proofs.YtbgfmgkimccbeaaGreatDoor
end
