import Derived.Test.YtbnhggfiembejaaGreatDoorUni8
import Derived.Laws.StructEq
import Derived.Test.YtbnhggfiembejaaGreatDoorUni
import Derived.Test.YtbnhggfiembejaaGreatDoorRefV
section
namespace Go.Proofs.YtbnhggfiembejaaGreatDoor
open Go Go.RowKit X
set_option linter.unusedSimpArgs false
set_option linter.unusedVariables false
set_option linter.unusedSectionVars false
noncomputable abbrev QdU (i : Nat) : Field:=(P.fieldsOf Qj).getD i { name:="",type:=0,offset:=0,embedded:=false,tag:="",pkgPath:="",byteOffset:=0 }
theorem Qnz : (P.fieldsOf Qj).toList = [QdU 0,QdU 1]:=by kernel_rfl
theorem Qvs : (QdU 0).name = "n" ∧ (QdU 0).type = Jz ∧ (QdU 0).offset = 0:=⟨by kernel_rfl,by kernel_rfl,by kernel_rfl⟩
theorem Qvr : (QdU 1).name = "off" ∧ (QdU 1).type = Ht ∧ (QdU 1).offset = 1:=⟨by kernel_rfl,by kernel_rfl,by kernel_rfl⟩
theorem Vq {Q : Program} {t : TypeId} {d : TypeDesc} {xs : Array Value} {o : Nat} {w : World} {v : Value} (hu : Q.underlying t = some d) (hd : Q1E Q t = false) (h : xs[o]? = some v) : (part t xs o).run Q w = .ok v w:=by
 have ha : (isAgg t).run Q w = .ok false w:=by rw [Qac hu,hd]
 unfold part
 rw [Sem.run_bind,ha,Result.andThen_ok,if_neg (by simp),h]
 rfl
theorem Q7N {Q : Program} {w : World} {d : Nat} {t e : TypeId} {i : TypeInfo} {a b : Addr} {r : Bool} (hu : Q.underlying t = some (.pointer e)) (hi : Q.info? e = some i) (hs : Q.cellsOf e ≠ 0) (h : (sameAddr a b).run Q w = .ok r w) : (Op.equalIn (d + 1) t (.pointer (some a)) (.pointer (some b))).run Q w = .ok r w:=by
 simp only [Op.equalIn,Sem.run_bind,run_underlying hu,Result.andThen_ok,run_sizeOf w hi]
 rw [if_pos hs]
 exact h
theorem Qgo {Q : Program} {w : World} {d : Nat} {f0 f1 : Field} {xs ys : Array Value} {x0 x1 y0 y1 : Value} {t u : Bool} (n0 : f0.name ≠ "_") (n1 : f1.name ≠ "_")
  (p0 : (part f0.type xs f0.offset).run Q w = .ok x0 w) (q0 : (part f0.type ys f0.offset).run Q w = .ok y0 w) (e0 : (Op.equalIn d f0.type x0 y0).run Q w = .ok t w)
  (p1 : (part f1.type xs f1.offset).run Q w = .ok x1 w) (q1 : (part f1.type ys f1.offset).run Q w = .ok y1 w) (e1 : (Op.equalIn d f1.type x1 y1).run Q w = .ok u w) :
  (Op.eqFields d xs ys [f0,f1]).run Q w = .ok (t && u) w:=by
 simp only [Op.eqFields]
 rw [if_pos n0]
 simp only [Sem.run_bind,p0,q0,e0,Result.andThen_ok]
 cases t with
 | false => simp
 | true =>
   rw [if_neg (by simp),if_pos n1]
   simp only [Sem.run_bind,p1,q1,e1,Result.andThen_ok]
   cases u <;> simp
theorem Gj : P.cellsOf JV = 5:=by kernel_rfl
theorem Q0c : Q1E P Jz = false:=by kernel_rfl
theorem Q0d : Q1E P Ht = false:=by kernel_rfl
theorem Ei : P.underlying Jz = some (.pointer JV):=by kernel_rfl
theorem G7 : P.underlying Ht = some (.int .i64):=by kernel_rfl
theorem Q7s : ∃ i,P.info? JV = some i:=by
 have h1 : (P.info? JV).isSome = true:=by kernel_rfl
 exact Option.isSome_iff_exists.1 h1
theorem Qkj {w : World} {a b : Nat} {i j : Nat} {x y : Operand} {t : Bool} {K : Bool → Prop} (h : (sameAddr ⟨a,0,none⟩ ⟨b,0,none⟩).run P w = .ok t w) (k : K (t && decide (i = j))) :
  Q8f P .eql Qj x y (.agg #[rp a,.int .i64 i]) (.agg #[rp b,.int .i64 j]) w K:=by
 refine ⟨⟨t && decide (i = j),run_eqGuard_agg w _ _ _ _ _ _ (by kernel_rfl),?_,k⟩⟩
 show (Op.equalIn (9999 + 1) Qj _ _).run P w = _
 rw [run_equalIn_struct w 9999 _ _ _ (by kernel_rfl) (by kernel_rfl),Qnz]
 obtain ⟨n0,t0,o0⟩:=Qvs
 obtain ⟨n1,t1,o1⟩:=Qvr
 have e1 : (((i : Nat) : Int) == (j : Int)) = decide (i = j):=by
  by_cases e : i = j
  · subst e; simp
  · rw [decide_eq_false e]; exact beq_eq_false_iff_ne.2 (by omega)
 have hint : (Op.equalIn 9999 Ht (.int .i64 (i : Int)) (.int .i64 (j : Int))).run P w = .ok (decide (i = j)) w:=by
  have:=run_equalIn_int w 9998 Ht .i64 .i64 (i : Int) (j : Int) G7
  rw [e1] at this
  exact this
 obtain ⟨inf,QmR⟩:=Q7s
 refine Qgo (x0:=rp a) (y0:=rp b) (x1:=.int .i64 (i : Int)) (y1:=.int .i64 (j : Int)) (by rw [n0]; decide) (by rw [n1]; decide) ?_ ?_ ?_ ?_ ?_ ?_
 · rw [t0,o0]; exact Vq Ei Q0c rfl
 · rw [t0,o0]; exact Vq Ei Q0c rfl
 · rw [t0]; exact Q7N (d:=9998) Ei QmR (by rw [Gj]; decide) h
 · rw [t1,o1]; exact Vq G7 Q0d rfl
 · rw [t1,o1]; exact Vq G7 Q0d rfl
 · rw [t1]; exact hint
end Go.Proofs.YtbnhggfiembejaaGreatDoor
end
section
namespace Go.Proofs.YtbnhggfiembejaaGreatDoor
open Go Go.RowKit X
set_option linter.unusedSimpArgs false
set_option linter.unusedVariables false
set_option linter.unusedSectionVars false
variable [Floor]
theorem J6 {w : World} {b : Nat} {cs : List Value} {T : TypeId} (h : QZ w b cs T) : Za w (.pointer (some ⟨b,0,none⟩)) (.agg cs.toArray):=by
 show ∀ i,i < cs.toArray.size → w.cell? ((⟨b,0,none⟩ : Addr).add i) = cs.toArray[i]?
 intro i hi
 rw [Addr.add_lit,h.cell,Nat.zero_add]
 simp
section
variable {w : World} {aa Jk ba KZ o p n oa ob M : Nat} {apart Qi : Key} {Qq QW : Option Nat} {ZO Km : List Nat} {Q7 Qd : UInt8 → T} {mt : Option Y3} {a b t' : T}
theorem QtU {n' : Nat} {w' : World} (hb : Wv w b ob) (htr : Tree w' t') (her : t'.er = W9 ob b.er) (hl : t'.ZJ) (hall : ∀ c,t'.All c → b.All c ∨ w.heap.size ≤ c) (hm : Mt w' mt n') (hz : ob = 0 → t' = b ∧ n' = n) (he : Ext (MX mt) w w') : UR w w' p .nil b oa ob t' mt n n':=by
 refine ⟨htr,hm,he,fun c hc => .inr (hall c hc),hl,⟨by rw [her]; exact XW hb.fine,fun k => by rw [her]; show _ = Zx p ((W9 oa E.nil).get k) _; rfl⟩,fun h0 hmg => ?_⟩
 have hbn : b = .nil:=by
  cases hb' : b with
  | nil => rfl
  | node =>
    exfalso
    obtain ⟨k,v,hk⟩:=Q7d (low:=b) (ol:=ob) (by rw [hb']; simp) hb.fine
    have:=hmg k
    rw [hk] at this
    cases this
 subst hbn
 have h0 : ob = 0:=by have:=hb.off; have : ob ≤ 0:=this; omega
 obtain ⟨rfl,rfl⟩:=hz h0
 exact ⟨rfl,rfl⟩
theorem Qht {n' : Nat} {w' : World} (ha : Wv w a oa) (htr : Tree w' t') (her : t'.er = W9 oa a.er) (hl : t'.ZJ) (hall : ∀ c,t'.All c → a.All c ∨ w.heap.size ≤ c) (hm : Mt w' mt n') (hz : oa = 0 → t' = a ∧ n' = n) (he : Ext (MX mt) w w')
  (hmg : ∀ k,Zx p ((W9 oa a.er).get k) ((W9 ob b.er).get k) = (W9 oa a.er).get k) : UR w w' p a b oa ob t' mt n n' :=
 ⟨htr,hm,he,fun c hc => (hall c hc).imp id .inr,hl,⟨by rw [her]; exact XW ha.fine,fun k => by rw [her,hmg k]⟩,fun h0 _ => by obtain ⟨rfl,rfl⟩:=hz h0; exact ⟨rfl,rfl⟩⟩
theorem Qlh {n' r0 : Nat} {w' : World} {y : UInt8} (ha : Wv w (.node aa Jk apart Qq ZO Q7) oa) (hb : Wv w (.node ba KZ Qi QW Km Qd) ob) (hsp : Qi.drop ob = apart.drop oa ++ y :: Qi.drop r0)
  (hD : DR w w' (.node aa Jk apart Qq ZO Q7) (.node ba KZ Qi QW Km Qd) oa r0 y p false t' mt n n') : UR w w' p (.node aa Jk apart Qq ZO Q7) (.node ba KZ Qi QW Km Qd) oa ob t' mt n n':=by
 obtain ⟨e2,her,XE⟩:=hD.er
 have hfa : (E.node (apart.drop oa) Qq fun c => (Q7 c).er).ZV:=XW (off:=oa) ha.fine
 have hfb : (E.node (Qi.drop r0) QW fun c => (Qd c).er).ZV:=XW (off:=r0) hb.fine
 have hC:=QjJ (p:=p) hfa hfb (y:=y) (e2:=e2) XE
 rw [← hsp] at hC
 refine ⟨hD.tree,hD.cnt,hD.ext,hD.all,hD.QR,⟨by rw [her]; exact hC.fine,fun k => by rw [her]; exact hC.get k⟩,fun h0 hmg => hD.idle rfl h0 fun r => ?_⟩
 subst h0
 have Quk : Qi.drop ob = apart ++ y :: Qi.drop r0:=hsp
 have h1:=hmg (apart ++ y :: r)
 have e : W9 ob (T.node ba KZ Qi QW Km Qd).er = E.node (apart ++ y :: Qi.drop r0) QW fun c => (Qd c).er:=by
  show E.node (Qi.drop ob) QW _ = _
  rw [Quk]
 rw [e] at h1
 have h1 : Zx p ((E.node apart Qq fun c => (Q7 c).er).get (apart ++ y :: r)) ((E.node (apart ++ y :: Qi.drop r0) QW fun c => (Qd c).er).get (apart ++ y :: r)) = (E.node apart Qq fun c => (Q7 c).er).get (apart ++ y :: r):=h1
 rw [Z8,Eb] at h1
 exact h1
theorem Qiz {n' r0 : Nat} {w' : World} {y : UInt8} (ha : Wv w (.node aa Jk apart Qq ZO Q7) oa) (hb : Wv w (.node ba KZ Qi QW Km Qd) ob) (hsp : apart.drop oa = Qi.drop ob ++ y :: apart.drop r0)
  (hD : DR w w' (.node ba KZ Qi QW Km Qd) (.node aa Jk apart Qq ZO Q7) ob r0 y p true t' mt n n') : UR w w' p (.node aa Jk apart Qq ZO Q7) (.node ba KZ Qi QW Km Qd) oa ob t' mt n n':=by
 obtain ⟨e2,her,XE⟩:=hD.er
 have hfb : (E.node (Qi.drop ob) QW fun c => (Qd c).er).ZV:=XW (off:=ob) hb.fine
 have hfa : (E.node (apart.drop r0) Qq fun c => (Q7 c).er).ZV:=XW (off:=r0) ha.fine
 have hC:=Qgv (p:=p) hfb hfa (y:=y) (e2:=e2) XE
 rw [← hsp] at hC
 refine ⟨hD.tree,hD.cnt,hD.ext,fun c hc => (hD.all c hc).elim (fun h => .inr (.inl h)) fun h => h.elim .inl fun h => .inr (.inr h),hD.QR,⟨by rw [her]; exact hC.fine,fun k => by rw [her]; exact hC.get k⟩,fun h0 hmg => ?_⟩
 exfalso
 subst h0
 refine Qm1 (p:=p) (Q:=Qi.drop ob) (p':=apart.drop r0) (y:=y) (va:=Qq) (ka:=fun c => (Q7 c).er) hfb fun k => ?_
 have h1:=hmg k
 have Quk : apart = Qi.drop ob ++ y :: apart.drop r0:=hsp
 have e : (T.node aa Jk apart Qq ZO Q7).er = E.node (Qi.drop ob ++ y :: apart.drop r0) Qq fun c => (Q7 c).er:=by
  show E.node apart Qq _ = _
  rw [← Quk]
 rw [e] at h1
 exact h1
end
end Go.Proofs.YtbnhggfiembejaaGreatDoor
end
section
namespace Go.Proofs.YtbnhggfiembejaaGreatDoor
open Go Go.RowKit X
set_option linter.unusedSimpArgs false
set_option linter.unusedVariables false
set_option linter.unusedSectionVars false
variable [Floor]
section
variable {w : World} {aa Jk ba KZ o p n oa ob ou ol M : Nat} {apart Qi : Key} {Qq QW : Option Nat} {ZO Km : List Nat} {Q7 Qd : UInt8 → T} {mt : Option Y3} {y : UInt8} {low : T} {turned : Bool}
theorem Qe7 (hI : OfS p o mt M) (hup : Wv w (.node aa Jk apart Qq ZO Q7) ou) (hlow : Wv w low ol) (hln : low ≠ .nil) (hm : Mt w mt n) (ho : o ≠ 0) (hM : ((T.node aa Jk apart Qq ZO Q7).er.long + 1 - ou) + (low.er.long + 1 - ol) ≤ M) :
  Q6 P Yr [Mr p o mt,AA (.node aa Jk apart Qq ZO Q7) ou,bv y,AA low ol,.bool turned] w fun r w' => ∃ t' n',r = t'.v ∧ DR w w' (.node aa Jk apart Qq ZO Q7) low ou ol y p turned t' mt n n':=by
 cases ZO with
 | nil => exact QbJ hup hlow hln hm ho
 | cons k r => exact QbI hI hup (by simp) hlow hln hm ho hM
theorem Wv.mono {t : T} {o1 o2 : Nat} (h : Wv w t o1) (h2 : o2 ≤ t.part.length) : Wv w t o2:=⟨h.tree,h.fine,h.QR,h.long,h2⟩
set_option maxHeartbeats 2000000 in
theorem Qgw (hI : OfS p o mt M) (ha : Wv w (.node aa Jk apart Qq ZO Q7) oa) (hb : Wv w (.node ba KZ Qi QW Km Qd) ob) (ho : o ≠ 0) (hp : 1 ≤ p ∧ p ≤ 5) (hM : ((T.node aa Jk apart Qq ZO Q7).er.long + 1 - oa) + ((T.node ba KZ Qi QW Km Qd).er.long + 1 - ob) ≤ M) (hm : Mt w mt n) :
  Q6 P ZT [Mr p o mt,AA (.node aa Jk apart Qq ZO Q7) oa,AA (.node ba KZ Qi QW Km Qd) ob] w fun r w' => ∃ t' n',r = t'.v ∧ UR w w' p (.node aa Jk apart Qq ZO Q7) (.node ba KZ Qi QW Km Qd) oa ob t' mt n n':=by
 have Nh : oa ≤ apart.length:=ha.off
 have QdB : ob ≤ Qi.length:=hb.off
 have hsa:=ha.tree.1.short
 have hsb:=hb.tree.1.short
 refine Dj ?_
 refine Qz fun jb w1 hjb hj hz1 he1 => ?_
 have hj : QZ w1 jb (Ms p o mt) Zy:=hj
 refine Qz fun ea w2 hea hA hz2 he2 => ?_
 have hA : QZ w2 ea [(T.node aa Jk apart Qq ZO Q7).v,.int .i64 oa] Qj:=hA
 refine Qz fun eb w3 heb hB hz3 QE => ?_
 have hB : QZ w3 eb [(T.node ba KZ Qi QW Km Qd).v,.int .i64 ob] Qj:=hB
 have Po:=(hj.ext he2 fun h => h).ext QE fun h => h
 have hA3:=hA.ext QE fun h => h
 have JD:=(he1.Q0 he2).Q0 QE
 have ha3:=ha.Q4 JD
 have hb3:=hb.Q4 JD
 have Dw:=hm.Q4 JD
 refine hA3.ld (v:=(T.node aa Jk apart Qq ZO Q7).v) rfl ?_
 refine Qp rfl ?_
 obtain ⟨pva,hba,-⟩:=ha3.tree.1.blk
 obtain ⟨pvb,hbb,-⟩:=hb3.tree.1.blk
 refine xj (fun vs w' => ∃ t : Bool,vs = [.bool t] ∧ w' = w3 ∧ (t = true → p ≠ 3 ∧ aa = ba ∧ oa = ob)) ?_ ?_
 · refine hB.ld (v:=(T.node ba KZ Qi QW Km Qd).v) rfl ?_
   refine Qp rfl ?_
   refine hA3.JH rfl ?_
   refine hB.JH rfl ?_
   have key : ∀ t : Bool,(sameAddr ⟨aa,0,none⟩ ⟨ba,0,none⟩).run P w3 = .ok t w3 → (t = true → aa = ba) → Q8f P .eql Qj (.tmp 21) (.tmp 22) (.agg #[rp aa,.int .i64 oa]) (.agg #[rp ba,.int .i64 ob]) w3 fun Q74 =>
     Ql (.bool Q74) (QC w3 (((⟨jb,0,none⟩ : Addr).add 0).add 1) fun Zh => ∃ t : Bool,[Zh] = [.bool t] ∧ w3 = w3 ∧ (t = true → p ≠ 3 ∧ aa = ba ∧ oa = ob)) (∃ t : Bool,[Value.bool false] = [.bool t] ∧ w3 = w3 ∧ (t = true → p ≠ 3 ∧ aa = ba ∧ oa = ob)):=fun t ht htt => by
    refine Qkj ht ?_
    by_cases h : (t && decide (oa = ob)) = true
    · rw [h]
      refine Qr rfl ?_
      refine Po.ld (o:=1) (v:=.bool (QlK p)) rfl ?_
      simp only [Bool.and_eq_true,decide_eq_true_eq] at h
      exact ⟨_,rfl,rfl,fun hs => ⟨by unfold QlK at hs; simpa using hs,htt h.1,h.2⟩⟩
    · rw [show (t && decide (oa = ob)) = false by simpa using h]
      exact Qp rfl ⟨false,rfl,rfl,fun h => by cases h⟩
   by_cases e : aa = ba
   · exact key true (by rw [e]; exact run_sameAddr_same _ _) fun _ => e
   · exact key false (run_sameAddr_other _ (by simp [e]) hba.h hbb.h) fun h => by cases h
 rintro vs g w4 ⟨t,rfl,rfl,ht⟩
 cases t with
 | true =>
   obtain ⟨h3,e,rfl⟩:=ht rfl
   refine Qr rfl ?_
   refine Po.JH rfl ?_
   refine hA3.JH rfl ?_
   refine (Iz (p:=p) ha3.tree Dw ho ha3.off).mono ?_
   rintro _ w5 ⟨t',n',rfl,htr,her,hl,hall,hm5,-,hz,ZR⟩
   have hab:=Tree.inj ha3.tree hb3.tree (by show some (⟨aa,0,none⟩ : Addr) = some ⟨ba,0,none⟩; rw [e])
   refine ⟨t',n',rfl,(Qht ha3 htr her (hl ha.QR) hall hm5 hz ZR fun k => ?_).from' JD⟩
   rw [← hab,QfM h3]
 | false =>
   refine Qp rfl ?_
   have hd:=Ext.drew (Ext.refl No w4)
   refine hA3.drew.JH rfl ?_
   refine hB.drew.JH rfl ?_
   refine (Q0b (off:=oa) (ha3.tree.Q4 hd) ha3.off).mono ?_
   rintro pv w5 ⟨hpv,ZR⟩
   have hpv : Bs w5 pv (apart.drop oa):=hpv
   have QmW:=hd.Q0 ZR
   refine ⟨J6 (hB.ext QmW fun h => h),?_⟩
   refine (Q0b (off:=ob) (hb3.tree.Q4 QmW) hb3.off).mono ?_
   rintro qv w6 ⟨Ir,Ke⟩
   have Ir : Bs w6 qv (Qi.drop ob):=Ir
   have Qzl:=hpv.Q4 Ke
   refine (Hl Qzl Ir (by rw [List.length_drop]; omega) (by rw [List.length_drop]; omega)).mono ?_
   rintro _ w7 ⟨rfl,Yy⟩
   have Qq7:=(QmW.Q0 Ke).Q0 Yy
   have BA:=JD.Q0 Qq7
   have hp7:=Qzl.Q4 Yy
   have hq7:=Ir.Q4 Yy
   have hj7:=Po.ext Qq7 fun h => h
   have hA7:=hA3.ext Qq7 fun h => h
   have hB7:=hB.ext Qq7 fun h => h
   have ha7:=ha.Q4 BA
   have hb7:=hb.Q4 BA
   have hm7:=hm.Q4 BA
   have hdl : (apart.drop oa).length = apart.length - oa:=List.length_drop
   have Qq8 : (Qi.drop ob).length = Qi.length - ob:=List.length_drop
   obtain ⟨c,q,r,ha0,hb0,hc0,hdf⟩:=Yf (apart.drop oa) (Qi.drop ob)
   rw [← hc0]
   have hla : (apart.drop oa).length = c.length + q.length:=by rw [ha0,List.length_append]
   have hlb : (Qi.drop ob).length = c.length + r.length:=by rw [hb0,List.length_append]
   have Q42 : ∀ k,apart.drop (oa + k) = (c ++ q).drop k:=fun k => by rw [← ha0,List.drop_drop]
   have Q41 : ∀ k,Qi.drop (ob + k) = (c ++ r).drop k:=fun k => by rw [← hb0,List.drop_drop]
   have hd7:=Ext.drew (Ext.refl No w7)
   have Qvd:=BA.Q0 hd7
   have hs7:=BA.size
   have Qai : ∀ y r',r = y :: r' → (Qi.drop ob)[c.length]? = some y:=fun y r' e => by rw [hb0,e]; simp
   have Qaj : ∀ x q',q = x :: q' → (apart.drop oa)[c.length]? = some x:=fun x q' e => by rw [ha0,e]; simp
   refine xj (fun vs w' => ∃ t : Bool,vs = [.bool t] ∧ w7 = w' ∧ (t = true ↔ q ≠ [] ∧ r ≠ [])) ?_ ?_
   · refine hp7.len ?_
     refine ZF (fun h => ?_) fun h => ⟨false,rfl,rfl,?_⟩
     · refine hq7.len ?_
       refine ⟨_,rfl,rfl,?_⟩
       rw [decide_eq_true_iff]
       constructor
       · intro h2; exact ⟨fun e => by subst e; simp at hla; omega,fun e => by subst e; simp at hlb; omega⟩
       · rintro ⟨-,h2⟩
         have : 0 < r.length:=List.length_pos_iff.2 h2
         omega
     · constructor
       · intro h2; cases h2
       · rintro ⟨h2,-⟩
         have : 0 < q.length:=List.length_pos_iff.2 h2
         omega
   rintro vs g w8 ⟨t,rfl,rfl,ht⟩
   cases t with
   | true =>
     obtain ⟨hq0,hr0⟩:=ht.1 rfl
     obtain ⟨x,q',rfl⟩:=List.exists_cons_of_ne_nil hq0
     obtain ⟨y,r',rfl⟩:=List.exists_cons_of_ne_nil hr0
     have hxy : x ≠ y:=hdf x y q' r' rfl rfl
     have hx:=Qaj x q' rfl
     have hy:=Qai y r' rfl
     obtain ⟨hxl,hxe⟩:=List.getElem?_eq_some_iff.1 hx
     obtain ⟨hyl,hye⟩:=List.getElem?_eq_some_iff.1 hy
     refine Qr rfl ?_
     refine hj7.drew.JH rfl ?_
     refine (hp7.Q4 hd7).take c.length rfl (by omega) fun v' hv' => ?_
     rw [ha0,List.take_left] at hv'
     refine (hp7.Q4 hd7).rdK c.length hxl rfl fun p0 hk0 => ?_
     rw [hxe] at hk0 ⊢
     refine hA7.drew.JH rfl ?_
     refine (hq7.Q4 hd7).rdK c.length hyl rfl fun p1 hk1 => ?_
     rw [hye] at hk1 ⊢
     refine hB7.drew.JH rfl ?_
     refine (IA (t:=.node aa Jk apart Qq ZO Q7) (off:=oa) (m:=c.length) (by omega)).mono ?_
     rintro _ w9 ⟨rfl,Ym⟩
     have h79:=hd7.Q0 Ym
     refine ⟨J6 (hB7.ext h79 fun h => h),hk1 _ (hq7.Q4 h79),hk0 _ (hp7.Q4 h79),J6 (hj7.ext h79 fun h => h),?_⟩
     refine (IA (t:=.node ba KZ Qi QW Km Qd) (off:=ob) (m:=c.length) (by omega)).mono ?_
     rintro _ Dn ⟨rfl,J9⟩
     have Qgh:=h79.Q0 J9
     have Dq:=BA.Q0 Qgh
     refine ⟨hk1 _ (hq7.Q4 Qgh),hk0 _ (hp7.Q4 Qgh),J6 (hj7.ext Qgh fun h => h),?_⟩
     have ha10:=ha.Q4 Dq
     have Q9p:=hb.Q4 Dq
     have OX : (c ++ x :: q').length = c.length + (q'.length + 1):=by simp
     have Rb : (c ++ y :: r').length = c.length + (r'.length + 1):=by simp
     have hla2 : c.length + (q'.length + 1) = apart.length - oa:=by rw [← OX,← ha0,hdl]
     have hlb2 : c.length + (r'.length + 1) = Qi.length - ob:=by rw [← Rb,← hb0,Qq8]
     refine (QqG (p:=p) (x:=x) (y:=y) (oa:=oa + c.length + 1) (ob:=ob + c.length + 1) ha10.tree Q9p.tree ha.QR hb.QR (by simp) (by simp) (hm.Q4 Dq) ho (hv'.Q4 (Ym.Q0 J9)) (by omega) (show oa + c.length + 1 ≤ apart.length by omega) (show ob + c.length + 1 ≤ Qi.length by omega) hxy).mono ?_
     rintro _ AL ⟨t',n',rfl,htr,htn,her,hlf,hall,-,Q9m,K9⟩
     have e1 : W9 (oa + c.length + 1) (T.node aa Jk apart Qq ZO Q7).er = E.node q' Qq fun d => (Q7 d).er:=by
      show E.node (apart.drop (oa + c.length + 1)) Qq _ = _
      rw [Nat.add_assoc,Q42,show (c ++ x :: q').drop (c.length + 1) = q' by rw [← List.drop_drop,List.drop_left]; rfl]
     have e2 : W9 (ob + c.length + 1) (T.node ba KZ Qi QW Km Qd).er = E.node r' QW fun d => (Qd d).er:=by
      show E.node (Qi.drop (ob + c.length + 1)) QW _ = _
      rw [Nat.add_assoc,Q41,show (c ++ y :: r').drop (c.length + 1) = r' by rw [← List.drop_drop,List.drop_left]; rfl]
     have e3 : W9 oa (T.node aa Jk apart Qq ZO Q7).er = E.node (c ++ x :: q') Qq fun d => (Q7 d).er:=by
      show E.node (apart.drop oa) Qq _ = _
      rw [ha0]
     have e4 : W9 ob (T.node ba KZ Qi QW Km Qd).er = E.node (c ++ y :: r') QW fun d => (Qd d).er:=by
      show E.node (Qi.drop ob) QW _ = _
      rw [hb0]
     have fa:=XW (off:=oa + c.length + 1) ha.fine
     have fb:=XW (off:=ob + c.length + 1) hb.fine
     have fb':=XW (off:=ob) hb.fine
     rw [e1] at fa her
     rw [e2] at fb her
     rw [e4] at fb'
     refine ⟨t',n',rfl,UR.from' Dq ⟨htr,Q9m,K9,hall,hlf,⟨?_,fun K => ?_⟩,fun h0 hmg => ?_⟩⟩
     · rw [her]; exact QjA hxy fa fb (by simp) (by simp)
     · rw [her,e3,e4]; exact QfN hxy K
     · exfalso
       subst h0
       rw [e4] at hmg
       rw [Xq] at e3
       rw [e3] at hmg
       exact QpN hxy fb' hmg
   | false =>
     refine Qp rfl ?_
     refine hq7.len ?_
     refine ZF (fun h => ?_) fun h => ?_
     · obtain ⟨y,r',rfl⟩ : ∃ y r',r = y :: r':=List.exists_cons_of_ne_nil fun e => by subst e; simp at hlb; omega
       have hqn : q = []:=by
        cases q with
        | nil => rfl
        | cons => have:=ht.2 ⟨by simp,by simp⟩; cases this
       subst hqn
       have hy:=Qai y r' rfl
       obtain ⟨hyl,hye⟩:=List.getElem?_eq_some_iff.1 hy
       refine hj7.drew.JH rfl ?_
       refine hA7.drew.JH rfl ?_
       refine (hq7.Q4 hd7).rdK c.length hyl rfl fun p1 hk1 => ?_
       rw [hye] at hk1 ⊢
       refine hB7.drew.JH rfl ?_
       refine (IA (t:=.node ba KZ Qi QW Km Qd) (off:=ob) (m:=c.length) (by omega)).mono ?_
       rintro _ w9 ⟨rfl,Ym⟩
       have h79:=hd7.Q0 Ym
       have OA:=BA.Q0 h79
       refine ⟨hk1 _ (hq7.Q4 h79),J6 (hA7.ext h79 fun h => h),J6 (hj7.ext h79 fun h => h),?_⟩
       have Rb : (c ++ y :: r').length = c.length + (r'.length + 1):=by simp
       have hlb2 : c.length + (r'.length + 1) = Qi.length - ob:=by rw [← Rb,← hb0,Qq8]
       have hb9 : Wv w9 (.node ba KZ Qi QW Km Qd) (ob + c.length + 1):=(hb.Q4 OA).mono (show ob + c.length + 1 ≤ Qi.length by omega)
       refine (Qe7 hI (ha.Q4 OA) hb9 (by simp) (hm.Q4 OA) ho (by omega)).mono ?_
       rintro _ Dn ⟨t',n',rfl,hD⟩
       refine ⟨t',n',rfl,(Qlh (r0:=ob + c.length + 1) (y:=y) (ha.Q4 OA) (hb.Q4 OA) ?_ hD).from' OA⟩
       rw [Nat.add_assoc,Q41,show (c ++ y :: r').drop (c.length + 1) = r' by rw [← List.drop_drop,List.drop_left]; rfl,hb0,ha0,List.append_nil]
     · have hrn : r = []:=by
        cases r with
        | nil => rfl
        | cons => exfalso; simp at hlb; omega
       subst hrn
       refine hp7.len ?_
       refine ZF (fun h => ?_) fun h => ?_
       · obtain ⟨x,q',rfl⟩ : ∃ y r',q = y :: r':=List.exists_cons_of_ne_nil fun e => by subst e; simp at hla; omega
         have hx:=Qaj x q' rfl
         obtain ⟨hxl,hxe⟩:=List.getElem?_eq_some_iff.1 hx
         refine hj7.drew.JH rfl ?_
         refine hB7.drew.JH rfl ?_
         refine (hp7.Q4 hd7).rdK c.length hxl rfl fun p1 hk1 => ?_
         rw [hxe] at hk1 ⊢
         refine hA7.drew.JH rfl ?_
         refine (IA (t:=.node aa Jk apart Qq ZO Q7) (off:=oa) (m:=c.length) (by omega)).mono ?_
         rintro _ w9 ⟨rfl,Ym⟩
         have h79:=hd7.Q0 Ym
         have OA:=BA.Q0 h79
         refine ⟨hk1 _ (hp7.Q4 h79),J6 (hB7.ext h79 fun h => h),J6 (hj7.ext h79 fun h => h),?_⟩
         have OX : (c ++ x :: q').length = c.length + (q'.length + 1):=by simp
         have hla2 : c.length + (q'.length + 1) = apart.length - oa:=by rw [← OX,← ha0,hdl]
         have ha9 : Wv w9 (.node aa Jk apart Qq ZO Q7) (oa + c.length + 1):=(ha.Q4 OA).mono (show oa + c.length + 1 ≤ apart.length by omega)
         refine (Qe7 hI (hb.Q4 OA) ha9 (by simp) (hm.Q4 OA) ho (by omega)).mono ?_
         rintro _ Dn ⟨t',n',rfl,hD⟩
         refine ⟨t',n',rfl,(Qiz (r0:=oa + c.length + 1) (y:=x) (ha.Q4 OA) (hb.Q4 OA) ?_ hD).from' OA⟩
         rw [Nat.add_assoc,Q42,show (c ++ x :: q').drop (c.length + 1) = q' by rw [← List.drop_drop,List.drop_left]; rfl,ha0,hb0,List.append_nil]
       · have hqn : q = []:=by
          cases q with
          | nil => rfl
          | cons => exfalso; simp at hla; omega
         subst hqn
         refine hj7.JH rfl ?_
         refine hA7.JH rfl ?_
         refine hB7.JH rfl ?_
         refine (QnQ hI ha7 hb7 ho hp hM (by rw [ha0,hb0]) hm7).mono ?_
         rintro _ Dn ⟨t',n',rfl,hU⟩
         exact ⟨t',n',rfl,hU.from' BA⟩
theorem Qe8 {b : T} (hb : Wv w b ob) (ho : o ≠ 0) (hm : Mt w mt n) : Q6 P ZT [Mr p o mt,AA .nil oa,AA b ob] w fun r w' => ∃ t' n',r = t'.v ∧ UR w w' p .nil b oa ob t' mt n n' ∧ (ob = 0 → t' = b ∧ n' = n):=by
 refine Dj ?_
 refine Qz fun jb w1 hjb hj hz1 he1 => ?_
 have hj : QZ w1 jb (Ms p o mt) Zy:=hj
 refine Qz fun ea w2 hea hA hz2 he2 => ?_
 have hA : QZ w2 ea [.pointer none,.int .i64 oa] Qj:=hA
 refine Qz fun eb w3 heb hB hz3 QE => ?_
 have hB : QZ w3 eb [b.v,.int .i64 ob] Qj:=hB
 have Po:=(hj.ext he2 fun h => h).ext QE fun h => h
 have hA3:=hA.ext QE fun h => h
 have JD:=(he1.Q0 he2).Q0 QE
 refine hA3.ld (v:=.pointer none) rfl ?_
 refine Qr rfl ?_
 refine Po.JH rfl ?_
 refine hB.JH rfl ?_
 have hb3:=hb.Q4 JD
 refine (Iz (p:=p) hb3.tree (hm.Q4 JD) ho hb.off).mono ?_
 rintro _ w4 ⟨t',n',rfl,htr,her,hl,hall,hm4,-,hz,Zl⟩
 exact ⟨t',n',rfl,(QtU hb3 htr her (hl hb.QR) hall hm4 hz Zl).from' JD,hz⟩
theorem QBG (hp : 1 ≤ p ∧ p ≤ 5) (ho : o ≠ 0) : ∀ M,OfS p o mt M:=by
 intro M
 induction M with
 | zero => intro w a b oa ob n hlt; omega
 | succ M ih =>
   intro w a b oa ob n hlt ha hb hm
   cases a with
   | nil => exact (Qe8 hb ho hm).mono fun r w' ⟨t',n',h1,h2,_⟩ => ⟨t',n',h1,h2⟩
   | node aa Jk apart Qq ZO Q7 =>
     cases b with
     | nil =>
       refine Dj ?_
       refine Qz fun jb w1 hjb hj hz1 he1 => ?_
       have hj : QZ w1 jb (Ms p o mt) Zy:=hj
       refine Qz fun ea w2 hea hA hz2 he2 => ?_
       have hA : QZ w2 ea [(T.node aa Jk apart Qq ZO Q7).v,.int .i64 oa] Qj:=hA
       refine Qz fun eb w3 heb hB hz3 QE => ?_
       have hB : QZ w3 eb [.pointer none,.int .i64 ob] Qj:=hB
       have Po:=(hj.ext he2 fun h => h).ext QE fun h => h
       have hA3:=hA.ext QE fun h => h
       have JD:=(he1.Q0 he2).Q0 QE
       refine hA3.ld (v:=(T.node aa Jk apart Qq ZO Q7).v) rfl ?_
       refine Qp rfl ?_
       refine xj (fun vs w' => vs = [.bool true] ∧ w3 = w') ?_ ?_
       · refine hB.ld (v:=.pointer none) rfl ?_
         exact Qr rfl ⟨rfl,rfl⟩
       rintro vs g w4 ⟨rfl,rfl⟩
       refine Qr rfl ?_
       refine Po.JH rfl ?_
       refine hA3.JH rfl ?_
       have ha3:=ha.Q4 JD
       refine (Iz (p:=p) ha3.tree (hm.Q4 JD) ho ha.off).mono ?_
       rintro _ w4 ⟨t',n',rfl,htr,her,hl,hall,hm4,-,hz,Zl⟩
       refine ⟨t',n',rfl,(Qht ha3 htr her (hl ha.QR) hall hm4 hz Zl fun k => ?_).from' JD⟩
       exact UY
     | node ba KZ Qi QW Km Qd =>
       exact Qgw ih ha hb ho hp (by omega) hm
end
end Go.Proofs.YtbnhggfiembejaaGreatDoor
end
section
namespace Go.Proofs.YtbnhggfiembejaaGreatDoor
open Go Go.RowKit X
set_option linter.unusedSimpArgs false
set_option linter.unusedVariables false
set_option linter.unusedSectionVars false
variable [Floor]
section
variable {w : World} {a b : T} {o n : Nat} {mt : Option Y3} {z : Int} {l m : Kv}
theorem Ct.go1 (h : Ct w a l) (hp : Pr l) : Wv w a 0:=⟨h.tree,h.can.fine,h.QR,by have:=h.long hp; omega,Nat.zero_le _⟩
structure OfR (w w' : World) (p : Nat) (a b : T) (l m : Kv) (t' : T) (mt : Option Y3) (n n' : Nat) : Prop where
 ct : Ct w' t' (Cz p l m)
 cnt : Mt w' mt n'
 ext : Ext (MX mt) w w'
 all : ∀ c,t'.All c → a.All c ∨ b.All c ∨ w.heap.size ≤ c
 idle : Cz p l m = l → t'.v = a.v ∧ n' = n
 nil : a = .nil → t'.v = b.v ∧ n' = n
theorem QjX {p : Nat} (hp : 1 ≤ p ∧ p ≤ 5) (hz : z = p) (ha : Ct w a l) (hl : Pr l) (hb : Ct w b m) (hm : Pr m) (hmt : Mt w mt n) (ho : o ≠ 0) :
  Q6 P UK [.int .i64 z,a.v,b.v,.int .u64 o,mv mt] w fun r w' => ∃ t' n',r = .tuple #[t'.v,.int .i64 0] ∧ OfR w w' p a b l m t' mt n n':=by
 refine QgW ?_
 refine (QhS (z:=z)).mono ?_
 rintro r w1 ⟨he1,⟨p',h1,h5,hp',rfl⟩ | ⟨hn,rfl⟩⟩
 case inr => exact absurd ⟨by omega,by omega⟩ hn
 obtain rfl : p' = p:=by omega
 refine Qz fun g w2 hg hblk hz2 he2 => ?_
 refine KD hblk (by kernel_rfl) (by unfold Qd6; split <;> rfl) rfl fun w3 hb3 hz3 QE => ?_
 have hs1:=he1.size
 have JD : Ext No w w3:=(he1.Q0 he2).Z0 QE (by omega)
 refine xj (fun vs w' => vs = [.bool false] ∧ w3 = w') ?_ ?_
 · refine Qp rfl ?_
   refine ⟨?_,rfl⟩
   simp; omega
 rintro vs g' w4 ⟨rfl,rfl⟩
 refine Qp rfl ?_
 refine hb3.JH rfl ?_
 have key : Q6 P ZT [Mr p' o mt,AA a 0,AA b 0] w3 fun r w' => ∃ t' n',r = t'.v ∧ UR w3 w' p' a b 0 0 t' mt n n' ∧ (a = .nil → t' = b ∧ n' = n):=by
  cases a with
  | nil => exact (Qe8 ((hb.go1 hm).Q4 JD) ho (hmt.Q4 JD)).mono fun _ _ ⟨t',n',h1,h2,h3⟩ => ⟨t',n',h1,h2,fun _ => h3 rfl⟩
  | node => exact (QBG hp ho _ (Nat.lt_succ_self _) ((ha.go1 hl).Q4 JD) ((hb.go1 hm).Q4 JD) (hmt.Q4 JD)).mono fun _ _ ⟨t',n',h1,h2⟩ => ⟨t',n',h1,h2,fun h => by cases h⟩
 refine key.mono ?_
 rintro _ w5 ⟨t',n',rfl,hU,hnil⟩
 have hU:=hU.from' JD
 have XE : Can t'.er (look (Cz p' l m)):=hU.can.congr fun k => by
  rw [Xq,Xq,ha.can.get,hb.can.get,WA hl.rises hm.rises]
 refine ⟨t',n',rfl,⟨⟨hU.tree,XE,hU.QR⟩,hU.cnt,hU.ext,hU.all,fun e => ?_,fun e => ?_⟩⟩
 · obtain ⟨h1,h2⟩:=hU.idle rfl fun k => by
    rw [Xq,ha.can.get,hb.can.get,← WA hl.rises hm.rises,e]
   exact ⟨T.QkQ h1,h2⟩
 · obtain ⟨rfl,rfl⟩:=hnil e
   exact ⟨rfl,rfl⟩
end
end Go.Proofs.YtbnhggfiembejaaGreatDoor
end
