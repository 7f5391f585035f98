import Derived.Test.YtbnhggfiembejaaGreatDoorL27
namespace Go.Proofs.YtbnhggfiembejaaGreatDoor
open Go Go.RowKit X
set_option linter.unusedSimpArgs false
set_option linter.unusedVariables false
set_option linter.unusedSectionVars false
variable [Floor]
namespace H7
section
variable {w : World} {v va vb kv fv tv : Value} {l m : Kv} {k f t : Key} {op : Bool}
theorem QhW {K : World → Prop} (hl : Ps w v l) {sb : Nat} {w1 : World} (he0 : Ext No w w1) (hS : QZ w1 sb [fv,tv,.bool op] Xc) (hf : Bs w fv f) (ht : Bs w tv t) :
  Q6 P WC [v,.int .i64 200] w1 fun Qa QX => Ql Qa (∃ b,[Value.bool true] = [.bool b] ∧ Ext No w1 QX ∧ (b = false → l.length ≤ 200 ∧ (∀ p ∈ l,p.1.length ≤ 300) ∧ f.length ≤ 600 ∧ t.length ≤ 600)) (QC QX ((⟨sb,0,none⟩ : Addr).add 0) fun Qt =>
   Zq Qt fun Qv => Rn Qv (.int .i64 600) fun QF => Ql QF (∃ b,[Value.bool true] = [.bool b] ∧ Ext No w1 QX ∧ (b = false → l.length ≤ 200 ∧ (∀ p ∈ l,p.1.length ≤ 300) ∧ f.length ≤ 600 ∧ t.length ≤ 600)) (QC QX ((⟨sb,0,none⟩ : Addr).add 1) fun Qy =>
   Zq Qy fun Qu => Rn Qu (.int .i64 600) fun QS => ∃ b,[QS] = [.bool b] ∧ Ext No w1 QX ∧ (b = false → l.length ≤ 200 ∧ (∀ p ∈ l,p.1.length ≤ 300) ∧ f.length ≤ 600 ∧ t.length ≤ 600))):=by
 refine (Q7W (m:=200) (hl.Q4 he0) (by omega)).mono ?_
 rintro r w2 ⟨b,rfl,he1,hb⟩
 cases b with
 | true => exact Qr rfl ⟨true,rfl,he1,fun h => by cases h⟩
 | false =>
   refine Qp rfl ?_
   have hS2:=hS.ext he1 fun h => h
   refine hS2.ld (o:=0) (v:=fv) rfl ?_
   refine (hf.Q4 (he0.Q0 he1)).len ?_
   refine ZF (fun h => ⟨true,rfl,he1,fun h => by cases h⟩) fun h1 => ?_
   refine hS2.ld (o:=1) (v:=tv) rfl ?_
   refine (ht.Q4 (he0.Q0 he1)).len ?_
   refine ⟨_,rfl,he1,fun h => ⟨(hb rfl).1,(hb rfl).2,by omega,?_⟩⟩
   have:=of_decide_eq_false h
   omega
theorem QfU (hw : Lw w) {o : Nat} (hl : Ps w v l) (hf : Bs w fv f) (ht : Bs w tv t) (h64 : o < 18446744073709551616) : Q6 P JJ [v,spV fv tv op,.int .u64 o] w fun r w' => r = .bool true ∧ Ext No w w':=by
 refine Q4p ?_
 refine Qz fun sb w0 hsb hS hz0 he0 => ?_
 have hS : QZ w0 sb [fv,tv,.bool op] Xc:=hS
 refine xj (fun vs w' => ∃ b,vs = [.bool b] ∧ Ext No w0 w' ∧ (b = false → l.length ≤ 200 ∧ (∀ p ∈ l,p.1.length ≤ 300) ∧ f.length ≤ 600 ∧ t.length ≤ 600)) ?_ ?_
 · exact QhW (K:=fun _ => True) hl he0 hS hf ht
 rintro vs g w1 ⟨b,rfl,he1,hb⟩
 have hE1:=he0.Q0 he1
 cases b with
 | true =>
   refine Qr rfl ?_
   refine (XL (hw.Q4 hE1)).mono ?_
   rintro r w3 ⟨rfl,QE⟩
   exact ⟨rfl,hE1.Q0 QE⟩
 | false =>
   refine Qp rfl ?_
   obtain ⟨l2,l3,f6,t6⟩:=hb rfl
   have hpr : Pr (Kj l):=Pr.sort (by omega) fun p h => by have:=l3 p h; omega
   have QdF : (Kj l).length ≤ 200:=Nat.le_trans (Yd l) l2
   refine (BB (hl.Q4 hE1) (by omega) (fun p h => by have:=l3 p h; omega)).mono ?_
   rintro vl w3 ⟨hso,QE⟩
   have hps:=hso.ps QE (.inr rfl)
   have JD:=hE1.Q0 QE
   generalize Kj l = m at hpr hso hps QdF
   refine (Bc hps hpr (hw.Q4 JD) (ow:=1) (by omega)).mono ?_
   rintro r w4 ⟨tr,rfl,hct,-,-,-,Zl⟩
   have U9:=JD.Q0 Zl
   have hw4:=hw.Q4 U9
   refine Qz fun mb w6 hmb Iu hz6 Ke => ?_
   have hm6 : Mt w6 (some mb) 0:=hw4.Q7a hmb Iu Ke
   have MC:=U9.Q0 Ke
   have hw6:=hw4.Q4 Ke
   refine Qz fun mc w7 hmc Q7w hz7 Yy => ?_
   have hc7 : Mt w7 (some mc) 0:=hw6.Q7a hmc Q7w Yy
   have BA:=MC.Q0 Yy
   have h07:=(((he1.Q0 QE).Q0 Zl).Q0 Ke).Q0 Yy
   refine (hS.ext h07 fun h => h).JH rfl ?_
   refine Q6.mono (show Q6 P YH [spV fv tv op] w7 _ from Q7U (hf.Q4 BA) (ht.Q4 BA)) ?_
   rintro _ w8 ⟨rfl,KJ⟩
   have E9:=BA.Q0 KJ
   have Si:=hm6.Q4 (Yy.Q0 KJ)
   have hc8:=hc7.Q4 KJ
   have hw8:=hw6.Q4 (Yy.Q0 KJ)
   have h48:=(Ke.Q0 Yy).Q0 KJ
   have Qbq:=hct.Q4 h48
   have QmA:=hps.Q4 (Zl.Q0 h48)
   have hf8:=hf.Q4 E9
   have ht8:=ht.Q4 E9
   have hS8:=hS.ext (h07.Q0 KJ) fun h => h
   have Q9l : w.heap.size ≤ mb:=by have:=U9.size; omega
   have QmO : w.heap.size ≤ mc:=by have:=MC.size; omega
   have hne : mb ≠ mc:=by omega
   by_cases ho : o = 0
   · subst ho
     refine (Qon (fv:=fv) (tv:=tv) (op:=op)).mono ?_
     rintro _ w9 ⟨rfl,Ym⟩
     have OA:=E9.Q0 Ym
     refine (hS8.ext Ym fun h => h).JH rfl ?_
     refine Q6.mono (show Q6 P YH [spV fv tv op] w9 _ from Q7U (hf.Q4 OA) (ht.Q4 OA)) ?_
     rintro _ Dn ⟨rfl,J9⟩
     have Dq:=OA.Q0 J9
     have QdL:=Ym.Q0 J9
     refine (QjZ (tv:=tv) (op:=op) (Qbq.Q4 QdL) hpr (hf.Q4 Dq) (by omega) (hw.Q4 Dq).fl).mono ?_
     rintro _ AL ⟨rfl,K9⟩
     have Gf:=Dq.Q0 K9
     refine Qr rfl ?_
     refine xj (fun vs w' => vs = [.bool true] ∧ Ext No w w') ?_ ?_
     · refine Ka T.nil ?_
       refine Qr rfl ?_
       refine Ka T.nil ?_
       refine Qr rfl ?_
       refine Qr rfl ?_
       refine Qr rfl ?_
       refine (XL (hw.Q4 Gf)).mono ?_
       rintro _ Rw ⟨rfl,JX⟩
       exact ⟨rfl,Gf.Q0 JX⟩
     · rintro vs g AL ⟨rfl,he⟩
       exact ⟨rfl,he⟩
   · refine (Qoo (n:=0) (mt:=some mb) Qbq hpr hf8 ht8 (by omega) (by omega) Si ho).mono ?_
     rintro _ w9 ⟨t1,n1,rfl,R1⟩
     have Ym:=R1.ext
     have hm9:=R1.cnt
     have OA:=Ext.mx' E9 Ym Q9l
     have hw9:=hw8.mt Si Ym
     have Qjd:=Qbq.mt Si Ym
     have Qbg:=QmA.mt Ym Si
     have hS9:=hS8.ext Ym (Si.ne hS8 (by decide))
     have hc9:=hc8.ext Ym fun b hb h => by
      have e1 : mc = b:=hb
      have e2 : mb = b:=h
      omega
     refine hS9.JH rfl ?_
     refine Q6.mono (show Q6 P YH [spV fv tv op] w9 _ from Q7U (hf.Q4 OA) (ht.Q4 OA)) ?_
     rintro _ Dn ⟨rfl,J9⟩
     have Dq:=OA.Q0 J9
     have Qjf:=hc9.Q4 J9
     have Qaf:=Qjd.Q4 J9
     refine (QgQ (n:=0) (mt:=some mc) Qaf hpr (hf.Q4 Dq) (ht.Q4 Dq) (by omega) (by omega) Qjf ho).mono ?_
     rintro _ AL ⟨t2,n2,rfl,R2⟩
     have K9:=R2.ext
     have Qqa:=R2.cnt
     have Gf:=Ext.mx' Dq K9 QmO
     have Q2s:=(hw9.Q4 J9).mt Qjf K9
     have Qn4:=Qaf.mt Qjf K9
     have Qsl:=(Qbg.Q4 J9).mt K9 Qjf
     have Qqf:=(hS9.ext J9 fun h => h).ext K9 (Qjf.ne (hS9.ext J9 fun h => h) (by decide))
     have Q9m:=(hm9.Q4 J9).ext K9 fun b hb h => by
      have e1 : mb = b:=hb
      have e2 : mc = b:=h
      omega
     have c1:=(R1.ct.Q4 J9).mt Qjf K9
     have c2:=R2.ct
     refine Vu (fun h => absurd (by omega) ho) fun _ => ?_
     refine Qqf.JH rfl ?_
     refine Q6.mono (show Q6 P Gb [vl,spV fv tv op] AL _ from QjP Qsl (hf.Q4 Gf) (ht.Q4 Gf) (by omega) (by omega) hpr.keys) ?_
     rintro _ Rw ⟨v1,v2,rfl,hv1,hv2,JX⟩
     have Sm:=Gf.Q0 JX
     have Dp:=Q2s.Q4 JX
     have QuH:=Q9m.Q4 JX
     have Qv2:=Qqa.Q4 JX
     have pl : Pr (Ja (KM f t op) m):=UH hpr
     have ph : Pr (Ja (Fe f t op) m):=UH hpr
     have i1 : Ja (Fe f t op) m = [] → Ja (KM f t op) m = m:=fun h => QiK h
     have i2 : Ja (KM f t op) m = [] → Ja (Fe f t op) m = m:=fun h => Cc fun x hx => by
      have h2:=BF.1 h x hx
      show (!KM f t op x.1) = true
      rw [h2]; rfl
     have QnA : ∀ {q : Kv},(q.length : Int) = 0 → q = []:=fun h => List.eq_nil_of_length_eq_zero (by omega)
     refine xj (fun vs w' => vs = [.bool false] ∧ w' = Rw) ?_ ?_
     · have p2 : Zq v1 fun Y8 => YA Y8 (.int .i64 0) fun Y7 => Ql Y7 (Y1 P Rw t2.v tr.v fun Xg => Ql Xg ([Value.bool true] = [.bool false] ∧ Rw = Rw) (Q6 P Zj [mv (some mc)] Rw fun UD Gt => Ad UD (.int .i64 0) fun Vk => [Vk] = [.bool false] ∧ Gt = Rw)) ([Value.bool false] = [.bool false] ∧ Rw = Rw):=by
        refine hv1.len ?_
        refine Vu (fun h => ?_) fun h => ⟨rfl,rfl⟩
        obtain ⟨rfl,rfl⟩:=R2.idle (i2 (QnA h))
        refine Y4 _ ?_
        refine Qp rfl ?_
        refine (Dh Qv2).mono ?_
        rintro _ w13 ⟨rfl,rfl⟩
        exact ⟨rfl,rfl⟩
       refine hv2.len ?_
       refine Vu (fun h => ?_) fun h => p2
       obtain ⟨rfl,rfl⟩:=R1.idle (i1 (QnA h))
       refine Y4 _ ?_
       refine Qp rfl ?_
       refine (Dh QuH).mono ?_
       rintro _ w13 ⟨rfl,rfl⟩
       refine Qp rfl ?_
       exact p2
     rintro vs g w13 ⟨rfl,rfl⟩
     refine Qp rfl ?_
     refine xj (fun vs w' => vs = [.bool true] ∧ Ext No w w') ?_ ?_
     · refine Qr rfl ?_
       refine Qr rfl ?_
       refine (Sy Dp (c1.Q4 JX) hv1 pl).mono ?_
       rintro _ w14 ⟨rfl,UZ⟩
       refine Qr rfl ?_
       refine (Sy (Dp.Q4 UZ) ((c2.Q4 JX).Q4 UZ) (hv2.Q4 UZ) ph).mono ?_
       rintro _ w15 ⟨rfl,Db⟩
       refine Qr rfl ?_
       have h15:=UZ.Q0 Db
       refine (Sy (Dp.Q4 h15) ((Qn4.Q4 JX).Q4 h15) ((Qsl.Q4 JX).Q4 h15) hpr).mono ?_
       rintro _ w16 ⟨rfl,Q1v⟩
       refine Qr rfl ?_
       have h16:=h15.Q0 Q1v
       refine (XL (Dp.Q4 h16)).mono ?_
       rintro _ w17 ⟨rfl,Q7A⟩
       exact ⟨rfl,(Sm.Q0 h16).Q0 Q7A⟩
     · rintro vs g w14 ⟨rfl,he⟩
       exact ⟨rfl,he⟩
set_option maxHeartbeats 1000000 in
theorem QiV (hw : Lw w) (hl : Ps w v l) (hf : Bs w fv f) (ht : Bs w tv t) : Q6 P K8 [v,spV fv tv op] w fun r w' => r = .bool true ∧ Ext No w w':=by
 refine Q63 ?_
 refine Qz fun sb w0 hsb hS hz0 he0 => ?_
 have hS : QZ w0 sb [fv,tv,.bool op] Xc:=hS
 refine xj (fun vs w' => ∃ b,vs = [.bool b] ∧ Ext No w0 w' ∧ (b = false → l.length ≤ 200 ∧ (∀ p ∈ l,p.1.length ≤ 300) ∧ f.length ≤ 600 ∧ t.length ≤ 600)) ?_ ?_
 · exact QhW (K:=fun _ => True) hl he0 hS hf ht
 rintro vs g w1 ⟨b,rfl,he1,hb⟩
 have hE1:=he0.Q0 he1
 cases b with
 | true =>
   refine Qr rfl ?_
   refine (XL (hw.Q4 hE1)).mono ?_
   rintro r w3 ⟨rfl,QE⟩
   exact ⟨rfl,hE1.Q0 QE⟩
 | false =>
   refine Qp rfl ?_
   obtain ⟨l2,l3,f6,t6⟩:=hb rfl
   have hpr : Pr (Kj l):=Pr.sort (by omega) fun p h => by have:=l3 p h; omega
   have QdF : (Kj l).length ≤ 200:=Nat.le_trans (Yd l) l2
   refine (BB (hl.Q4 hE1) (by omega) (fun p h => by have:=l3 p h; omega)).mono ?_
   rintro vl w3 ⟨hso,QE⟩
   have hps:=hso.ps QE (.inr rfl)
   have JD:=hE1.Q0 QE
   generalize Kj l = m at hpr hso hps QdF
   refine (Bc hps hpr (hw.Q4 JD) (ow:=1) (by omega)).mono ?_
   rintro r w4 ⟨tr,rfl,hct,-,-,-,Zl⟩
   have U9:=JD.Q0 Zl
   have hw4:=hw.Q4 U9
   have hS4:=hS.ext ((he1.Q0 QE).Q0 Zl) fun h => h
   refine hS4.ld (o:=0) (v:=fv) rfl ?_
   refine (QvF (o:=2) hct hpr (hf.Q4 U9) (by omega) hw4.Ra (by omega)).mono ?_
   rintro _ w5 ⟨ta,tb,rfl,ca,cb,ZR⟩
   have pa : Pr (Yz false f m):=UH hpr
   have pb : Pr (Yz true f m):=UH hpr
   have Pn:=hw4.Q4 ZR
   refine (Qr3 (o:=3) (n:=0) (mt:=none) ca pa cb pb Pn.Ra (by omega)).mono ?_
   rintro _ w6 ⟨tj,n6,rfl,J⟩
   have Ke : Ext No w5 w6:=J.ext
   have hsplit : Yz false f m ++ Yz true f m = m:=by
    have hr : Zp (Yz false f m ++ Yz true f m):=Q3K.2 ⟨UG hpr.rises,UG hpr.rises,fun x hx y hy => by
     have h1:=(Af hx).2
     have h2:=(Af hy).2
     rw [Vg] at h1
     rw [Xm] at h2
     have h1:=of_decide_eq_true h1
     have h2 : ¬ Xr y.1 f:=by simpa using h2
     rcases Qba f y.1 with h3 | h3 | h3
     · exact Az h1 h3
     · rw [← h3]; exact h1
     · exact absurd h3 h2⟩
    refine hr.ext hpr.rises fun k => ?_
    rw [H5,Xy,Xy,Vg,Xm]
    cases decide (Xr k f) <;> cases look m k <;> rfl
   have ej : Yk (Yz false f m) (Yz true f m) = 0:=by
    unfold Yk
    cases h1 : (Yz false f m).getLast? with
    | none => rfl
    | some p =>
      cases h2 : (Yz true f m).head? with
      | none => rfl
      | some q =>
        have k1:=(Af (List.mem_of_getLast? h1)).2
        have k2:=(Af (List.mem_of_head? h2)).2
        rw [Vg] at k1
        rw [Xm] at k2
        have k1:=of_decide_eq_true k1
        have k2 : ¬ Xr q.1 f:=by simpa using k2
        have k3 : Xr p.1 q.1:=by
         rcases Qba f q.1 with h3 | h3 | h3
         · exact Az k1 h3
         · rw [← h3]; exact k1
         · exact absurd h3 k2
        exact if_pos k3
   have cj:=J.ct ej
   rw [hsplit] at cj
   rw [ej]
   have h46:=ZR.Q0 Ke
   have MC:=U9.Q0 h46
   have hS6:=hS4.ext h46 fun h => h
   refine hS6.JH rfl ?_
   refine Q6.mono (show Q6 P YH [spV fv tv op] w6 _ from Q7U (hf.Q4 MC) (ht.Q4 MC)) ?_
   rintro _ w7 ⟨rfl,Yy⟩
   have BA:=MC.Q0 Yy
   have h47:=h46.Q0 Yy
   refine (Qoo (o:=4) (n:=0) (mt:=none) (hct.Q4 h47) hpr (hf.Q4 BA) (ht.Q4 BA) (by omega) (by omega) (hw.Q4 BA).Ra (by omega)).mono ?_
   rintro _ w8 ⟨ti,n8,rfl,KI⟩
   have KJ : Ext No w7 w8:=KI.ext
   have E9:=BA.Q0 KJ
   have hS8:=hS6.ext (Yy.Q0 KJ) fun h => h
   refine hS8.JH rfl ?_
   refine Q6.mono (show Q6 P YH [spV fv tv op] w8 _ from Q7U (hf.Q4 E9) (ht.Q4 E9)) ?_
   rintro _ w9 ⟨rfl,Ym⟩
   have OA:=E9.Q0 Ym
   have h49:=(h47.Q0 KJ).Q0 Ym
   refine (QgQ (o:=5) (n:=0) (mt:=none) (hct.Q4 h49) hpr (hf.Q4 OA) (ht.Q4 OA) (by omega) (by omega) (hw.Q4 OA).Ra (by omega)).mono ?_
   rintro _ Dn ⟨tu,n10,rfl,CO⟩
   have J9 : Ext No w9 Dn:=CO.ext
   have Dq:=OA.Q0 J9
   have ci:=KI.ct.Q4 (Ym.Q0 J9)
   have co:=CO.ct
   have pi : Pr (Ja (KM f t op) m):=UH hpr
   have po : Pr (Ja (Fe f t op) m):=UH hpr
   have li:=WK (KM f t op) m
   have lo:=WK (Fe f t op) m
   refine (QjX (z:=1) (p:=1) (o:=6) (n:=0) (mt:=none) ⟨by omega,by omega⟩ rfl ci pi co po (hw.Q4 Dq).Ra (by omega)).mono ?_
   rintro _ AL ⟨tz,n11,rfl,U⟩
   have K9 : Ext No Dn AL:=U.ext
   have Gf:=Dq.Q0 K9
   have Q2s:=hw.Q4 Gf
   have ci':=ci.Q4 K9
   have co':=co.Q4 K9
   have h411:=(h49.Q0 J9).Q0 K9
   have ct':=hct.Q4 h411
   have QdM:=(((((Ke.Q0 Yy).Q0 KJ).Q0 Ym).Q0 J9).Q0 K9)
   have ca':=ca.Q4 QdM
   have cb':=cb.Q4 QdM
   have cj':=cj.Q4 ((((Yy.Q0 KJ).Q0 Ym).Q0 J9).Q0 K9)
   have cz:=U.ct
   have pz : Pr (Cz 1 (Ja (KM f t op) m) (Ja (Fe f t op) m)):=Q00 pi po (by omega)
   have a1 : Vm 1 (Ja (KM f t op) m) (Ja (Fe f t op) m) = []:=by
    rw [List.eq_nil_iff_forall_not_mem]
    intro q hq
    have h1 : look (Vm 1 (Ja (KM f t op) m) (Ja (Fe f t op) m)) q.1 = none:=by
     rw [XP,Xy,Xy]
     unfold Fe
     cases KM f t op q.1 <;> cases look m q.1 <;> rfl
    exact KQ.1 h1 q hq rfl
   have a2 : Vm 1 (Yz false f m) (Yz true f m) = []:=by
    rw [List.eq_nil_iff_forall_not_mem]
    intro q hq
    have h1 : look (Vm 1 (Yz false f m) (Yz true f m)) q.1 = none:=by
     rw [XP,Xy,Xy,Vg,Xm]
     cases decide (Xr q.1 f) <;> cases look m q.1 <;> rfl
    exact KQ.1 h1 q hq rfl
   have sj : tj.er.shape = tr.er.shape:=by rw [cj'.can.uniq ct'.can]
   have sz : tz.er.shape = tr.er.shape:=by
    rw [cz.can.uniq (ct'.can.congr fun k => ?_)]
    rw [WA pi.rises po.rises,Xy,Xy]
    unfold Fe
    cases KM f t op k <;> cases look m k <;> rfl
   refine xj (fun vs w' => vs = [.bool false] ∧ Ext No AL w') ?_ ?_
   · refine Qp rfl ?_
     refine Qp rfl ?_
     refine Qp rfl ?_
     refine Qp rfl ?_
     refine Qp rfl ?_
     refine (Q6F (n:=0) ci' pi co' po Q2s.Ra).mono ?_
     rintro _ Rw ⟨rfl,JX⟩
     rw [decide_eq_true a1]
     refine Qp rfl ?_
     refine (Q6F (n:=0) (ca'.Q4 JX) pa (cb'.Q4 JX) pb (Q2s.Q4 JX).Ra).mono ?_
     rintro _ w13 ⟨rfl,XK⟩
     rw [decide_eq_true a2]
     exact ⟨rfl,JX.Q0 XK⟩
   rintro vs g Rw ⟨rfl,JX⟩
   refine Qp rfl ?_
   refine xj (fun vs w' => vs = [.bool true] ∧ Ext No w w') ?_ ?_
   · refine (Xt (Q2s.Q4 JX).tab (cj'.Q4 JX).tree cj'.QR (cj'.tree.Vw cj'.can hpr.rises hpr.many)).mono ?_
     rintro _ w13 ⟨rfl,XK⟩
     have h13:=JX.Q0 XK
     refine (Xt (Q2s.Q4 h13).tab (ct'.Q4 h13).tree ct'.QR (ct'.tree.Vw ct'.can hpr.rises hpr.many)).mono ?_
     rintro _ w14 ⟨rfl,UZ⟩
     have h14:=h13.Q0 UZ
     refine Q6I ?_
     refine Qr (decide_eq_true sj) ?_
     refine (Xt (Q2s.Q4 h14).tab (cz.Q4 h14).tree cz.QR (cz.tree.Vw cz.can pz.rises pz.many)).mono ?_
     rintro _ w15 ⟨rfl,Db⟩
     have h15:=h14.Q0 Db
     refine (Xt (Q2s.Q4 h15).tab (ct'.Q4 h15).tree ct'.QR (ct'.tree.Vw ct'.can hpr.rises hpr.many)).mono ?_
     rintro _ w16 ⟨rfl,Q1v⟩
     have h16:=h15.Q0 Q1v
     refine Q6I ?_
     refine Qr (decide_eq_true sz) ?_
     refine (QbY (ci'.Q4 h16).tree ci'.can.fine ci'.QR (ci'.long pi)).mono ?_
     rintro _ w17 ⟨rfl,Q7A⟩
     refine Qr rfl ?_
     have h17:=h16.Q0 Q7A
     refine (QbY (co'.Q4 h17).tree co'.can.fine co'.QR (co'.long po)).mono ?_
     rintro _ w18 ⟨rfl,Qbp⟩
     refine Qr rfl ?_
     have h18:=h17.Q0 Qbp
     refine (XL (Q2s.Q4 h18)).mono ?_
     rintro _ w19 ⟨rfl,Qga⟩
     exact ⟨rfl,(Gf.Q0 h18).Q0 Qga⟩
   · rintro vs g w13 ⟨rfl,he⟩
     exact ⟨rfl,he⟩
end
end H7
end Go.Proofs.YtbnhggfiembejaaGreatDoor
