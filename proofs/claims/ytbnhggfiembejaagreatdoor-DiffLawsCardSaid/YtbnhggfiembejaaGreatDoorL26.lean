import Derived.Test.YtbnhggfiembejaaGreatDoorC26
import Derived.Test.YtbnhggfiembejaaGreatDoorE26
import Derived.Test.YtbnhggfiembejaaGreatDoorDif
section
namespace Go.Proofs.YtbnhggfiembejaaGreatDoor
open Go Go.RowKit X
set_option linter.unusedSimpArgs false
set_option linter.unusedVariables false
set_option linter.unusedSectionVars false
variable [Floor]
theorem Qir {b : Bool} {K : Value → Prop} (k : K (.bool true)) : Qfg (.bool b) (.bool b) K:=by cases b <;> exact k
namespace EA
abbrev la : Kv:=[([1],5),([2],6)]
abbrev lb : Kv:=[([2],7)]
theorem H8 : Pr la:=⟨by decide +kernel,by intro p hp; simp at hp; rcases hp with rfl | rfl <;> simp,by simp⟩
theorem QlU {k : UInt8} {x : Nat} : Pr [(([k] : Key),x)]:=⟨List.pairwise_singleton _ _,by intro p hp; simp at hp; rw [hp]; simp,by simp⟩
section
variable {w : World} {v ov : Value} {l pl : Kv} {ks : List Key} {ap : Bool}
theorem Qlo (hw : Lw w) {k1 k2 : UInt8} {x y o : Nat} (hp : Pr [([k1],x),([k2],y)]) (hx : x < 18446744073709551616) (hy : y < 18446744073709551616) (ho : o ≠ 0) {K : Value → World → Prop} (k : ∀ (t : T) (w' : World),Ct w' t [([k1],x),([k2],y)] → Ext No w w' → K t.v w') :
  Qs w ([k1].map bv) Qm fun a w1 => Qs w1 ([k2].map bv) Qm fun b w2 => Qs w2 ([.slice (some a) 1 1,u64 x] ++ [.slice (some b) 1 1,u64 y]) Qx fun c w3 => Q6 P X7 [.slice (some c) 2 2,.int .u64 o] w3 K:=by
 refine Qz fun a1 w1 ha1 hb1 hz1 he1 => ?_
 refine Qz fun a2 w2 ha2 hb2 hz2 he2 => ?_
 have h1 : Bs w2 (.slice (some ⟨a1,0,none⟩) 1 1) [k1]:=(Bs.new (k:=[k1]) hb1).Q4 he2
 have h2 : Bs w2 (.slice (some ⟨a2,0,none⟩) 1 1) [k2]:=Bs.new (k:=[k2]) hb2
 refine Qz fun a3 w3 ha3 hb3 hz3 QE => ?_
 have JD:=(he1.Q0 he2).Q0 QE
 have hps : Ps w3 (.slice (some ⟨a3,0,none⟩) 2 2) [([k1],x),([k2],y)]:=Ps.Qm2 (l:=[([k1],x),([k2],y)]) hb3 (((PC.Q24 h1 hx).app (PC.Q24 h2 hy)).Q4 QE)
 refine (Bc hps hp (hw.Q4 JD) (ow:=o) ho).mono ?_
 rintro r w4 ⟨t,rfl,hct,-,-,-,Zl⟩
 exact k t w4 hct (JD.Q0 Zl)
theorem QlT (hw : Lw w) {k1 : UInt8} {x o : Nat} (hx : x < 18446744073709551616) (ho : o ≠ 0) {K : Value → World → Prop} (k : ∀ (t : T) (w' : World),Ct w' t [([k1],x)] → Ext No w w' → K t.v w') :
  Qs w ([k1].map bv) Qm fun a w1 => Qs w1 ([.slice (some a) 1 1,u64 x]) Qx fun c w3 => Q6 P X7 [.slice (some c) 1 1,.int .u64 o] w3 K:=by
 refine Qz fun a1 w1 ha1 hb1 hz1 he1 => ?_
 have h1 : Bs w1 (.slice (some ⟨a1,0,none⟩) 1 1) [k1]:=(Bs.new (k:=[k1]) hb1)
 refine Qz fun a3 w3 ha3 hb3 hz3 QE => ?_
 have JD:=he1.Q0 QE
 have hps : Ps w3 (.slice (some ⟨a3,0,none⟩) 1 1) [([k1],x)]:=Ps.Qm2 (l:=[([k1],x)]) hb3 ((PC.Q24 h1 hx).Q4 QE)
 refine (Bc hps QlU (hw.Q4 JD) (ow:=o) ho).mono ?_
 rintro r w4 ⟨t,rfl,hct,-,-,-,Zl⟩
 exact k t w4 hct (JD.Q0 Zl)
theorem XL (hw : Lw w) : Q6 P X8 [] w fun r w' => r = .bool true ∧ Ext No w w':=by
 refine Q9D ?_
 show Qs w ([1].map bv) Qm _
 refine Qlo hw (k1:=1) (k2:=2) (x:=5) (y:=6) (o:=1) H8 (by omega) (by omega) (by omega) fun ta w1 hca he1 => ?_
 have hw1:=hw.Q4 he1
 show Qs w1 ([2].map bv) Qm _
 refine QlT hw1 (k1:=2) (x:=7) (o:=1) (by omega) (by omega) fun tb w2 hcb he2 => ?_
 have hw2:=hw1.Q4 he2
 have Qn6:=hca.Q4 he2
 have pb : Pr lb:=QlU
 have s1 : ∀ {w : World} {t : T},Ct w t (Kb false la lb) → t.er.shape = [76,48,49,61,53]:=fun h => by
  rw [show Kb false la lb = [([1],5)] by decide +kernel] at h
  rw [h.can.closed (List.pairwise_singleton _ _)]; decide +kernel
 have s2 : ∀ {w : World} {t : T},Ct w t (Kb true la lb) → t.er.shape = [76,48,50,61,54]:=fun h => by
  rw [show Kb true la lb = [([2],6)] by decide +kernel] at h
  rw [h.can.closed (List.pairwise_singleton _ _)]; decide +kernel
 have s3 : ∀ {w : World} {t : T},Ct w t (Uo lb la) → t.er.shape = [76,48,49,61,53]:=fun h => by
  rw [show Uo lb la = [([1],5)] by decide +kernel] at h
  rw [h.can.closed (List.pairwise_singleton _ _)]; decide +kernel
 have e1 : Kb false lb la = []:=by decide +kernel
 have e2 : Kb false la lb ≠ []:=by decide +kernel
 refine (Qek (o:=2) (n:=0) (mt:=none) Qn6 H8 hcb pb hw2.Ra (by omega)).mono ?_
 rintro _ w3 ⟨t1,n1,rfl,h1⟩
 have QE : Ext No w2 w3:=h1.ext
 have hw3:=hw2.Q4 QE
 refine (QqM (o:=2) (n:=0) (mt:=none) (Qn6.Q4 QE) H8 (hcb.Q4 QE) pb hw3.Ra (by omega)).mono ?_
 rintro _ w4 ⟨t2,n2,rfl,h2⟩
 have Zl : Ext No w3 w4:=h2.ext
 have hw4:=hw3.Q4 Zl
 have h24:=QE.Q0 Zl
 refine (Qos (o:=2) (n:=0) (mt:=none) (hcb.Q4 h24) pb (Qn6.Q4 h24) H8 hw4.Ra (by omega)).mono ?_
 rintro _ w5 ⟨t3,n3,rfl,h3,-,ZR⟩
 have ZR : Ext No w4 w5:=ZR
 have Pn:=hw4.Q4 ZR
 have h25:=h24.Q0 ZR
 have c1:=(h1.ct.Q4 Zl).Q4 ZR
 have c2:=h2.ct.Q4 ZR
 refine xj (fun vs w' => vs = [.bool true] ∧ Ext No w w') ?_ ?_
 · refine (Xt Pn.tab c1.tree c1.QR (by rw [s1 c1]; simp)).mono ?_
   rintro r w6 ⟨rfl,Ke⟩
   rw [s1 c1]
   refine Q6I ?_
   refine Qr (decide_eq_true rfl) ?_
   refine Qr rfl ?_
   refine (Xt (Pn.Q4 Ke).tab (c2.Q4 Ke).tree c2.QR (by rw [s2 c2]; simp)).mono ?_
   rintro r w7 ⟨rfl,Yy⟩
   rw [s2 c2]
   refine Q6I ?_
   refine Qr (decide_eq_true rfl) ?_
   refine Qr rfl ?_
   have h57:=Ke.Q0 Yy
   refine (Xt (Pn.Q4 h57).tab (h3.Q4 h57).tree h3.QR (by rw [s3 h3]; simp)).mono ?_
   rintro r w8 ⟨rfl,KJ⟩
   rw [s3 h3]
   refine Q6I ?_
   refine Qr (decide_eq_true rfl) ?_
   refine Qr rfl ?_
   have h58:=h57.Q0 KJ
   have h28:=h25.Q0 h58
   have hw8:=hw2.Q4 h28
   refine (Sz (n:=0) (hcb.Q4 h28) pb (Qn6.Q4 h28) H8 hw8.Ra).mono ?_
   rintro _ w9 ⟨rfl,Ym⟩
   refine Qr (decide_eq_true e1) ?_
   have h29:=h28.Q0 Ym
   refine (Sz (n:=0) (Qn6.Q4 h29) H8 (hcb.Q4 h29) pb (hw2.Q4 h29).Ra).mono ?_
   rintro _ Dn ⟨rfl,J9⟩
   refine ⟨?_,((he1.Q0 he2).Q0 h29).Q0 J9⟩
   show [Value.bool (!decide (Kb false la lb = []))] = _
   rw [decide_eq_false e2]; rfl
 · rintro vs g w4 ⟨rfl,he⟩
   exact ⟨rfl,he⟩
theorem Qmg (hw : Lw w) {o : Nat} (hl : Ps w v l) (ho : Ot w ov ap pl ks) : Q6 P KG [v,ov,.int .u64 o] w fun r w' => r = .bool true ∧ Ext No w w':=by
 obtain ⟨pv,dv,rfl,hp,hd⟩:=id ho.val
 refine Q8u ?_
 refine Qz fun ob w1 hob hblk hz1 he1 => ?_
 have hO : QZ w1 ob [.bool ap,pv,dv] Xd:=hblk
 refine hO.JH rfl ?_
 refine (QbN (hl.Q4 he1) (ho.Q4 he1)).mono ?_
 rintro r w2 ⟨b,rfl,he2,hb⟩
 have hE2:=he1.Q0 he2
 cases b with
 | true =>
   refine Qr rfl ?_
   refine (XL (hw.Q4 hE2)).mono ?_
   rintro r w3 ⟨rfl,QE⟩
   exact ⟨rfl,hE2.Q0 QE⟩
 | false =>
   refine Qp rfl ?_
   have hs:=hb rfl
   have h1:=hs.l1
   have hpr : Pr (Kj l):=Pr.sort (by omega) fun p h => by have:=hs.l3 p h; omega
   have Q58 : (Kj l).length ≤ 100:=Nat.le_trans (Yd l) h1
   refine (BB (hl.Q4 hE2) (by omega) (fun p h => by have:=hs.l3 p h; omega)).mono ?_
   rintro vl w3 ⟨hso,QE⟩
   have hps:=hso.ps QE (.inr rfl)
   have hw3:=(hw.Q4 hE2).Q4 QE
   generalize Kj l = m at hpr hso hps Q58
   refine (Bc hps hpr hw3 (ow:=1) (by omega)).mono ?_
   rintro r w4 ⟨t,rfl,hct,-,how,-,Zl⟩
   have U9:=(hE2.Q0 QE).Q0 Zl
   refine (hO.ext ((he2.Q0 QE).Q0 Zl) fun h => h).JH rfl ?_
   refine (Q7V (hw3.Q4 Zl) hct (hps.Q4 Zl) hpr Q58 how (ho.Q4 U9) hs.p6 hs.p3 hs.k4 hs.k3).mono ?_
   rintro _ w5 ⟨t2,v2,l2,rfl,Qbr,Qj7,Nf,QB8,ZR⟩
   have WX:=U9.Q0 ZR
   have Pn:=hw.Q4 WX
   have Qn2:=hct.Q4 ZR
   have QpZ:=hps.Q4 (Zl.Q0 ZR)
   by_cases ho0 : o = 0
   · subst ho0
     refine Qic.mono ?_
     rintro _ w6 ⟨rfl,Ke⟩
     refine Qr6.mono ?_
     rintro _ w7 ⟨rfl,Yy⟩
     refine QqL.mono ?_
     rintro _ w8 ⟨rfl,KJ⟩
     have h58:=(Ke.Q0 Yy).Q0 KJ
     refine Qr rfl ?_
     refine xj (fun vs w' => vs = [.bool true] ∧ Ext No w w') ?_ ?_
     · refine Ka T.nil ?_
       refine Qr rfl ?_
       refine Ka T.nil ?_
       refine Qr rfl ?_
       refine Ka T.nil ?_
       refine Qr rfl ?_
       refine Qr rfl ?_
       refine Qr rfl ?_
       refine Qr rfl ?_
       refine (XL (Pn.Q4 h58)).mono ?_
       rintro _ AL ⟨rfl,K9⟩
       exact ⟨rfl,(WX.Q0 h58).Q0 K9⟩
     · rintro vs g AL ⟨rfl,he⟩
       exact ⟨rfl,he⟩
   · refine (Qek (n:=0) (mt:=none) Qn2 hpr Qbr Nf Pn.Ra ho0).mono ?_
     rintro _ w6 ⟨t1,n1,rfl,R1⟩
     have Ke : Ext No w5 w6:=R1.ext
     have hw6:=Pn.Q4 Ke
     refine (Qos (n:=0) (mt:=none) (Qn2.Q4 Ke) hpr (Qbr.Q4 Ke) Nf hw6.Ra ho0).mono ?_
     rintro _ w7 ⟨t3,n3,rfl,R2,-,Yy⟩
     have Yy : Ext No w6 w7:=Yy
     have h57:=Ke.Q0 Yy
     refine (QqM (n:=0) (mt:=none) (Qn2.Q4 h57) hpr (Qbr.Q4 h57) Nf (Pn.Q4 h57).Ra ho0).mono ?_
     rintro _ w8 ⟨t4,n4,rfl,R3⟩
     have KJ : Ext No w7 w8:=R3.ext
     have h58:=h57.Q0 KJ
     refine Vu (fun h => absurd (by omega) ho0) fun _ => ?_
     refine (Q0a (Ext.refl No w8) (QpZ.Q4 h58) (Qj7.Q4 h58) (by omega) (by omega) Nf.keys).mono ?_
     rintro vd w9 ⟨hsd,Ym⟩
     have hpd:=hsd.ps Ym (.inr rfl)
     have h59:=h58.Q0 Ym
     have hw9:=Pn.Q4 h59
     refine xj (fun vs w' => vs = [.bool true] ∧ Ext No w w') ?_ ?_
     · refine Qr rfl ?_
       refine Qr rfl ?_
       refine Qr rfl ?_
       refine (Sy hw9 (((R1.ct.Q4 Yy).Q4 KJ).Q4 Ym) hpd (Bn hpr)).mono ?_
       rintro _ Dn ⟨rfl,J9⟩
       refine Qr rfl ?_
       have Q7F:=h59.Q0 J9
       refine (Qeb (QpZ.Q4 Q7F) (Qj7.Q4 Q7F) (by omega) (by omega) hpr.keys Nf.keys).mono ?_
       rintro ve AL ⟨hpe,K9⟩
       have QdM:=Q7F.Q0 K9
       have hle : (Uo m l2).length ≤ 300:=by
        have h1:=Yd (Kb false m l2 ++ Kb false l2 m)
        have h2:=YM false m l2
        have h3:=YM false l2 m
        unfold Uo
        simp at h1
        omega
       refine (Sy (Pn.Q4 QdM) ((R2.Q4 KJ).Q4 ((Ym.Q0 J9).Q0 K9)) hpe (Q1A hpr Nf (by omega))).mono ?_
       rintro _ Rw ⟨rfl,JX⟩
       refine Qr rfl ?_
       have Q7E:=QdM.Q0 JX
       refine (Q5j (QpZ.Q4 Q7E) (Qj7.Q4 Q7E) (by omega) (by omega) Nf.keys).mono ?_
       rintro vt w13 ⟨hpt,XK⟩
       have Qng:=Q7E.Q0 XK
       have h813:=(((Ym.Q0 J9).Q0 K9).Q0 JX).Q0 XK
       refine (Sy (Pn.Q4 Qng) (R3.ct.Q4 h813) hpt (Bn hpr)).mono ?_
       rintro _ w14 ⟨rfl,UZ⟩
       refine Qr rfl ?_
       have Qgi:=Qng.Q0 UZ
       refine (Sz (n:=0) (Qn2.Q4 Qgi) hpr (Qbr.Q4 Qgi) Nf (Pn.Q4 Qgi).Ra).mono ?_
       rintro _ w15 ⟨rfl,Db⟩
       have Qqn:=Qgi.Q0 Db
       refine (hpd.Q4 ((((((J9.Q0 K9).Q0 JX).Q0 XK).Q0 UZ).Q0 Db))).len ?_
       have hemp : decide (Kb false m l2 = []) = (((Kb false m l2).length : Int) == 0):=by
        by_cases e : Kb false m l2 = []
        · rw [e]; rfl
        · rw [decide_eq_false e]
          have : (Kb false m l2).length ≠ 0:=fun h => e (List.eq_nil_of_length_eq_zero h)
          exact (beq_eq_false_iff_ne.2 (by omega)).symm
       rw [hemp]
       refine Qir ?_
       refine Qr rfl ?_
       refine (Sy (Pn.Q4 Qqn) (Qn2.Q4 Qqn) (QpZ.Q4 Qqn) hpr).mono ?_
       rintro _ w16 ⟨rfl,Q1v⟩
       refine Qr rfl ?_
       have Qqm:=Qqn.Q0 Q1v
       refine (Sy (Pn.Q4 Qqm) (Qbr.Q4 Qqm) (Qj7.Q4 Qqm) Nf).mono ?_
       rintro _ w17 ⟨rfl,Q7A⟩
       refine Qr rfl ?_
       have QB3:=Qqm.Q0 Q7A
       refine (XL (Pn.Q4 QB3)).mono ?_
       rintro _ w18 ⟨rfl,Qbp⟩
       exact ⟨rfl,(WX.Q0 QB3).Q0 Qbp⟩
     · rintro vs g AL ⟨rfl,he⟩
       exact ⟨rfl,he⟩
end
end EA
end Go.Proofs.YtbnhggfiembejaaGreatDoor
end
section
namespace Go.Proofs.YtbnhggfiembejaaGreatDoor
open Go Go.RowKit X
set_option linter.unusedSimpArgs false
set_option linter.unusedVariables false
set_option linter.unusedSectionVars false
variable [Floor]
theorem Q7Q {both : Bool} {l : Kv} (h : Zp l) : Kb both l l = []:=by
 refine (A8 h).ext List.Pairwise.nil fun k => ?_
 rw [X3 h,Q7P]
 rfl
theorem QbC {l : Kv} (h : Zp l) : Uo l l = []:=by
 refine (Q0K l l).ext List.Pairwise.nil fun k => ?_
 rw [De h h]
 cases look l k <;> rfl
namespace EA
section
variable {w : World} {v ov : Value} {l pl : Kv} {ks : List Key} {ap : Bool}
theorem QfT (hw : Lw w) (hl : Ps w v l) (ho : Ot w ov ap pl ks) : Q6 P JM [v,ov] w fun r w' => r = .bool true ∧ Ext No w w':=by
 obtain ⟨pv,dv,rfl,hp,hd⟩:=id ho.val
 refine Q4s ?_
 refine Qz fun ob w1 hob hblk hz1 he1 => ?_
 have hO : QZ w1 ob [.bool ap,pv,dv] Xd:=hblk
 refine hO.JH rfl ?_
 refine (QbN (hl.Q4 he1) (ho.Q4 he1)).mono ?_
 rintro r w2 ⟨b,rfl,he2,hb⟩
 have hE2:=he1.Q0 he2
 cases b with
 | true =>
   refine Qr rfl ?_
   refine (XL (hw.Q4 hE2)).mono ?_
   rintro r w3 ⟨rfl,QE⟩
   exact ⟨rfl,hE2.Q0 QE⟩
 | false =>
   refine Qp rfl ?_
   have hs:=hb rfl
   have h1:=hs.l1
   have hpr : Pr (Kj l):=Pr.sort (by omega) fun p h => by have:=hs.l3 p h; omega
   have Q58 : (Kj l).length ≤ 100:=Nat.le_trans (Yd l) h1
   refine (BB (hl.Q4 hE2) (by omega) (fun p h => by have:=hs.l3 p h; omega)).mono ?_
   rintro vl w3 ⟨hso,QE⟩
   have hps:=hso.ps QE (.inr rfl)
   have hw3:=(hw.Q4 hE2).Q4 QE
   generalize Kj l = m at hpr hso hps Q58
   refine (Bc hps hpr hw3 (ow:=1) (by omega)).mono ?_
   rintro r w4 ⟨t,rfl,hct,-,how,-,Zl⟩
   have U9:=(hE2.Q0 QE).Q0 Zl
   refine (hO.ext ((he2.Q0 QE).Q0 Zl) fun h => h).JH rfl ?_
   refine (Q7V (hw3.Q4 Zl) hct (hps.Q4 Zl) hpr Q58 how (ho.Q4 U9) hs.p6 hs.p3 hs.k4 hs.k3).mono ?_
   rintro _ w5 ⟨t2,v2,l2,rfl,Qbr,Qj7,Nf,QB8,ZR⟩
   have WX:=U9.Q0 ZR
   have Pn:=hw.Q4 WX
   refine Qz fun mb w6 hmb Iu hz6 Ke => ?_
   have hm6 : Mt w6 (some mb) 0:=Pn.Q7a hmb Iu Ke
   have MC:=WX.Q0 Ke
   have hw6:=Pn.Q4 Ke
   refine Qz fun mc w7 hmc Q7w hz7 Yy => ?_
   have hc7 : Mt w7 (some mc) 0:=hw6.Q7a hmc Q7w Yy
   have hm7:=hm6.Q4 Yy
   have BA:=MC.Q0 Yy
   have hw7:=hw6.Q4 Yy
   have h57:=Ke.Q0 Yy
   have Qn1:=hct.Q4 (ZR.Q0 h57)
   have Qur:=hps.Q4 ((Zl.Q0 ZR).Q0 h57)
   have Qsy:=Qbr.Q4 h57
   have Qzo:=Qj7.Q4 h57
   have Q9l : w.heap.size ≤ mb:=by have:=WX.size; omega
   have QmO : w.heap.size ≤ mc:=by have:=MC.size; omega
   have hne : mb ≠ mc:=by omega
   refine (Qek (o:=3) (n:=0) (mt:=some mb) Qn1 hpr Qsy Nf hm7 (by omega)).mono ?_
   rintro _ w8 ⟨t1,n1,rfl,R1⟩
   have KJ:=R1.ext
   have Si:=R1.cnt
   have E9:=Ext.mx' BA KJ Q9l
   have hw8:=hw7.mt hm7 KJ
   have Qbq:=Qn1.mt hm7 KJ
   have Qsx:=Qsy.mt hm7 KJ
   have QmA:=Qur.mt KJ hm7
   have Qzn:=Qzo.mt KJ hm7
   have hc8:=hc7.ext KJ fun b hb h => by
    have e1 : mc = b:=hb
    have e2 : mb = b:=h
    omega
   refine (QqM (o:=3) (n:=0) (mt:=some mc) Qbq hpr Qsx Nf hc8 (by omega)).mono ?_
   rintro _ w9 ⟨t3,n3,rfl,R3⟩
   have Ym:=R3.ext
   have hc9:=R3.cnt
   have OA:=Ext.mx' E9 Ym QmO
   have hw9:=hw8.mt hc8 Ym
   have Qjd:=Qbq.mt hc8 Ym
   have QAh:=Qsx.mt hc8 Ym
   have Qbg:=QmA.mt Ym hc8
   have Qsk:=Qzn.mt Ym hc8
   have hm9:=Si.ext Ym fun b hb h => by
    have e1 : mb = b:=hb
    have e2 : mc = b:=h
    omega
   have pd : Pr (Kb false m l2):=Bn hpr
   have pt : Pr (Kb true m l2):=Bn hpr
   have QlM : ∀ {w' : World},Ext No w9 w' → Q6 P Wh [vl,v2] w' fun r1 w1 => Q6 P Aj [r1,vl] w1 fun r2 w2 => Ql r2 (Y1 P w2 t3.v t.v fun r3 => Ql r3 ([Value.bool true] = [.bool false] ∧ Ext No w9 w2) (Q6 P Zj [mv (some mc)] w2 fun r4 w4 => Ad r4 (.int .i64 0) fun r5 => [r5] = [.bool false] ∧ Ext No w9 w4)) ([Value.bool false] = [.bool false] ∧ Ext No w9 w2):=fun {w'} he => by
    refine (Q5j (Qbg.Q4 he) (Qsk.Q4 he) (by omega) (by omega) Nf.keys).mono ?_
    rintro vt Dn ⟨hpt,J9⟩
    have QB1:=he.Q0 J9
    refine (Qay hpt (Qbg.Q4 QB1) (Nat.le_trans pt.many (by omega)) (by omega) pt.keys).mono ?_
    rintro _ AL ⟨rfl,K9⟩
    have Q0i:=QB1.Q0 K9
    refine ZF (fun h => ?_) fun h => ⟨rfl,Q0i⟩
    obtain ⟨rfl,rfl⟩:=R3.idle h
    refine Y4 _ ?_
    refine Qp rfl ?_
    refine (Dh (hc9.Q4 Q0i)).mono ?_
    rintro _ Rw ⟨rfl,rfl⟩
    exact ⟨rfl,Q0i⟩
   refine xj (fun vs w' => vs = [.bool false] ∧ Ext No w9 w') ?_ ?_
   · refine (Q0a (Ext.refl No w9) Qbg Qsk (by omega) (by omega) Nf.keys).mono ?_
     rintro vd Dn ⟨hsd,J9⟩
     refine (Qay (hsd.ps J9 (.inr rfl)) (Qbg.Q4 J9) (Nat.le_trans pd.many (by omega)) (by omega) pd.keys).mono ?_
     rintro _ AL ⟨rfl,K9⟩
     have Q0i:=J9.Q0 K9
     refine ZF (fun h => ?_) fun h => ?_
     · obtain ⟨rfl,rfl⟩:=R1.idle h
       refine Y4 _ ?_
       refine Qp rfl ?_
       refine (Dh (hm9.Q4 Q0i)).mono ?_
       rintro _ Rw ⟨rfl,rfl⟩
       refine Qp rfl ?_
       exact QlM Q0i
     · exact QlM Q0i
   rintro vs g Dn ⟨rfl,J9⟩
   refine Qp rfl ?_
   have Qq3:=hm9.Q4 J9
   have Que:=hw9.Q4 J9
   have Dq:=OA.Q0 J9
   have Qaf:=Qjd.Q4 J9
   have Qv1:=QAh.Q4 J9
   refine (Qek (o:=3) (mt:=some mb) Qaf hpr Qaf hpr Qq3 (by omega)).mono ?_
   rintro _ AL ⟨x1,y1,rfl,Q1⟩
   have K9:=Q1.ext
   have Gf:=Ext.mx' Dq K9 Q9l
   have Q2s:=Que.mt Qq3 K9
   have Qn4:=Qaf.mt Qq3 K9
   have Qn3:=Qv1.mt Qq3 K9
   refine (QqM (o:=3) (mt:=some mb) Qn3 Nf Qn3 Nf Q1.cnt (by omega)).mono ?_
   rintro _ Rw ⟨x2,y2,rfl,Q2⟩
   have JX:=Q2.ext
   have Sm:=Ext.mx' Gf JX Q9l
   have Dp:=Q2s.mt Q1.cnt JX
   have Qsz:=Qn4.mt Q1.cnt JX
   refine (Qos (o:=3) (mt:=some mb) Qsz hpr Qsz hpr Q2.cnt (by omega)).mono ?_
   rintro _ w13 ⟨x3,y3,rfl,Q3,hm13,XK⟩
   have Qqk:=Ext.mx' Sm XK Q9l
   have Qj5:=Dp.mt Q2.cnt XK
   have q1 : x1 = .nil:=Q1.ct.isNil.2 (Q7Q hpr.rises)
   have q2 : x2 = .nil:=Q2.ct.isNil.2 (Q7Q Nf.rises)
   have q3 : x3 = .nil:=Q3.isNil.2 (QbC hpr.rises)
   subst q1 q2 q3
   refine xj (fun vs w' => vs = [.bool true] ∧ Ext No w w') ?_ ?_
   · refine Ka T.nil ?_
     refine Qr rfl ?_
     refine Ka T.nil ?_
     refine Qr rfl ?_
     refine Ka T.nil ?_
     refine Qr rfl ?_
     refine (XL Qj5).mono ?_
     rintro _ w14 ⟨rfl,UZ⟩
     exact ⟨rfl,Qqk.Q0 UZ⟩
   · rintro vs g AL ⟨rfl,he⟩
     exact ⟨rfl,he⟩
end
end EA
end Go.Proofs.YtbnhggfiembejaaGreatDoor
end
section
namespace Go.Proofs.YtbnhggfiembejaaGreatDoor
open Go Go.RowKit X
set_option linter.unusedSimpArgs false
set_option linter.unusedVariables false
set_option linter.unusedSectionVars false
variable [Floor]
theorem Ct.Qfu {w w' : World} {t t' : T} {l l' : Kv} (h : Ct w t l) (h' : Ct w' t' l') (e : ∀ k,look l k = look l' k) : t.er.shape = t'.er.shape:=by
 rw [h.can.uniq (h'.can.congr fun k => (e k).symm)]
theorem Q2r {l m : Kv} (h : ∀ k,U8 1 (look l k) (look m k) = none) : Vm 1 l m = []:=by
 rw [List.eq_nil_iff_forall_not_mem]
 intro q hq
 have h1 : look (Vm 1 l m) q.1 = none:=by rw [XP]; exact h q.1
 exact KQ.1 h1 q hq rfl
theorem Q5f {l m : Kv} (hl : Zp l) (h : ∀ k,Yt false (look l k) (look m k) = none) : Kb false l m = []:=by
 refine (A8 hl).ext List.Pairwise.nil fun k => ?_
 rw [X3 hl,h]
 rfl
namespace EA
section
variable {w : World} {v ov : Value} {l pl : Kv} {ks : List Key} {ap : Bool}
set_option maxHeartbeats 1000000 in
theorem QfS (hw : Lw w) (hl : Ps w v l) (ho : Ot w ov ap pl ks) : Q6 P JL [v,ov] w fun r w' => r = .bool true ∧ Ext No w w':=by
 obtain ⟨pv,dv,rfl,hp,hd⟩:=id ho.val
 refine Q4r ?_
 refine Qz fun ob w1 hob hblk hz1 he1 => ?_
 have hO : QZ w1 ob [.bool ap,pv,dv] Xd:=hblk
 refine hO.JH rfl ?_
 refine (QbN (hl.Q4 he1) (ho.Q4 he1)).mono ?_
 rintro r w2 ⟨b,rfl,he2,hb⟩
 have hE2:=he1.Q0 he2
 cases b with
 | true =>
   refine Qr rfl ?_
   refine (XL (hw.Q4 hE2)).mono ?_
   rintro r w3 ⟨rfl,QE⟩
   exact ⟨rfl,hE2.Q0 QE⟩
 | false =>
   refine Qp rfl ?_
   have hs:=hb rfl
   have h1:=hs.l1
   have hpr : Pr (Kj l):=Pr.sort (by omega) fun p h => by have:=hs.l3 p h; omega
   have Q58 : (Kj l).length ≤ 100:=Nat.le_trans (Yd l) h1
   refine (BB (hl.Q4 hE2) (by omega) (fun p h => by have:=hs.l3 p h; omega)).mono ?_
   rintro vl w3 ⟨hso,QE⟩
   have hps:=hso.ps QE (.inr rfl)
   have hw3:=(hw.Q4 hE2).Q4 QE
   refine (Bc hps hpr hw3 (ow:=1) (by omega)).mono ?_
   rintro r w4 ⟨t,rfl,hct,-,how,-,Zl⟩
   have U9:=(hE2.Q0 QE).Q0 Zl
   have hd4:=Ext.drew (Ext.refl No w4)
   have hO4:=(hO.ext ((he2.Q0 QE).Q0 Zl) fun h => h).drew
   refine hO4.JH rfl ?_
   have Qqj:=U9.Q0 hd4
   refine (BB (hl.Q4 Qqj) (by omega) (fun p h => by have:=hs.l3 p h; omega)).mono ?_
   rintro vl' w4' ⟨Qz8,QuX⟩
   have Qj8:=Qz8.ps QuX (.inr rfl)
   have h44:=hd4.Q0 QuX
   refine ⟨J6 (hO4.ext QuX fun h => h),?_⟩
   have Qvf:=U9.Q0 h44
   generalize Kj l = m at hpr hso hps Q58 hct Qz8 Qj8
   refine (Q7V (hw.Q4 Qvf) (hct.Q4 h44) Qj8 hpr Q58 how (ho.Q4 Qvf) hs.p6 hs.p3 hs.k4 hs.k3).mono ?_
   rintro _ w5 ⟨t2,v2,l2,rfl,cb,-,pb,QB8,ZR⟩
   have WX:=Qvf.Q0 ZR
   have Pn:=hw.Q4 WX
   have ca:=hct.Q4 (h44.Q0 ZR)
   have h11 : 1 ≤ 1 ∧ 1 ≤ 5:=by omega
   refine (Qek (o:=3) (n:=0) (mt:=none) ca hpr cb pb Pn.Ra (by omega)).mono ?_
   rintro _ w6 ⟨td,n6,rfl,D⟩
   have Ke : Ext No w5 w6:=D.ext
   refine (QvM (z:=1) (p:=1) (o:=4) (n:=0) (mt:=none) h11 rfl (ca.Q4 Ke) hpr (cb.Q4 Ke) pb (Pn.Q4 Ke).Ra (by omega)).mono ?_
   rintro _ w7 ⟨ti,n7,rfl,I⟩
   have Yy : Ext No w6 w7:=I.ext
   have h57:=Ke.Q0 Yy
   have pd : Pr (Kb false m l2):=Bn hpr
   have pi : Pr (Vm 1 m l2):=Qj0 hpr
   have ld:=YM false m l2
   have ld':=YM false l2 m
   have li : (Vm 1 m l2).length ≤ m.length:=Q0F _ _ _
   have pk : Pr (Cz 1 (Kb false m l2) (Vm 1 m l2)):=Q00 pd pi (by omega)
   refine (QjX (z:=1) (p:=1) (o:=5) (n:=0) (mt:=none) h11 rfl (D.ct.Q4 Yy) pd I.ct pi (Pn.Q4 h57).Ra (by omega)).mono ?_
   rintro _ w8 ⟨tk,n8,rfl,Bk⟩
   have KJ : Ext No w7 w8:=Bk.ext
   have h58:=h57.Q0 KJ
   have pa : Pr (Cz 1 m l2):=Q00 hpr pb (by omega)
   refine (QjX (z:=1) (p:=1) (o:=6) (n:=0) (mt:=none) h11 rfl (ca.Q4 h58) hpr (cb.Q4 h58) pb (Pn.Q4 h58).Ra (by omega)).mono ?_
   rintro _ w9 ⟨tu,n9,rfl,U⟩
   have Ym : Ext No w8 w9:=U.ext
   have h59:=h58.Q0 Ym
   refine (Qos (o:=7) (n:=0) (mt:=none) (ca.Q4 h59) hpr (cb.Q4 h59) pb (Pn.Q4 h59).Ra (by omega)).mono ?_
   rintro _ Dn ⟨tx,n10,rfl,X,-,J9⟩
   have J9 : Ext No w9 Dn:=J9
   have Q7F:=h59.Q0 J9
   refine (Qos (o:=8) (n:=0) (mt:=none) (cb.Q4 Q7F) pb (ca.Q4 Q7F) hpr (Pn.Q4 Q7F).Ra (by omega)).mono ?_
   rintro _ AL ⟨ty,n11,rfl,Y,-,K9⟩
   have K9 : Ext No Dn AL:=K9
   have QdM:=Q7F.Q0 K9
   have QB2:=((KJ.Q0 Ym).Q0 J9).Q0 K9
   refine (Qek (o:=9) (n:=0) (mt:=none) ((U.ct.Q4 J9).Q4 K9) pa (I.ct.Q4 QB2) pi (Pn.Q4 QdM).Ra (by omega)).mono ?_
   rintro _ Rw ⟨tz,n12,rfl,Z⟩
   have JX : Ext No AL Rw:=Z.ext
   have Q7E:=QdM.Q0 JX
   have Dp:=Pn.Q4 Q7E
   have cd:=D.ct.Q4 (((Yy.Q0 KJ).Q0 (Ym.Q0 J9)).Q0 (K9.Q0 JX))
   have ci:=I.ct.Q4 (QB2.Q0 JX)
   have ck:=(Bk.ct.Q4 (Ym.Q0 J9)).Q4 (K9.Q0 JX)
   have cx:=(X.Q4 K9).Q4 JX
   have cy:=Y.Q4 JX
   have cz:=Z.ct
   have QjL:=ca.Q4 Q7E
   have QBF:=cb.Q4 Q7E
   have px : Pr (Uo m l2):=Q1A hpr pb (by omega)
   have py : Pr (Uo l2 m):=Q1A pb hpr (by omega)
   have pz : Pr (Kb false (Cz 1 m l2) (Vm 1 m l2)):=Bn pa
   have a1 : Vm 1 (Kb false m l2) (Vm 1 m l2) = []:=Q2r fun k => by
    rw [X3 hpr.rises,XP]
    cases look m k <;> cases look l2 k <;> rfl
   have a2 : Vm 1 (Kb false m l2) l2 = []:=Q2r fun k => by
    rw [X3 hpr.rises]
    cases look m k <;> cases look l2 k <;> rfl
   have s1 : tk.er.shape = t.er.shape:=ck.Qfu QjL fun k => by
    rw [WA pd.rises pi.rises,X3 hpr.rises,XP]
    cases look m k <;> cases look l2 k <;> rfl
   have s2 : tx.er.shape = ty.er.shape:=cx.Qfu cy fun k => by
    rw [De hpr.rises pb.rises,De pb.rises hpr.rises]
    cases look m k <;> cases look l2 k <;> rfl
   have s3 : tx.er.shape = tz.er.shape:=cx.Qfu cz fun k => by
    rw [De hpr.rises pb.rises,X3 pa.rises,WA hpr.rises pb.rises,XP]
    cases look m k <;> cases look l2 k <;> rfl
   refine xj (fun vs w' => vs = [.bool false] ∧ Ext No Rw w') ?_ ?_
   · refine (Q6F (n:=0) cd pd ci pi Dp.Ra).mono ?_
     rintro _ w13 ⟨rfl,XK⟩
     rw [decide_eq_true a1]
     refine Qp rfl ?_
     refine (Q6F (n:=0) (cd.Q4 XK) pd (QBF.Q4 XK) pb (Dp.Q4 XK).Ra).mono ?_
     rintro _ w14 ⟨rfl,UZ⟩
     rw [decide_eq_true a2]
     refine Qp rfl ?_
     have h14:=XK.Q0 UZ
     refine (Xt (Dp.Q4 h14).tab (ck.Q4 h14).tree ck.QR (ck.tree.Vw ck.can pk.rises pk.many)).mono ?_
     rintro _ w15 ⟨rfl,Db⟩
     have h15:=h14.Q0 Db
     refine (Xt (Dp.Q4 h15).tab (QjL.Q4 h15).tree QjL.QR (QjL.tree.Vw QjL.can hpr.rises hpr.many)).mono ?_
     rintro _ w16 ⟨rfl,Q1v⟩
     refine Qto ?_
     rw [decide_eq_true s1]
     refine Qp rfl ?_
     have h16:=h15.Q0 Q1v
     refine (Xt (Dp.Q4 h16).tab (cx.Q4 h16).tree cx.QR (cx.tree.Vw cx.can px.rises px.many)).mono ?_
     rintro _ w17 ⟨rfl,Q7A⟩
     have h17:=h16.Q0 Q7A
     refine (Xt (Dp.Q4 h17).tab (cy.Q4 h17).tree cy.QR (cy.tree.Vw cy.can py.rises py.many)).mono ?_
     rintro _ w18 ⟨rfl,Qbp⟩
     refine Qto ?_
     rw [decide_eq_true s2]
     refine Qp rfl ?_
     have h18:=h17.Q0 Qbp
     refine (Xt (Dp.Q4 h18).tab (cx.Q4 h18).tree cx.QR (cx.tree.Vw cx.can px.rises px.many)).mono ?_
     rintro _ w19 ⟨rfl,Qga⟩
     have h19:=h18.Q0 Qga
     refine (Xt (Dp.Q4 h19).tab (cz.Q4 h19).tree cz.QR (cz.tree.Vw cz.can pz.rises pz.many)).mono ?_
     rintro _ w20 ⟨rfl,QmY⟩
     refine Qto ?_
     rw [decide_eq_true s3]
     exact ⟨rfl,h19.Q0 QmY⟩
   rintro vs g w13 ⟨rfl,XK⟩
   refine Qp rfl ?_
   refine xj (fun vs w' => vs = [.bool true] ∧ Ext No w w') ?_ ?_
   · refine (QbY (cd.Q4 XK).tree cd.can.fine cd.QR (cd.long pd)).mono ?_
     rintro _ w14 ⟨rfl,UZ⟩
     refine Qr rfl ?_
     have h14:=XK.Q0 UZ
     refine (QbY (cx.Q4 h14).tree cx.can.fine cx.QR (cx.long px)).mono ?_
     rintro _ w15 ⟨rfl,Db⟩
     refine Qr rfl ?_
     have h15:=h14.Q0 Db
     refine (Sz (n:=0) (cd.Q4 h15) pd (QjL.Q4 h15) hpr (Dp.Q4 h15).Ra).mono ?_
     rintro _ w16 ⟨rfl,Q1v⟩
     refine Qr (decide_eq_true (Q5f pd.rises fun k => ?_)) ?_
     · rw [X3 hpr.rises]
       cases look m k <;> cases look l2 k <;> rfl
     have h16:=h15.Q0 Q1v
     refine (Sz (n:=0) (ci.Q4 h16) pi (QBF.Q4 h16) pb (Dp.Q4 h16).Ra).mono ?_
     rintro _ w17 ⟨rfl,Q7A⟩
     refine Qr (decide_eq_true (Q5f pi.rises fun k => ?_)) ?_
     · rw [XP]
       cases look m k <;> cases look l2 k <;> rfl
     have h17:=h16.Q0 Q7A
     refine (XL (Dp.Q4 h17)).mono ?_
     rintro _ w18 ⟨rfl,Qbp⟩
     exact ⟨rfl,((WX.Q0 Q7E).Q0 h17).Q0 Qbp⟩
   · rintro vs g w14 ⟨rfl,he⟩
     exact ⟨rfl,he⟩
end
end EA
end Go.Proofs.YtbnhggfiembejaaGreatDoor
end
