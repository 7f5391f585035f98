import Derived.Test.YtbnhggfiembejaaGreatDoorC26
import Derived.Test.YtbnhggfiembejaaGreatDoorG1
namespace Go.Proofs.YtbnhggfiembejaaGreatDoor
open Go Go.RowKit X
set_option linter.unusedSimpArgs false
set_option linter.unusedVariables false
set_option linter.unusedSectionVars false
namespace EA
variable [Floor]
structure Ot (w : World) (v : Value) (ap : Bool) (pl : Kv) (ks : List Key) : Prop where
 val : ∃ pv dv,v = .agg #[.bool ap,pv,dv] ∧ Ps w pv pl ∧ Bss w dv ks
section
variable {w w' : World} {v ov : Value} {l pl : Kv} {ks : List Key} {ap : Bool}
theorem Ot.Q4 (h : Ot w ov ap pl ks) (e : Ext No w w') : Ot w' ov ap pl ks:=by
 obtain ⟨pv,dv,h1,h2,h3⟩:=h.val
 exact ⟨pv,dv,h1,h2.Q4 e,h3.Q4 e⟩
structure Small (l pl : Kv) (ks : List Key) : Prop where
 l1 : l.length ≤ 100
 l3 : ∀ p ∈ l,p.1.length ≤ 300
 p6 : pl.length ≤ 60
 p3 : ∀ p ∈ pl,p.1.length ≤ 300
 k4 : ks.length ≤ 40
 k3 : ∀ k ∈ ks,k.length ≤ 300
theorem QbN (h : Ps w v l) (ho : Ot w ov ap pl ks) : Q6 P Bi [v,ov] w fun r w' => ∃ b,r = .bool b ∧ Ext No w w' ∧ (b = false → Small l pl ks):=by
 obtain ⟨pv,dv,rfl,hp,hd⟩:=ho.val
 refine Q9C ?_
 refine Qz fun ob w1 hob hblk hz he1 => ?_
 have hO : QZ w1 ob [.bool ap,pv,dv] Xd:=hblk
 refine xj (fun vs w' => ∃ b,vs = [.bool b] ∧ Ext No w1 w' ∧ (b = false → l.length ≤ 100 ∧ (∀ p ∈ l,p.1.length ≤ 300) ∧ pl.length ≤ 60 ∧ (∀ p ∈ pl,p.1.length ≤ 300) ∧ ks.length ≤ 40)) ?_ ?_
 · refine (Q7W (m:=100) (h.Q4 he1) (by omega)).mono ?_
   rintro r w2 ⟨b,rfl,he2,hb⟩
   cases b with
   | true => exact Qr rfl ⟨true,rfl,he2,fun h => by cases h⟩
   | false =>
     refine Qp rfl ?_
     refine (hO.ext he2 fun h => h).ld (v:=pv) rfl ?_
     refine (Q7W (m:=60) (hp.Q4 (he1.Q0 he2)) (by omega)).mono ?_
     rintro r w3 ⟨b,rfl,QE,hb3⟩
     cases b with
     | true => exact Qr rfl ⟨true,rfl,he2.Q0 QE,fun h => by cases h⟩
     | false =>
       refine Qp rfl ?_
       refine (hO.ext (he2.Q0 QE) fun h => h).ld (v:=dv) rfl ?_
       refine hd.len ?_
       refine ⟨_,rfl,he2.Q0 QE,fun h => ⟨(hb rfl).1,(hb rfl).2,(hb3 rfl).1,(hb3 rfl).2,?_⟩⟩
       have:=of_decide_eq_false h
       omega
 rintro vs g w2 ⟨b,rfl,he2,hb⟩
 cases b with
 | true => exact Qr rfl ⟨true,rfl,he1.Q0 he2,fun h => by cases h⟩
 | false =>
   refine Qp rfl ?_
   obtain ⟨b1,b2,b3,b4,b5⟩:=hb rfl
   have hE2:=he1.Q0 he2
   refine (hO.ext he2 fun h => h).ld (v:=dv) rfl ?_
   refine hd.len ?_
   refine JN (fun n vs w' => ∃ (i : Nat) (x : Value),vs = [.int .i64 i,x,.bool false] ∧ n = ks.length - i ∧ i ≤ ks.length ∧ (∀ k ∈ ks.take i,k.length ≤ 300) ∧ Ext No w w') ks.length ⟨0,_,rfl,rfl,by omega,by simp,hE2⟩ ?_
   rintro n vs g w3 ⟨i,x,rfl,rfl,hi,hall,QE⟩
   unfold O5
   refine ZF (fun hlt => ?_) fun hge => ?_
   · have hil : i < ks.length:=by omega
     refine (hd.Q4 QE).rd i rfl hil fun kv Wq => ?_
     refine Wq.len ?_
     refine ZF (fun hk => ⟨true,rfl,QE,fun h => by cases h⟩) fun hk => ?_
     refine xi (r:=((i + 1 : Nat) : Int)) (by rw [QQ (by omega)]; omega) ?_
     refine JP (ks.length - (i + 1)) (by omega) ⟨i + 1,_,rfl,rfl,by omega,fun p hp => ?_,QE⟩
     rw [← List.take_append_getElem hil] at hp
     rcases List.mem_append.1 hp with e | e
     · exact hall p e
     · rw [List.mem_singleton.1 e]; omega
   · have : i = ks.length:=by omega
     subst this
     rw [List.take_length] at hall
     exact ⟨false,rfl,QE,fun _ => ⟨b1,b2,b3,b4,b5,hall⟩⟩
theorem Q7V {t : T} (hw : Lw w) (hct : Ct w t l) (hv : Ps w v l) (hpr : Pr l) (hll : l.length ≤ 100) (how : t.Q1g 1) (ho : Ot w ov ap pl ks) (p6 : pl.length ≤ 60) (p3 : ∀ p ∈ pl,p.1.length ≤ 300) (k4 : ks.length ≤ 40) (k3 : ∀ k ∈ ks,k.length ≤ 300) :
  Q6 P UQ [t.v,v,ov] w fun r w' => ∃ t2 v2 l2,r = .tuple #[t2.v,v2] ∧ Ct w' t2 l2 ∧ Ps w' v2 l2 ∧ Pr l2 ∧ l2.length ≤ 160 ∧ Ext No w w':=by
 obtain ⟨pv,dv,rfl,hp,hd⟩:=ho.val
 refine Q8t ?_
 refine Qz fun ob w1 hob hblk hz he1 => ?_
 have hO : QZ w1 ob [.bool ap,pv,dv] Xd:=hblk
 refine hO.ld (v:=.bool ap) rfl ?_
 cases ap with
 | true =>
   refine Qr rfl ?_
   refine hO.ld (v:=pv) rfl ?_
   refine (BB (hp.Q4 he1) (by omega) (fun p h => by have:=p3 p h; omega)).mono ?_
   rintro vl w2 ⟨hso,he2⟩
   have hps:=hso.ps he2 (.inr rfl)
   have Nf : Pr (Kj pl):=Pr.sort (by omega) fun p h => by have:=p3 p h; omega
   have h6:=Yd pl
   refine (Bc hps Nf ((hw.Q4 he1).Q4 he2) (ow:=2) (by omega)).mono ?_
   rintro r w3 ⟨t2,rfl,Qbr,-,-,-,QE⟩
   exact ⟨t2,vl,Kj pl,rfl,Qbr,hps.Q4 QE,Nf,by omega,(he1.Q0 he2).Q0 QE⟩
 | false =>
   refine Qp rfl ?_
   refine hO.ld (v:=pv) rfl ?_
   refine hp.len ?_
   refine JN (fun n vs w' => ∃ (i : Nat) (x : Value) (t' : T) (vl : Value) (l' : Kv),vs = [.int .i64 i,x,t'.v,vl] ∧ n = pl.length - i ∧ i ≤ pl.length ∧ Ct w' t' l' ∧ Ps w' vl l' ∧ Pr l' ∧ l'.length ≤ l.length + i ∧ t'.OwQ (fun o => o < 100 + i) ∧ Ext No w1 w') pl.length
    ⟨0,_,t,v,l,rfl,rfl,by omega,hct.Q4 he1,hv.Q4 he1,hpr,by omega,how.q.mono fun o h => by omega,Ext.refl _ _⟩ ?_
   rintro n vs g w2 ⟨i,x,t',vl,l',rfl,rfl,hi,QAi,hvl,Qj9,hl',hown,JX⟩
   have he2:=he1.Q0 JX
   unfold M3
   refine ZF (fun hlt => ?_) fun hge => ?_
   · have hil : i < pl.length:=by omega
     have hpk:=p3 _ (List.getElem_mem hil)
     refine (hp.Q4 he2).rd i rfl hil fun kv Wq => ?_
     refine Qz fun b w3 hb hbl hz3 QE => ?_
     refine JW hbl (by kernel_rfl) (by simp) ?_ fun w4 hb4 Ro Zl => ?_
     · intro u hu
       simp only [List.mem_cons,List.mem_nil_iff,or_false] at hu
       rcases hu with rfl | rfl
       · exact Wq.R9
       · rfl
     have hb4 : QZ w4 b [kv,u64 pl[i].2] Qx:=by simpa using hb4
     have U9 : Ext No w2 w4:=QE.Z0 Zl (by omega)
     have Qq9:=QAi.Q4 U9
     have hw4:=(hw.Q4 he2).Q4 U9
     refine hb4.ld (o:=0) (v:=kv) rfl ?_
     refine hb4.ld (o:=1) (v:=u64 pl[i].2) rfl ?_
     refine xi (r:=(i : Int)) (G5 (by omega)) ?_
     refine xi (r:=((100 + i : Nat) : Int)) (by rw [G5 (by omega)]; omega) ?_
     have hq : t'.OwQ (· ≠ 100 + i):=hown.mono fun o h => by omega
     refine (QBK (o:=100 + i) (mt:=none) (n:=0) Qq9.tree hq.free.sep Qq9.can.fine Qq9.QR hw4.Ra (by omega) ((hp.Q4 he2).get hil) (Wq.Q4 U9) (by omega)).mono ?_
     rintro _ w5 ⟨t5,n5,rfl,hP,-⟩
     have ZR : Ext No w4 w5:=hP.res.ext.mono fun b _ hb => by rcases hb with hb | hb; cases hb; exact (hq.free.foot b hb).elim
     have hb5:=hb4.ext ZR fun h => h
     have WX:=U9.Q0 ZR
     refine hb5.ld (o:=0) (v:=kv) rfl ?_
     refine hb5.ld (o:=1) (v:=u64 pl[i].2) rfl ?_
     refine (QnV (hvl.Q4 WX) (Wq.Q4 WX) ((hp.Q4 he2).get hil) Qj9.many Qj9.keys (by omega)).mono ?_
     rintro vl6 w6 ⟨Qzm,Ke⟩
     rw [← Qj2 _ Qj9.rises] at Qzm
     refine xi (r:=((i + 1 : Nat) : Int)) (by rw [QQ (by omega)]; omega) ?_
     have hil6:=Sg l' pl[i].1 pl[i].2
     refine JP (pl.length - (i + 1)) (by omega) ⟨i + 1,_,t5,vl6,_,rfl,rfl,by omega,(Qq9.put Qj9.rises hP).Q4 Ke,Qzm,Qj9.ins (by omega) (by omega),by omega,hP.own _ (by omega) (hown.mono fun o h => by omega),(JX.Q0 WX).Q0 Ke⟩
   · refine (hO.ext JX fun h => h).ld (v:=dv) rfl ?_
     refine hd.len ?_
     refine JN (fun n vs w' => ∃ (i : Nat) (x y : Value) (t' : T) (vl : Value) (l' : Kv),vs = [.int .i64 i,x,y,t'.v,vl] ∧ n = ks.length - i ∧ i ≤ ks.length ∧ Ct w' t' l' ∧ Ps w' vl l' ∧ Pr l' ∧ l'.length ≤ 160 ∧ t'.OwQ (fun o => o < 1000 + i) ∧ Ext No w w') ks.length
      ⟨0,_,_,t',vl,l',rfl,rfl,by omega,QAi,hvl,Qj9,by omega,hown.mono fun o h => by omega,he2⟩ ?_
     rintro n vs g w3 ⟨i,x,y,t3,vl3,l3,rfl,rfl,hi3,Qje,QyV,QmB,hl3,hown3,QE⟩
     unfold M4
     refine ZF (fun hlt => ?_) fun hge => ?_
     · have hil : i < ks.length:=by omega
       have hpk:=k3 _ (List.getElem_mem hil)
       refine (hd.Q4 QE).rd i rfl hil fun kv Wq => ?_
       refine xi (r:=(i : Int)) (G5 (by omega)) ?_
       refine xi (r:=((1000 + i : Nat) : Int)) (by rw [G5 (by omega)]; omega) ?_
       have hw3:=hw.Q4 QE
       have hq : t3.OwQ (· ≠ 1000 + i):=hown3.mono fun o h => by omega
       refine (QBP (o:=1000 + i) (mt:=none) (n:=0) Qje.tree hq.free.sep Qje.can.fine Qje.QR (Qje.long QmB) hw3.Ra (by omega) Wq (by omega)).mono ?_
       rintro _ w4 ⟨t4,n4,rfl,hD,-,-,-⟩
       have Zl : Ext No w3 w4:=hD.res.ext.mono fun b _ hb => by rcases hb with hb | hb; cases hb; exact (hq.free.foot b hb).elim
       refine (QnU (QyV.Q4 Zl) (Wq.Q4 Zl) QmB.many QmB.keys).mono ?_
       rintro _ w5 ⟨out,rfl,Q2t,ZR⟩
       refine xi (r:=((i + 1 : Nat) : Int)) (by rw [QQ (by omega)]; omega) ?_
       have hdl:=OZ ks[i] l3
       refine JP (ks.length - (i + 1)) (by omega) ⟨i + 1,_,_,t4,out,_,rfl,rfl,by omega,(Qje.del hD).Q4 ZR,Q2t.ps ZR (.inr rfl),QmB.drop _,by omega,hD.own _ (by omega) (hown3.mono fun o h => by omega),(QE.Q0 Zl).Q0 ZR⟩
     · exact ⟨t3,vl3,l3,rfl,Qje,QyV,QmB,hl3,QE⟩
end
end EA
end Go.Proofs.YtbnhggfiembejaaGreatDoor
