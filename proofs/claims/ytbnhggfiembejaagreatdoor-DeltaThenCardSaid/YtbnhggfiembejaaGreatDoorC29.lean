import Derived.Test.YtbnhggfiembejaaGreatDoorBase
import Derived.Test.YtbnhggfiembejaaGreatDoorSAlaw29
import Derived.Test.YtbnhggfiembejaaGreatDoorG1
import Derived.Test.YtbnhggfiembejaaGreatDoorDlt
import Derived.Test.YtbnhggfiembejaaGreatDoorOpen
section
namespace Go.Proofs.YtbnhggfiembejaaGreatDoor
open Go Go.RowKit X
set_option linter.unusedSimpArgs false
set_option linter.unusedVariables false
set_option linter.unusedSectionVars false
namespace Qbs
variable [Floor]
section
variable {w : World} {v : Value} {l : Kv}
theorem Q7W (h : Ps w v l) {m : Nat} (hmm : m ≤ 100000) : Q6 P QhA [v,.int .i64 m] w fun r w' => ∃ b,r = .bool b ∧ Ext No w w' ∧ (b = false → l.length ≤ m ∧ ∀ p ∈ l,p.1.length ≤ 300):=by
 refine QES ?_
 refine h.len ?_
 refine ZF (fun hm => ⟨true,rfl,Ext.refl _ _,fun h => by cases h⟩) fun hm => ?_
 refine h.len ?_
 refine JN (fun n vs w' => ∃ (i : Nat) (x : Value),vs = [.int .i64 i,x] ∧ n = l.length - i ∧ i ≤ l.length ∧ (∀ p ∈ l.take i,p.1.length ≤ 300) ∧ Ext No w w') l.length ⟨0,_,rfl,rfl,by omega,by simp,Ext.refl _ _⟩ ?_
 rintro n vs g w1 ⟨i,x,rfl,rfl,hi,hall,he⟩
 refine ZF (fun hlt => ?_) fun hge => ?_
 · have hil : i < l.length:=by omega
   refine (h.Q4 he).rd i rfl hil fun kv Wq => ?_
   refine Qz fun b w2 hb hblk hz he2 => ?_
   refine JW hblk (by kernel_rfl) (by simp) ?_ fun w3 hb3 hz3 QE => ?_
   · intro u hu
     simp only [List.mem_cons,List.mem_nil_iff,or_false] at hu
     rcases hu with rfl | rfl
     · exact Wq.R9
     · rfl
   · have Sk : QZ w3 b [kv,u64 l[i].2] Qx:=by simpa using hb3
     have JD : Ext No w1 w3:=he2.Z0 QE (by omega)
     refine Sk.ld (o:=0) (v:=kv) rfl ?_
     refine (Wq.Q4 JD).len ?_
     refine ZF (fun hk => ⟨true,rfl,he.Q0 JD,fun h => by cases h⟩) fun hk => ?_
     refine xi (r:=((i + 1 : Nat) : Int)) (by rw [QQ (by omega)]; omega) ?_
     refine JP (l.length - (i + 1)) (by omega) ⟨i + 1,_,rfl,rfl,by omega,fun p hp => ?_,he.Q0 JD⟩
     rw [← List.take_append_getElem hil] at hp
     rcases List.mem_append.1 hp with e | e
     · exact hall p e
     · rw [List.mem_singleton.1 e]; omega
 · have : i = l.length:=by omega
   subst this
   rw [List.take_length] at hall
   exact ⟨false,rfl,he,fun _ => ⟨by omega,hall⟩⟩
theorem Bc (h : Ps w v l) (hp : Pr l) (hw : Lw w) {ow : Nat} (ho : ow ≠ 0) : Q6 P Q9a [v,.int .u64 ow] w fun r w' => ∃ t,r = t.v ∧ Ct w' t l ∧ t.Sep ow ∧ t.Q1g ow ∧ (∀ b,t.All b → w.heap.size ≤ b) ∧ Ext No w w':=by
 have QmP:=hp.many
 refine QEk ?_
 refine h.len ?_
 refine JN (fun n vs w' => ∃ (i : Nat) (out : Value),vs = [.int .i64 i,out] ∧ n = l.length - i ∧ i ≤ l.length ∧ SO w w' Zk out (l.take i) ∧ Ext No w w') l.length ⟨0,_,rfl,rfl,by omega,SO.nil _ _ _,Ext.refl _ _⟩ ?_
 rintro n vs g w1 ⟨i,out,rfl,rfl,hi,hso,he⟩
 refine ZF (fun hlt => ?_) fun hge => ?_
 · have hil : i < l.length:=by omega
   refine h.rd0 he i rfl hil fun kv Wq => ?_
   refine Qz fun b w2 hb hblk hz he2 => ?_
   refine JW hblk (by kernel_rfl) (by simp) ?_ fun w3 hb3 hz3 QE => ?_
   · intro u hu
     simp only [List.mem_cons,List.mem_nil_iff,or_false] at hu
     rcases hu with rfl | rfl
     · exact Wq.R9
     · rfl
   · have Sk : QZ w3 b [kv,u64 l[i].2] Qx:=by simpa using hb3
     have JD : Ext No w1 w3:=he2.Z0 QE (by omega)
     refine Sk.JH rfl ?_
     show Qs w3 [kv,u64 l[i].2] Zk _
     refine Qz fun a w4 ha hbl Ro Zl => ?_
     have hsl : Sl w4 (tyQ Zk) (.slice (some ⟨a,0,none⟩) 1 1) 2 1 [kv,u64 l[i].2]:=hbl.sln rfl
     refine SO.app (m:=[l[i]]) QnC (hso.Q4 (JD.Q0 Zl)) ((he.Q0 JD).Q0 Zl) hsl (PC.Q24 Wq (h.get hil)) (by simp; omega) fun out' w5 Q2t ZR _ _ => ?_
     refine xi (r:=((i + 1 : Nat) : Int)) (by rw [QQ (by omega)]; omega) ?_
     refine JP (l.length - (i + 1)) (by omega) ⟨i + 1,_,rfl,rfl,by omega,?_,ZR⟩
     rw [← List.take_append_getElem hil]
     exact Q2t
 · have : i = l.length:=by omega
   subst this
   rw [List.take_length] at hso
   have hw1:=hw.Q4 he
   have hb : Q6 P Bj [.pointer none,.int .u64 ow,out] w1 fun r w' => ∃ t,r = .tuple #[t.v,.int .i64 0] ∧ AJ w1 w' ow .nil t none (0 + t.er.size) ∧ Can t.er (look l) ∧ t.ZJ ∧ t.Q1g ow:=by
    have hps:=hso.ps he (.inl rfl)
    refine Q0S ?_
    refine (Qi0 hps (by omega)).mono ?_
    rintro r w2 ⟨⟨b,rfl,hb⟩,he2⟩
    have hck : checkN l b = 0:=by
     unfold checkN
     rw [if_pos hp.keys,hb.2 hp.rises]; rfl
    rw [hck]
    refine Qp rfl ?_
    have hm2 : Mt w2 none 0:=(hw1.Q4 he2).Ra
    refine (Go.Proofs.YtbnhggfiembejaaGreatDoor.Bc l.length (p:=[]) (Nat.le_refl _) (by omega) (hps.Q4 he2) hp.rises hp.keys (fun x _ => List.nil_prefix) (by simp) hm2 ho).mono ?_
    rintro r w3 ⟨t,rfl,hR,XE,Q7y,hown⟩
    refine ⟨t,rfl,⟨hR.tree,(he2.mono fun _ _ h => h.elim).trans hR.ext fun b hb h => h,hR.cnt,fun b hb => ?_,fun b hb => ?_,hR.sep⟩,XE,Q7y,hown⟩
    · have:=he2.size
      exact (hR.all b hb).imp id fun h => by omega
    · have:=he2.size
      exact (hR.foot b hb).imp id fun h => by omega
   refine hb.mono ?_
   rintro r w2 ⟨t,rfl,hR,XE,Q7y,hown⟩
   have hz:=he.size
   refine ⟨t,rfl,⟨hR.tree,XE,Q7y⟩,hR.sep,hown,fun b hb => by have:=hR.new hb; omega,?_⟩
   exact he.trans hR.YL fun b _ hb => by cases hb
theorem Sy {t : T} (hw : Lw w) (ht : Ct w t l) (hv : Ps w v l) (hp : Pr l) : Q6 P Q9s [t.v,v] w fun r w' => r = .bool true ∧ Ext No w w':=by
 have QmP:=hp.many
 refine QFl ?_
 refine (Xt hw.tab ht.tree ht.QR (ht.tree.Vw ht.can hp.rises hp.many)).mono ?_
 rintro r w1 ⟨rfl,he1⟩
 refine (Qea (by omega) (hv.Q4 he1) hp.rises hp.keys).mono ?_
 rintro r w2 ⟨e,cs,rfl,hrc,XE,he2⟩
 have heq:=XE.uniq ht.can
 refine (Qe9 e hrc XE.fine (by
  have h1:=E.Q1o hrc.within (XE.size hp.rises)
  omega)).mono ?_
 rintro r w3 ⟨rfl,QE⟩
 refine Q6I ?_
 rw [heq,decide_eq_true rfl]
 exact ⟨rfl,(he1.Q0 he2).Q0 QE⟩
end
end Qbs
end Go.Proofs.YtbnhggfiembejaaGreatDoor
end
section
namespace Go.Proofs.YtbnhggfiembejaaGreatDoor
open Go Go.RowKit X
set_option linter.unusedSimpArgs false
set_option linter.unusedVariables false
set_option linter.unusedSectionVars false
namespace Qbs
variable [Floor]
structure Ot (w : World) (v : Value) (ap : Bool) (pl : Kv) (ks : List Key) : Prop where
 val : ∃ pv dv,v = .agg #[.bool ap,pv,dv] ∧ Ps w pv pl ∧ Bss w dv ks
section
variable {w w' : World} {v ov : Value} {l pl : Kv} {ks : List Key} {ap : Bool}
theorem Ot.Q4 (h : Ot w ov ap pl ks) (e : Ext No w w') : Ot w' ov ap pl ks:=by
 obtain ⟨pv,dv,h1,h2,h3⟩:=h.val
 exact ⟨pv,dv,h1,h2.Q4 e,h3.Q4 e⟩
structure Small (l pl : Kv) (ks : List Key) : Prop where
 l1 : l.length ≤ 100
 l3 : ∀ p ∈ l,p.1.length ≤ 300
 p6 : pl.length ≤ 60
 p3 : ∀ p ∈ pl,p.1.length ≤ 300
 k4 : ks.length ≤ 40
 k3 : ∀ k ∈ ks,k.length ≤ 300
theorem QbN (h : Ps w v l) (ho : Ot w ov ap pl ks) : Q6 P QdE [v,ov] w fun r w' => ∃ b,r = .bool b ∧ Ext No w w' ∧ (b = false → Small l pl ks):=by
 obtain ⟨pv,dv,rfl,hp,hd⟩:=ho.val
 refine QDU ?_
 refine Qz fun ob w1 hob hblk hz he1 => ?_
 have hO : QZ w1 ob [.bool ap,pv,dv] Q6y:=hblk
 refine xj (fun vs w' => ∃ b,vs = [.bool b] ∧ Ext No w1 w' ∧ (b = false → l.length ≤ 100 ∧ (∀ p ∈ l,p.1.length ≤ 300) ∧ pl.length ≤ 60 ∧ (∀ p ∈ pl,p.1.length ≤ 300) ∧ ks.length ≤ 40)) ?_ ?_
 · refine (Q7W (m:=100) (h.Q4 he1) (by omega)).mono ?_
   rintro r w2 ⟨b,rfl,he2,hb⟩
   cases b with
   | true => exact Qr rfl ⟨true,rfl,he2,fun h => by cases h⟩
   | false =>
     refine Qp rfl ?_
     refine (hO.ext he2 fun h => h).ld (v:=pv) rfl ?_
     refine (Q7W (m:=60) (hp.Q4 (he1.Q0 he2)) (by omega)).mono ?_
     rintro r w3 ⟨b,rfl,QE,hb3⟩
     cases b with
     | true => exact Qr rfl ⟨true,rfl,he2.Q0 QE,fun h => by cases h⟩
     | false =>
       refine Qp rfl ?_
       refine (hO.ext (he2.Q0 QE) fun h => h).ld (v:=dv) rfl ?_
       refine hd.len ?_
       refine ⟨_,rfl,he2.Q0 QE,fun h => ⟨(hb rfl).1,(hb rfl).2,(hb3 rfl).1,(hb3 rfl).2,?_⟩⟩
       have:=of_decide_eq_false h
       omega
 rintro vs g w2 ⟨b,rfl,he2,hb⟩
 cases b with
 | true => exact Qr rfl ⟨true,rfl,he1.Q0 he2,fun h => by cases h⟩
 | false =>
   refine Qp rfl ?_
   obtain ⟨b1,b2,b3,b4,b5⟩:=hb rfl
   have hE2:=he1.Q0 he2
   refine (hO.ext he2 fun h => h).ld (v:=dv) rfl ?_
   refine hd.len ?_
   refine JN (fun n vs w' => ∃ (i : Nat) (x : Value),vs = [.int .i64 i,x,.bool false] ∧ n = ks.length - i ∧ i ≤ ks.length ∧ (∀ k ∈ ks.take i,k.length ≤ 300) ∧ Ext No w w') ks.length ⟨0,_,rfl,rfl,by omega,by simp,hE2⟩ ?_
   rintro n vs g w3 ⟨i,x,rfl,rfl,hi,hall,QE⟩
   unfold Qqb
   refine ZF (fun hlt => ?_) fun hge => ?_
   · have hil : i < ks.length:=by omega
     refine (hd.Q4 QE).rd i rfl hil fun kv Wq => ?_
     refine Wq.len ?_
     refine ZF (fun hk => ⟨true,rfl,QE,fun h => by cases h⟩) fun hk => ?_
     refine xi (r:=((i + 1 : Nat) : Int)) (by rw [QQ (by omega)]; omega) ?_
     refine JP (ks.length - (i + 1)) (by omega) ⟨i + 1,_,rfl,rfl,by omega,fun p hp => ?_,QE⟩
     rw [← List.take_append_getElem hil] at hp
     rcases List.mem_append.1 hp with e | e
     · exact hall p e
     · rw [List.mem_singleton.1 e]; omega
   · have : i = ks.length:=by omega
     subst this
     rw [List.take_length] at hall
     exact ⟨false,rfl,QE,fun _ => ⟨b1,b2,b3,b4,b5,hall⟩⟩
theorem Q7V {t : T} {own : Nat} (hw : Lw w) (hct : Ct w t l) (hv : Ps w v l) (hpr : Pr l) (hll : l.length ≤ 200) (how : t.OwQ (fun o => o ≤ 2 ∨ 1000 ≤ o ∧ o < own)) (hown : 1000 ≤ own ∧ own ≤ 10000) (ho : Ot w ov ap pl ks) (p6 : pl.length ≤ 60) (p3 : ∀ p ∈ pl,p.1.length ≤ 300) (k4 : ks.length ≤ 40) (k3 : ∀ k ∈ ks,k.length ≤ 300) :
  Q6 P Qbt [t.v,v,ov,.int .u64 own] w fun r w' => ∃ t2 v2 l2,r = .tuple #[t2.v,v2] ∧ Ct w' t2 l2 ∧ Ps w' v2 l2 ∧ Pr l2 ∧ l2.length ≤ l.length + 60 ∧ t2.OwQ (fun o => o ≤ 2 ∨ 1000 ≤ o ∧ o < own + 1000) ∧ Ext No w w':=by
 obtain ⟨pv,dv,rfl,hp,hd⟩:=ho.val
 refine QDK ?_
 refine Qz fun ob w1 hob hblk hz he1 => ?_
 have hO : QZ w1 ob [.bool ap,pv,dv] Q6y:=hblk
 refine hO.ld (v:=.bool ap) rfl ?_
 cases ap with
 | true =>
   refine Qr rfl ?_
   refine hO.ld (v:=pv) rfl ?_
   refine (BB (hp.Q4 he1) (by omega) (fun p h => by have:=p3 p h; omega)).mono ?_
   rintro vl w2 ⟨hso,he2⟩
   have hps:=hso.ps he2 (.inr rfl)
   have Nf : Pr (Kj pl):=Pr.sort (by omega) fun p h => by have:=p3 p h; omega
   have h6:=Yd pl
   refine (Bc hps Nf ((hw.Q4 he1).Q4 he2) (ow:=2) (by omega)).mono ?_
   rintro r w3 ⟨t2,rfl,Qbr,-,QGp,-,QE⟩
   exact ⟨t2,vl,Kj pl,rfl,Qbr,hps.Q4 QE,Nf,by omega,QGp.q.mono fun o h => by omega,(he1.Q0 he2).Q0 QE⟩
 | false =>
   refine Qp rfl ?_
   refine hO.ld (v:=pv) rfl ?_
   refine hp.len ?_
   refine JN (fun n vs w' => ∃ (i : Nat) (x : Value) (t' : T) (vl : Value) (l' : Kv),vs = [.int .i64 i,x,t'.v,vl] ∧ n = pl.length - i ∧ i ≤ pl.length ∧ Ct w' t' l' ∧ Ps w' vl l' ∧ Pr l' ∧ l'.length ≤ l.length + i ∧ t'.OwQ (fun o => o ≤ 2 ∨ 1000 ≤ o ∧ o < own + i) ∧ Ext No w1 w') pl.length
    ⟨0,_,t,v,l,rfl,rfl,by omega,hct.Q4 he1,hv.Q4 he1,hpr,by omega,how.mono fun o h => by omega,Ext.refl _ _⟩ ?_
   rintro n vs g w2 ⟨i,x,t',vl,l',rfl,rfl,hi,QAi,hvl,Qj9,hl',QGo,JX⟩
   have he2:=he1.Q0 JX
   unfold Qne
   refine ZF (fun hlt => ?_) fun hge => ?_
   · have hil : i < pl.length:=by omega
     have hpk:=p3 _ (List.getElem_mem hil)
     refine (hp.Q4 he2).rd i rfl hil fun kv Wq => ?_
     refine Qz fun b w3 hb hbl hz3 QE => ?_
     refine JW hbl (by kernel_rfl) (by simp) ?_ fun w4 hb4 Ro Zl => ?_
     · intro u hu
       simp only [List.mem_cons,List.mem_nil_iff,or_false] at hu
       rcases hu with rfl | rfl
       · exact Wq.R9
       · rfl
     have hb4 : QZ w4 b [kv,u64 pl[i].2] Qx:=by simpa using hb4
     have U9 : Ext No w2 w4:=QE.Z0 Zl (by omega)
     have Qq9:=QAi.Q4 U9
     have hw4:=(hw.Q4 he2).Q4 U9
     refine hb4.ld (o:=0) (v:=kv) rfl ?_
     refine hb4.ld (o:=1) (v:=u64 pl[i].2) rfl ?_
     refine xi (r:=(i : Int)) (G5 (by omega)) ?_
     refine xi (r:=((own + i : Nat) : Int)) (by rw [G5 (by omega)]; omega) ?_
     have hq : t'.OwQ (· ≠ own + i):=QGo.mono fun o h => by omega
     refine (QBK (o:=own + i) (mt:=none) (n:=0) Qq9.tree hq.free.sep Qq9.can.fine Qq9.QR hw4.Ra (by omega) ((hp.Q4 he2).get hil) (Wq.Q4 U9) (by omega)).mono ?_
     rintro _ w5 ⟨t5,n5,rfl,hP,-⟩
     have ZR : Ext No w4 w5:=hP.res.ext.mono fun b _ hb => by rcases hb with hb | hb; cases hb; exact (hq.free.foot b hb).elim
     have hb5:=hb4.ext ZR fun h => h
     have WX:=U9.Q0 ZR
     refine hb5.ld (o:=0) (v:=kv) rfl ?_
     refine hb5.ld (o:=1) (v:=u64 pl[i].2) rfl ?_
     refine (QnV (hvl.Q4 WX) (Wq.Q4 WX) ((hp.Q4 he2).get hil) Qj9.many Qj9.keys (by omega)).mono ?_
     rintro vl6 w6 ⟨Qzm,Ke⟩
     rw [← Qj2 _ Qj9.rises] at Qzm
     refine xi (r:=((i + 1 : Nat) : Int)) (by rw [QQ (by omega)]; omega) ?_
     have hil6:=Sg l' pl[i].1 pl[i].2
     refine JP (pl.length - (i + 1)) (by omega) ⟨i + 1,_,t5,vl6,_,rfl,rfl,by omega,(Qq9.put Qj9.rises hP).Q4 Ke,Qzm,Qj9.ins (by omega) (by omega),by omega,hP.own _ (by omega) (QGo.mono fun o h => by omega),(JX.Q0 WX).Q0 Ke⟩
   · refine (hO.ext JX fun h => h).ld (v:=dv) rfl ?_
     refine hd.len ?_
     refine JN (fun n vs w' => ∃ (i : Nat) (x y : Value) (t' : T) (vl : Value) (l' : Kv),vs = [.int .i64 i,x,y,t'.v,vl] ∧ n = ks.length - i ∧ i ≤ ks.length ∧ Ct w' t' l' ∧ Ps w' vl l' ∧ Pr l' ∧ l'.length ≤ l.length + 60 ∧ t'.OwQ (fun o => o ≤ 2 ∨ 1000 ≤ o ∧ o < own + 100 + i) ∧ Ext No w w') ks.length
      ⟨0,_,_,t',vl,l',rfl,rfl,by omega,QAi,hvl,Qj9,by omega,QGo.mono fun o h => by omega,he2⟩ ?_
     rintro n vs g w3 ⟨i,x,y,t3,vl3,l3,rfl,rfl,hi3,Qje,QyV,QmB,hl3,hown3,QE⟩
     unfold Qnh
     refine ZF (fun hlt => ?_) fun hge => ?_
     · have hil : i < ks.length:=by omega
       have hpk:=k3 _ (List.getElem_mem hil)
       refine (hd.Q4 QE).rd i rfl hil fun kv Wq => ?_
       refine xi (r:=(i : Int)) (G5 (by omega)) ?_
       refine xi (r:=((own + i : Nat) : Int)) (by rw [G5 (by omega)]; omega) ?_
       refine xi (r:=((own + 100 + i : Nat) : Int)) (by rw [G5 (by omega)]; omega) ?_
       have hw3:=hw.Q4 QE
       have hq : t3.OwQ (· ≠ own + 100 + i):=hown3.mono fun o h => by omega
       refine (QBP (o:=own + 100 + i) (mt:=none) (n:=0) Qje.tree hq.free.sep Qje.can.fine Qje.QR (Qje.long QmB) hw3.Ra (by omega) Wq (by omega)).mono ?_
       rintro _ w4 ⟨t4,n4,rfl,hD,-,-,-⟩
       have Zl : Ext No w3 w4:=hD.res.ext.mono fun b _ hb => by rcases hb with hb | hb; cases hb; exact (hq.free.foot b hb).elim
       refine (QnU (QyV.Q4 Zl) (Wq.Q4 Zl) QmB.many QmB.keys).mono ?_
       rintro _ w5 ⟨out,rfl,Q2t,ZR⟩
       refine xi (r:=((i + 1 : Nat) : Int)) (by rw [QQ (by omega)]; omega) ?_
       have hdl:=OZ ks[i] l3
       refine JP (ks.length - (i + 1)) (by omega) ⟨i + 1,_,_,t4,out,_,rfl,rfl,by omega,(Qje.del hD).Q4 ZR,Q2t.ps ZR (.inr rfl),QmB.drop _,by omega,hD.own _ (by omega) (hown3.mono fun o h => by omega),(QE.Q0 Zl).Q0 ZR⟩
     · exact ⟨t3,vl3,l3,rfl,Qje,QyV,QmB,hl3,hown3.mono fun o h => by omega,QE⟩
end
end Qbs
end Go.Proofs.YtbnhggfiembejaaGreatDoor
end
section
namespace Go.Proofs.YtbnhggfiembejaaGreatDoor
open Go Go.RowKit X
set_option linter.unusedSimpArgs false
set_option linter.unusedVariables false
set_option linter.unusedSectionVars false
namespace Qbs
variable [Floor]
section
variable {w : World} {v kv ov : Value} {l m : List Chg} {a b pl : Kv} {ks : List Key} {ap : Bool}
theorem Qfa (h : Cs w v l) (hll : l.length ≤ 100000) (hfl : Floor.n ≤ w.heap.size) : Q6 P Q4Z [v] w fun r w' => CO w' w.heap.size Q3 r l ∧ Ext No w w':=by
 refine QDn ?_
 refine h.len ?_
 refine JN (fun n vs w' => ∃ (i : Nat) (o : Value),vs = [.int .i64 i,o] ∧ n = l.length - i ∧ i ≤ l.length ∧ CO w' w.heap.size Q3 o (l.take i) ∧ Ext No w w') l.length ⟨0,_,rfl,rfl,by omega,CO.nil _ _ _,Ext.refl _ _⟩ ?_
 rintro n vs g w1 ⟨i,o,rfl,rfl,hi,ho,he⟩
 unfold Qkf
 refine ZF (fun hlt => ?_) fun hge => ?_
 · have hil : i < l.length:=by omega
   refine (h.Q4 he).var i rfl hil (by kernel_rfl) fun bb w2 kv2 hb he2 hb2 Qpj => ?_
   have hE:=he.Q0 he2
   refine hb.JH rfl ?_
   refine CO.snoc (w0:=w) (c:=l[i]) Qkd (by decide) hfl (ho.Q4 he2) hE (Nat.le_refl _) hE.size (Qpj.Q4 he2) (h.ok _ (List.getElem_mem hil)) (by rw [List.length_take]; omega) fun v' w7 h7 Yy _ => ?_
   refine xi (r:=((i + 1 : Nat) : Int)) (by rw [QQ (by omega)]; omega) ?_
   exact JP (l.length - (i + 1)) (by omega) ⟨i + 1,_,rfl,rfl,by omega,by rw [← List.take_append_getElem hil]; exact h7,Yy⟩
 · rw [List.take_of_length_le (by omega)] at ho
   exact ⟨ho,he⟩
theorem QDc (h : Cs w v l) (hll : l.length ≤ 100000) (hfl : Floor.n ≤ w.heap.size) : Q6 P Q9b [v] w fun r w' => Cs w' r l ∧ Ext No w w':=by
 refine QEm ?_
 refine h.len ?_
 refine JN (fun n vs w' => ∃ (i : Nat) (o : Value),vs = [.int .i64 i,o] ∧ n = l.length - i ∧ i ≤ l.length ∧ CO w' w.heap.size KU o (l.take i) ∧ Ext No w w') l.length ⟨0,_,rfl,rfl,by omega,CO.nil _ _ _,Ext.refl _ _⟩ ?_
 rintro n vs g w1 ⟨i,o,rfl,rfl,hi,ho,he⟩
 unfold Quc
 refine ZF (fun hlt => ?_) fun hge => ?_
 · have hil : i < l.length:=by omega
   refine (h.Q4 he).var i rfl hil (by kernel_rfl) fun bb w2 kv2 hb he2 hb2 Qpj => ?_
   have hE:=he.Q0 he2
   refine hb.JH rfl ?_
   refine CO.snoc (w0:=w) (c:=l[i]) QEd (by decide) hfl (ho.Q4 he2) hE (Nat.le_refl _) hE.size (Qpj.Q4 he2) (h.ok _ (List.getElem_mem hil)) (by rw [List.length_take]; omega) fun v' w7 h7 Yy _ => ?_
   refine xi (r:=((i + 1 : Nat) : Int)) (by rw [QQ (by omega)]; omega) ?_
   exact JP (l.length - (i + 1)) (by omega) ⟨i + 1,_,rfl,rfl,by omega,by rw [← List.take_append_getElem hil]; exact h7,Yy⟩
 · rw [List.take_of_length_le (by omega)] at ho
   exact ⟨ho.cs (.inr rfl),he⟩
theorem QFh (h : Cs w v l) : Q6 P Qfb [v] w fun r w' => ∃ b,r = .bool b ∧ Ext No w w' ∧ (b = false → l.length ≤ 60 ∧ ∀ c ∈ l,c.key.length ≤ 300):=by
 refine QEl ?_
 refine h.len ?_
 have hmin : (if ((l.length : Nat) : Int) ≤ 60 then ((l.length : Nat) : Int) else 60) = ((min l.length 60 : Nat) : Int):=by split <;> omega
 have hml : min l.length 60 ≤ l.length:=by omega
 refine h.take (min l.length 60) (by split <;> omega) hml fun v' h' => ?_
 refine h'.len ?_
 have hl' : (l.take (min l.length 60)).length = min l.length 60:=by rw [List.length_take]; omega
 refine JN (fun n vs w' => ∃ (i : Nat) (x : Value),vs = [.int .i64 i,x] ∧ n = min l.length 60 - i ∧ i ≤ min l.length 60 ∧ (∀ c ∈ (l.take (min l.length 60)).take i,c.key.length ≤ 300) ∧ Ext No w w') (min l.length 60) ⟨0,_,rfl,rfl,by omega,by simp,Ext.refl _ _⟩ ?_
 rintro n vs g w1 ⟨i,x,rfl,rfl,hi,hall,he⟩
 unfold Qua
 refine ZF (fun hlt => ?_) fun hge => ?_
 · have hil : i < (l.take (min l.length 60)).length:=by omega
   refine (h'.Q4 he).var i rfl hil (by kernel_rfl) fun bb w2 kv2 hb he2 hb2 Qpj => ?_
   refine hb.ld (o:=0) (v:=kv2) rfl ?_
   refine (Qpj.Q4 he2).len ?_
   refine ZF (fun hk => ⟨true,rfl,he.Q0 he2,fun h => by cases h⟩) fun hk => ?_
   refine xi (r:=((i + 1 : Nat) : Int)) (by rw [QQ (by omega)]; omega) ?_
   exact JP (min l.length 60 - (i + 1)) (by omega) ⟨i + 1,_,rfl,rfl,by omega,fun c hc => by
    rcases Qcq hil hc with hc | rfl
    · exact hall c hc
    · omega,he.Q0 he2⟩
 · refine (h.Q4 he).len ?_
   refine ⟨_,rfl,he,fun hb => ?_⟩
   have hb:=of_decide_eq_false hb
   have h60 : l.length ≤ 60:=by omega
   refine ⟨h60,fun c hc => hall c ?_⟩
   rw [List.take_of_length_le (l:=l) (by omega),List.take_of_length_le (by omega)]
   exact hc
def la : Kv:=[([1],5)]
def lb : Kv:=[([1],6),([2],7)]
theorem H8 : Pr la:=⟨List.pairwise_singleton _ _,by intro p hp; simp [la] at hp; rw [hp]; simp,by simp [la]⟩
theorem Qph : Pr lb:=⟨by decide +kernel,by intro p hp; simp [lb] at hp; rcases hp with rfl | rfl <;> simp,by simp [lb]⟩
theorem dab : ofC la lb = [⟨[1],3,5,6⟩,⟨[2],1,0,7⟩]:=by decide +kernel
theorem Bs.new {w : World} {a : Nat} {k : Key} (h : QZ w a (k.map bv) Qm) : Bs w (.slice (some ⟨a,0,none⟩) k.length k.length) k:=Bs.of (h.sln (by simp))
theorem XL (hw : Lw w) : Q6 P TL [] w fun r w' => r = .bool true ∧ Ext No w w':=by
 refine QDV ?_
 show Qs w (([1] : Key).map bv) Qm _
 refine Qz fun a1 w1 ha1 hb1 hz1 he1 => ?_
 have k1 : Bs w1 (.slice (some ⟨a1,0,none⟩) 1 1) [1]:=Bs.new (k:=[1]) hb1
 show Qs w1 [.slice (some ⟨a1,0,none⟩) 1 1,u64 5] Qx _
 refine Qz fun a2 w2 ha2 hb2 hz2 he2 => ?_
 have pa : Ps w2 (.slice (some ⟨a2,0,none⟩) 1 1) la:=⟨Qx,_,.inr rfl,(hb2.sln rfl).weak fun _ _ h => .inl h,(PC.Q24 k1 (by omega)).Q4 he2⟩
 have hE2:=he1.Q0 he2
 refine (Bc pa H8 (hw.Q4 hE2) (ow:=1) (by omega)).mono ?_
 rintro r w3 ⟨ta,rfl,cta,-,ota,-,QE⟩
 have JD:=hE2.Q0 QE
 show Qs w3 (([1] : Key).map bv) Qm _
 refine Qz fun a4 w4 ha4 hb4 Ro Zl => ?_
 show Qs w4 (([2] : Key).map bv) Qm _
 refine Qz fun a5 w5 ha5 hb5 hz5 ZR => ?_
 have k4 : Bs w5 (.slice (some ⟨a4,0,none⟩) 1 1) [1]:=(Bs.new (k:=[1]) hb4).Q4 ZR
 have k5 : Bs w5 (.slice (some ⟨a5,0,none⟩) 1 1) [2]:=Bs.new (k:=[2]) hb5
 show Qs w5 ([.slice (some ⟨a4,0,none⟩) 1 1,u64 6] ++ [.slice (some ⟨a5,0,none⟩) 1 1,u64 7]) Qx _
 refine Qz fun a6 w6 ha6 hb6 hz6 Ke => ?_
 have pb : Ps w6 (.slice (some ⟨a6,0,none⟩) 2 2) lb:=⟨Qx,_,.inr rfl,(hb6.sln rfl).weak fun _ _ h => .inl h,((PC.Q24 k4 (by omega)).app (PC.Q24 k5 (by omega))).Q4 Ke⟩
 have h36:=(Zl.Q0 ZR).Q0 Ke
 have MC:=JD.Q0 h36
 refine (Bc pb Qph (hw.Q4 MC) (ow:=1) (by omega)).mono ?_
 rintro r w7 ⟨tb,rfl,ctb,-,otb,-,Yy⟩
 have h37:=h36.Q0 Yy
 have BA:=JD.Q0 h37
 have hw7:=hw.Q4 BA
 have ha7:=pa.v64
 have hb7:=pb.v64
 refine (Qpl (cta.Q4 h37) H8 ctb Qph (by decide) hw7.fl ha7 hb7).mono ?_
 rintro vd w8 ⟨hd,KJ⟩
 have hw8:=hw7.Q4 KJ
 have hapa : QsG la (ofC la lb) = lb:=QFr H8.rises Qph.rises
 have Qzd : D8 (ofC la lb) = 0:=Qg9 H8.rises H8.keys Qph.keys
 have happ : Qjx la (ofC la lb) = (0,lb):=by unfold Qjx; rw [if_pos Qzd,Qw8 fun c hc => QFq H8.rises hc,hapa]
 refine (QhK (o:=2) (cta.Q4 (h37.Q0 KJ)) H8 (ota.q.mono fun o h => by omega) hd (by rw [dab]; decide) (by omega) hw8).mono ?_
 rintro _ w9 ⟨t',e,rfl,hR⟩
 have he0 : e = 0:=by rw [hR.val,happ]; rfl
 subst he0
 have ct':=hR.good rfl
 rw [happ] at ct'
 have Ym:=hR.ext
 have hw9:=hw8.Q4 Ym
 have kd : ∀ c ∈ ofC la lb,c.key.length ≤ 1000000:=fun c hc => by have:=(Q5U.1 Qzd).1 c hc; omega
 refine (QDu (hd.Q4 Ym) (by rw [dab]; decide) kd hw9.fl).mono ?_
 rintro vb Dn ⟨hbk,J9⟩
 rw [QDB H8.rises Qph.rises] at hbk
 have Que:=hw9.Q4 J9
 refine (QDt (hd.Q4 (Ym.Q0 J9)) hbk (by decide +kernel) Que.fl).mono ?_
 rintro _ AL ⟨vo,e,L,rfl,hL,K9,heL⟩
 have hch2 : D8 (ofC lb la) = 0:=Qg9 Qph.rises Qph.keys H8.keys
 rw [if_pos Qzd,if_pos hch2] at heL
 have hth:=QEA (c:=la) H8.rises Qph.rises (QyO (Nat.le_refl _) (Q97 (b:=lb) H8.rises) (Q97 (b:=la) Qph.rises))
 rw [← heL] at hth
 obtain ⟨rfl,rfl⟩ : e = 0 ∧ L = ofC la la:=hth
 have hlaa : ofC la la = []:=by decide +kernel
 rw [hlaa] at hL
 have Q7D:=(Ym.Q0 J9).Q0 K9
 have QFU:=hd.Q4 Q7D
 have Q2s:=Que.Q4 K9
 rw [dab] at QFU
 refine xj (fun vs w' => vs = [.bool true] ∧ Ext No w w') ?_ ?_
 · refine QFU.len ?_
   refine Qr rfl ?_
   refine QFU.kind 0 rfl (by decide) (Qr rfl ?_)
   refine QFU.is 0 rfl (by decide) (Qr rfl ?_)
   refine QFU.kind 1 rfl (by decide) (Qr rfl ?_)
   have c1:=ct'.Q4 (J9.Q0 K9)
   have c2:=ctb.Q4 (KJ.Q0 Q7D)
   have hs : t'.er.shape = tb.er.shape:=by rw [c2.can.uniq c1.can]
   refine (Xt Q2s.tab c1.tree c1.QR (c1.tree.Vw c1.can Qph.rises Qph.many)).mono ?_
   rintro _ Rw ⟨rfl,JX⟩
   refine (Xt (Q2s.Q4 JX).tab (c2.Q4 JX).tree c2.QR (c2.tree.Vw c2.can Qph.rises Qph.many)).mono ?_
   rintro _ w13 ⟨rfl,XK⟩
   have QGB:=JX.Q0 XK
   refine Q6I ?_
   refine Qr (decide_eq_true hs) ?_
   refine Qr rfl ?_
   refine (hL.Q4 QGB).len ?_
   refine Qr rfl ?_
   refine Qr rfl ?_
   refine (Qke (QFU.Q4 QGB) (by decide)).mono ?_
   rintro _ w14 ⟨rfl,UZ⟩
   rw [dab] at Qzd
   rw [Qzd]
   exact ⟨rfl,(((BA.Q0 KJ).Q0 Q7D).Q0 QGB).Q0 UZ⟩
 rintro vs g Rw ⟨rfl,he⟩
 exact ⟨rfl,he⟩
end
end Qbs
end Go.Proofs.YtbnhggfiembejaaGreatDoor
end
section
namespace Go.Proofs.YtbnhggfiembejaaGreatDoor
open Go Go.RowKit X
set_option linter.unusedSimpArgs false
set_option linter.unusedVariables false
set_option linter.unusedSectionVars false
namespace Qbs
variable [Floor]
section
variable {w : World} {v va vb kv ov ov2 : Value} {l m : Kv} {da db : List Chg} {a b pl pl2 : Kv} {ks ks2 : List Key} {ap ap2 : Bool}
theorem Qhy {a b : Kv} (ha : Pr a) (hb : Pr b) : Qjx a (ofC a b) = (0,b):=by
 unfold Qjx
 rw [if_pos (Qg9 ha.rises ha.keys hb.keys),Qw8 fun c hc => QFq ha.rises hc,QFr ha.rises hb.rises]
theorem QvX {a b : Kv} (ha : Pr a) (hb : Pr b) : ∀ c ∈ ofC a b,c.key.length ≤ 1000000:=fun c hc => by
 have:=(Q5U.1 (Qg9 ha.rises ha.keys hb.keys)).1 c hc
 omega
theorem QFO (hw : Lw w) (hl : Ps w v l) (ho : Ot w ov ap pl ks) : Q6 P Q3O [v,ov] w fun r w' => r = .bool true ∧ Ext No w w':=by
 obtain ⟨pv,dv,rfl,hp,hd⟩:=id ho.val
 refine QDo ?_
 refine Qz fun ob w1 hob hblk hz1 he1 => ?_
 have hO : QZ w1 ob [.bool ap,pv,dv] Q6y:=hblk
 refine hO.JH rfl ?_
 refine (QbN (hl.Q4 he1) (ho.Q4 he1)).mono ?_
 rintro r w2 ⟨b,rfl,he2,hb⟩
 have hE2:=he1.Q0 he2
 cases b with
 | true =>
   refine Qr rfl ?_
   refine (XL (hw.Q4 hE2)).mono ?_
   rintro r w3 ⟨rfl,QE⟩
   exact ⟨rfl,hE2.Q0 QE⟩
 | false =>
 refine Qp rfl ?_
 have hs:=hb rfl
 have h1:=hs.l1
 have hpr : Pr (Kj l):=Pr.sort (by omega) fun p h => by have:=hs.l3 p h; omega
 have Q58 : (Kj l).length ≤ 100:=Nat.le_trans (Yd l) h1
 refine (BB (hl.Q4 hE2) (by omega) (fun p h => by have:=hs.l3 p h; omega)).mono ?_
 rintro vl w3 ⟨hso,QE⟩
 have hps:=hso.ps QE (.inr rfl)
 have hw3:=(hw.Q4 hE2).Q4 QE
 generalize Kj l = m at hpr hso hps Q58
 refine (Bc hps hpr hw3 (ow:=1) (by omega)).mono ?_
 rintro r w4 ⟨t,rfl,hct,-,how,-,Zl⟩
 have U9:=(hE2.Q0 QE).Q0 Zl
 refine (hO.ext ((he2.Q0 QE).Q0 Zl) fun h => h).JH rfl ?_
 refine (Q7V (own:=1000) (hw3.Q4 Zl) hct (hps.Q4 Zl) hpr (by omega) (how.q.mono fun o h => by omega) (by omega) (ho.Q4 U9) hs.p6 hs.p3 hs.k4 hs.k3).mono ?_
 rintro _ w5 ⟨t2,v2,l2,rfl,Qbr,Qj7,Nf,QB8,QGp,ZR⟩
 have WX:=U9.Q0 ZR
 have Pn:=hw.Q4 WX
 have Qn2:=hct.Q4 ZR
 have QpZ:=hps.Q4 (Zl.Q0 ZR)
 refine (Qpl Qn2 hpr Qbr Nf (by omega) Pn.fl QpZ.v64 Qj7.v64).mono ?_
 rintro vd w6 ⟨hd6,Ke⟩
 have hw6:=Pn.Q4 Ke
 have hll : (ofC m l2).length ≤ 1000:=Nat.le_trans Qg5 (by omega)
 have QJm : (ofC l2 m).length ≤ 1000:=Nat.le_trans Qg5 (by omega)
 have Qzd:=Qg9 hpr.rises hpr.keys Nf.keys
 have e01 : ∀ w',Ext No w6 w' → Ext No w w':=fun w' h => (WX.Q0 Ke).Q0 h
 refine xj (fun vs w' => vs = [.bool false] ∧ Ext No w6 w') ?_ ?_
 · refine (QDc hd6 (by omega) hw6.fl).mono ?_
   rintro vb w7 ⟨hb7,Yy⟩
   have h57:=Ke.Q0 Yy
   refine (QFB (QpZ.Q4 h57) (Qj7.Q4 h57) hpr.rises (by omega) hpr.keys Nf.keys (Pn.Q4 h57).fl).mono ?_
   rintro vc w8 ⟨hc8,KJ⟩
   refine (Qpk (hb7.Q4 KJ) hc8 (by omega) (QvX hpr Nf)).mono ?_
   rintro _ w9 ⟨rfl,Ym⟩
   have h69:=(Yy.Q0 KJ).Q0 Ym
   refine Qp (by simp) ?_
   refine (Qke (hd6.Q4 h69) (by omega)).mono ?_
   rintro _ Dn ⟨rfl,J9⟩
   rw [Qzd]
   exact ⟨rfl,h69.Q0 J9⟩
 rintro vs g w7 ⟨rfl,Yy⟩
 refine Qp rfl ?_
 have hw7:=hw6.Q4 Yy
 have h57:=Ke.Q0 Yy
 refine (QhK (o:=9) (Qn2.Q4 h57) hpr (how.q.mono fun o h => by omega) (hd6.Q4 Yy) (by omega) (by omega) hw7).mono ?_
 rintro _ w8 ⟨t3,e,rfl,hR⟩
 have he0 : e = 0:=by rw [hR.val,Qhy hpr Nf]; rfl
 subst he0
 have ct3:=hR.good rfl
 rw [Qhy hpr Nf] at ct3
 have KJ:=hR.ext
 have hw8:=hw7.Q4 KJ
 have h68:=Yy.Q0 KJ
 have h58:=h57.Q0 KJ
 refine (QDu (hd6.Q4 h68) (by omega) (QvX hpr Nf) hw8.fl).mono ?_
 rintro vb w9 ⟨hb9,Ym⟩
 rw [QDB hpr.rises Nf.rises] at hb9
 have hw9:=hw8.Q4 Ym
 have h59:=h58.Q0 Ym
 refine (QhK (o:=9) (Qbr.Q4 h59) Nf (QGp.mono fun o h => by omega) hb9 (by omega) (by omega) hw9).mono ?_
 rintro _ Dn ⟨t4,e,rfl,hR2⟩
 have he0 : e = 0:=by rw [hR2.val,Qhy Nf hpr]; rfl
 subst he0
 have ct4:=hR2.good rfl
 rw [Qhy Nf hpr] at ct4
 have J9:=hR2.ext
 have Que:=hw9.Q4 J9
 have Q7F:=h59.Q0 J9
 have QB1:=Ym.Q0 J9
 refine xj (fun vs w' => vs = [.bool true] ∧ Ext No Dn w') ?_ ?_
 · refine Qr rfl ?_
   refine Qr rfl ?_
   refine (Sy Que (ct3.Q4 QB1) (Qj7.Q4 Q7F) Nf).mono ?_
   rintro _ AL ⟨rfl,K9⟩
   refine Qr rfl ?_
   refine (Sy (Que.Q4 K9) (ct4.Q4 K9) (QpZ.Q4 (Q7F.Q0 K9)) hpr).mono ?_
   rintro _ Rw ⟨rfl,JX⟩
   have h12:=K9.Q0 JX
   refine Qr rfl ?_
   refine (Sy (Que.Q4 h12) (Qn2.Q4 (Q7F.Q0 h12)) (QpZ.Q4 (Q7F.Q0 h12)) hpr).mono ?_
   rintro _ w13 ⟨rfl,XK⟩
   have h13:=h12.Q0 XK
   refine Qr rfl ?_
   refine (Sy (Que.Q4 h13) (Qbr.Q4 (Q7F.Q0 h13)) (Qj7.Q4 (Q7F.Q0 h13)) Nf).mono ?_
   rintro _ w14 ⟨rfl,UZ⟩
   have h14:=h13.Q0 UZ
   have QpU:=Que.Q4 h14
   refine Qr rfl ?_
   refine (QDu (hd6.Q4 ((h68.Q0 QB1).Q0 h14)) (by omega) (QvX hpr Nf) QpU.fl).mono ?_
   rintro vb2 w15 ⟨Qv7,Db⟩
   rw [QDB hpr.rises Nf.rises] at Qv7
   refine (QDc Qv7 (by omega) (QpU.Q4 Db).fl).mono ?_
   rintro vb3 w16 ⟨hb16,Q1v⟩
   have QGA:=Db.Q0 Q1v
   have Qqm:=(Q7F.Q0 h14).Q0 QGA
   refine (QFB (Qj7.Q4 Qqm) (QpZ.Q4 Qqm) Nf.rises (by omega) Nf.keys hpr.keys (QpU.Q4 QGA).fl).mono ?_
   rintro vc w17 ⟨hc17,Q7A⟩
   refine (Qpk (hb16.Q4 Q7A) hc17 (by omega) (QvX Nf hpr)).mono ?_
   rintro _ w18 ⟨rfl,Qbp⟩
   have QHL:=(QGA.Q0 Q7A).Q0 Qbp
   refine Qr (by simp) ?_
   refine (XL (QpU.Q4 QHL)).mono ?_
   rintro _ w19 ⟨rfl,Qga⟩
   exact ⟨rfl,(h14.Q0 QHL).Q0 Qga⟩
 rintro vs g AL ⟨rfl,K9⟩
 exact ⟨rfl,(WX.Q0 Q7F).Q0 K9⟩
theorem QFc (hw : Lw w) (hl : Ps w v l) (ho : Ot w ov ap pl ks) (ho2 : Ot w ov2 ap2 pl2 ks2) : Q6 P Q0C [v,ov,ov2] w fun r w' => r = .bool true ∧ Ext No w w':=by
 obtain ⟨pv,dv,rfl,hp,hd⟩:=id ho.val
 obtain ⟨pv2,dv2,rfl,hp2,hd2⟩:=id ho2.val
 refine QDf ?_
 refine Qz fun ob w1 hob hblk hz1 he1 => Qz fun ob2 w2 hob2 hblk2 hz2 he2 => ?_
 have hO : QZ w1 ob [.bool ap,pv,dv] Q6y:=hblk
 have hO2 : QZ w2 ob2 [.bool ap2,pv2,dv2] Q6y:=hblk2
 have hO:=hO.ext he2 fun h => h
 have hE2:=he1.Q0 he2
 refine xj (fun vs w' => ∃ b,vs = [.bool b] ∧ Ext No w2 w' ∧ (b = false → Small l pl ks ∧ Small [] pl2 ks2)) ?_ ?_
 · refine hO.JH rfl ?_
   refine (QbN (hl.Q4 hE2) (ho.Q4 hE2)).mono ?_
   rintro r w3 ⟨b,rfl,QE,hb⟩
   cases b with
   | true => exact Qr rfl ⟨true,rfl,QE,fun h => by cases h⟩
   | false =>
     refine Qp rfl ?_
     refine (hO2.ext QE fun h => h).JH rfl ?_
     refine (QbN (Ps.nil _) (ho2.Q4 (hE2.Q0 QE))).mono ?_
     rintro r w4 ⟨b,rfl,Zl,hb4⟩
     exact ⟨b,rfl,QE.Q0 Zl,fun h => ⟨hb rfl,hb4 h⟩⟩
 rintro vs g w3 ⟨b,rfl,QE,hb⟩
 have JD:=hE2.Q0 QE
 cases b with
 | true =>
   refine Qr rfl ?_
   refine (XL (hw.Q4 JD)).mono ?_
   rintro r w3 ⟨rfl,QE⟩
   exact ⟨rfl,JD.Q0 QE⟩
 | false =>
 refine Qp rfl ?_
 obtain ⟨hs,hs2⟩:=hb rfl
 have h1:=hs.l1
 have hpr : Pr (Kj l):=Pr.sort (by omega) fun p h => by have:=hs.l3 p h; omega
 have Q58 : (Kj l).length ≤ 100:=Nat.le_trans (Yd l) h1
 refine (BB (hl.Q4 JD) (by omega) (fun p h => by have:=hs.l3 p h; omega)).mono ?_
 rintro vl w4 ⟨hso,Zl⟩
 have hps:=hso.ps Zl (.inr rfl)
 have U9:=JD.Q0 Zl
 generalize Kj l = m at hpr hso hps Q58
 refine (Bc hps hpr (hw.Q4 U9) (ow:=1) (by omega)).mono ?_
 rintro r w5 ⟨t,rfl,hct,-,how,-,ZR⟩
 have WX:=U9.Q0 ZR
 have h25:=(QE.Q0 Zl).Q0 ZR
 refine (hO.ext h25 fun h => h).JH rfl ?_
 refine (Q7V (own:=1000) (hw.Q4 WX) hct (hps.Q4 ZR) hpr (by omega) (how.q.mono fun o h => by omega) (by omega) (ho.Q4 WX) hs.p6 hs.p3 hs.k4 hs.k3).mono ?_
 rintro _ w6 ⟨t2,v2,l2,rfl,Qbr,Qj7,Nf,QB8,QGp,Ke⟩
 have MC:=WX.Q0 Ke
 refine (hO2.ext (h25.Q0 Ke) fun h => h).JH rfl ?_
 refine (Q7V (own:=2000) (hw.Q4 MC) Qbr Qj7 Nf (by omega) (QGp.mono fun o h => by omega) (by omega) (ho2.Q4 MC) hs2.p6 hs2.p3 hs2.k4 hs2.k3).mono ?_
 rintro _ w7 ⟨t3,v3,l3,rfl,Qje,Qus,QmB,h220,how3,Yy⟩
 have BA:=MC.Q0 Yy
 have hw7:=hw.Q4 BA
 have Qn1:=hct.Q4 (Ke.Q0 Yy)
 have Qsy:=Qbr.Q4 Yy
 have Qur:=hps.Q4 ((ZR.Q0 Ke).Q0 Yy)
 have Qzo:=Qj7.Q4 Yy
 refine (Qpl Qn1 hpr Qsy Nf (by omega) hw7.fl Qur.v64 Qzo.v64).mono ?_
 rintro vx w8 ⟨hx,KJ⟩
 have hw8:=hw7.Q4 KJ
 refine (Qpl (Qsy.Q4 KJ) Nf (Qje.Q4 KJ) QmB (by omega) hw8.fl Qzo.v64 Qus.v64).mono ?_
 rintro vy w9 ⟨hy,Ym⟩
 have hw9:=hw8.Q4 Ym
 have lx : (ofC m l2).length ≤ 1000:=Nat.le_trans Qg5 (by omega)
 have ly : (ofC l2 l3).length ≤ 1000:=Nat.le_trans Qg5 (by omega)
 have lz : (ofC m l3).length ≤ 1000:=Nat.le_trans Qg5 (by omega)
 refine (QDt (hx.Q4 Ym) hy (by omega) hw9.fl).mono ?_
 rintro _ Dn ⟨vz,e,L,rfl,hz,J9,heL⟩
 rw [if_pos (Qg9 hpr.rises hpr.keys Nf.keys),if_pos (Qg9 Nf.rises Nf.keys QmB.keys)] at heL
 have hth:=QEA (c:=l3) hpr.rises Nf.rises (QyO (Nat.le_refl _) (Q97 (b:=l2) hpr.rises) (Q97 (b:=l3) Nf.rises))
 rw [← heL] at hth
 obtain ⟨rfl,rfl⟩ : e = 0 ∧ L = ofC m l3:=hth
 have Que:=hw9.Q4 J9
 have Qgh:=(KJ.Q0 Ym).Q0 J9
 refine (Qpl (Qn1.Q4 Qgh) hpr (Qje.Q4 Qgh) QmB (by omega) Que.fl Qur.v64 Qus.v64).mono ?_
 rintro vd AL ⟨hdd,K9⟩
 have Q2s:=Que.Q4 K9
 have QB2:=Qgh.Q0 K9
 refine xj (fun vs w' => vs = [.bool false] ∧ Ext No AL w') ?_ ?_
 · refine Qp rfl ?_
   refine (QDc (hz.Q4 K9) (by omega) Q2s.fl).mono ?_
   rintro vb Rw ⟨Qjh,JX⟩
   refine (QDc (hdd.Q4 JX) (by omega) (Q2s.Q4 JX).fl).mono ?_
   rintro vc w13 ⟨hc13,XK⟩
   refine (Qpk (Qjh.Q4 XK) hc13 (by omega) (QvX hpr QmB)).mono ?_
   rintro _ w14 ⟨rfl,UZ⟩
   exact ⟨by simp,(JX.Q0 XK).Q0 UZ⟩
 rintro vs g Rw ⟨rfl,JX⟩
 refine Qp rfl ?_
 have Dp:=Q2s.Q4 JX
 have QJM:=QB2.Q0 JX
 have Qvj:=((Ym.Q0 J9).Q0 K9).Q0 JX
 refine (QhK (o:=20) (Qn1.Q4 QJM) hpr (how.q.mono fun o h => by omega) (hx.Q4 Qvj) (by omega) (by omega) Dp).mono ?_
 rintro _ w13 ⟨s1,e,rfl,R1⟩
 have he0 : e = 0:=by rw [R1.val,Qhy hpr Nf]; rfl
 subst he0
 have cs1:=R1.good rfl
 rw [Qhy hpr Nf] at cs1
 have cs1 : Ct w13 s1 l2:=cs1
 have XK:=R1.ext
 have Qj5:=Dp.Q4 XK
 have h913:=(((J9.Q0 K9).Q0 JX).Q0 XK)
 have os1 : s1.OwQ (fun o => o < 21):=R1.own _ (by omega) (how.q.mono fun o h => by omega)
 refine (QhK (o:=21) cs1 Nf (os1.mono fun o h => by omega) (hy.Q4 h913) (by omega) (by omega) Qj5).mono ?_
 rintro _ w14 ⟨s2,e,rfl,R2⟩
 have he0 : e = 0:=by rw [R2.val,Qhy Nf QmB]; rfl
 subst he0
 have cs2:=R2.good rfl
 rw [Qhy Nf QmB] at cs2
 have cs2 : Ct w14 s2 l3:=cs2
 have UZ:=R2.ext
 have QpU:=Qj5.Q4 UZ
 have QJT:=((K9.Q0 JX).Q0 XK).Q0 UZ
 have Qvk:=(QJM.Q0 XK).Q0 UZ
 refine (QhK (o:=22) (Qn1.Q4 Qvk) hpr (how.q.mono fun o h => by omega) (hz.Q4 QJT) (by omega) (by omega) QpU).mono ?_
 rintro _ w15 ⟨t4,e,rfl,R3⟩
 have he0 : e = 0:=by rw [R3.val,Qhy hpr QmB]; rfl
 subst he0
 have ct4:=R3.good rfl
 rw [Qhy hpr QmB] at ct4
 have ct4 : Ct w15 t4 l3:=ct4
 have Db:=R3.ext
 have Qmq:=QpU.Q4 Db
 have QJL:=Qvk.Q0 Db
 have QGI:=cs2.Q4 Db
 have QGH:=Qje.Q4 QJL
 have sh1 : s2.er.shape = t4.er.shape:=by rw [QGI.can.uniq ct4.can]
 have sh2 : t4.er.shape = t3.er.shape:=by rw [ct4.can.uniq QGH.can]
 refine xj (fun vs w' => vs = [.bool true] ∧ Ext No w15 w') ?_ ?_
 · refine Qr rfl ?_
   refine Qr rfl ?_
   refine Qr rfl ?_
   refine (Xt Qmq.tab QGI.tree QGI.QR (QGI.tree.Vw QGI.can QmB.rises QmB.many)).mono ?_
   rintro _ w16 ⟨rfl,Q1v⟩
   refine (Xt (Qmq.Q4 Q1v).tab (ct4.Q4 Q1v).tree ct4.QR (ct4.tree.Vw ct4.can QmB.rises QmB.many)).mono ?_
   rintro _ w17 ⟨rfl,Q7A⟩
   have h17:=Q1v.Q0 Q7A
   refine Q6I ?_
   refine Qr (decide_eq_true sh1) ?_
   refine (Xt (Qmq.Q4 h17).tab (ct4.Q4 h17).tree ct4.QR (ct4.tree.Vw ct4.can QmB.rises QmB.many)).mono ?_
   rintro _ w18 ⟨rfl,Qbp⟩
   have h18:=h17.Q0 Qbp
   refine (Xt (Qmq.Q4 h18).tab (QGH.Q4 h18).tree QGH.QR (QGH.tree.Vw QGH.can QmB.rises QmB.many)).mono ?_
   rintro _ w19 ⟨rfl,Qga⟩
   have h19:=h18.Q0 Qga
   refine Q6I ?_
   refine Qr (decide_eq_true sh2) ?_
   refine (XL (Qmq.Q4 h19)).mono ?_
   rintro _ w20 ⟨rfl,QmY⟩
   exact ⟨rfl,h19.Q0 QmY⟩
 rintro vs g w16 ⟨rfl,Q1v⟩
 exact ⟨rfl,(BA.Q0 QJL).Q0 Q1v⟩
end
end Qbs
end Go.Proofs.YtbnhggfiembejaaGreatDoor
end
section
namespace Go.Proofs.YtbnhggfiembejaaGreatDoor
open Go Go.RowKit X
set_option linter.unusedSimpArgs false
set_option linter.unusedVariables false
set_option linter.unusedSectionVars false
theorem QIb (n : Nat) : Kc (QJ (.int .u8 0)) n = (List.replicate n (0 : UInt8)).map bv:=by
 induction n with
 | zero => rfl
 | succ n ih =>
   show QJ (.int .u8 0) ++ Kc _ n = _
   rw [ih]; rfl
theorem QEz {l m L : List Chg} {e : Nat} (h : (e,L) = thenS l m) (h1 : l.length ≤ 60) (h2 : m.length ≤ 60) (k1 : ∀ c ∈ l,c.key.length ≤ 1000000) (k2 : ∀ c ∈ m,c.key.length ≤ 1000000) : L.length ≤ 1000 ∧ ∀ c ∈ L,c.key.length ≤ 1000000:=by
 have QId : L = [] → L.length ≤ 1000 ∧ ∀ c ∈ L,c.key.length ≤ 1000000:=fun h => by rw [h]; exact ⟨by simp,by simp⟩
 unfold thenS at h
 by_cases e1 : D8 l = 0
 · rw [if_pos e1] at h
   by_cases e2 : D8 m = 0
   · rw [if_pos e2] at h
     injection h with _ h
     by_cases e3 : (goC l m (Q6l l m)).isSome
     · rw [if_pos e3] at h; exact QId h
     · rw [if_neg e3] at h
       rw [h]
       refine ⟨?_,fun c hc => ?_⟩
       · have h3:=QAt l m
         exact Nat.le_trans (List.length_filterMap_le _ _) (by omega)
       · obtain ⟨x,hx,hj⟩:=List.mem_filterMap.1 hc
         rw [QDb hj]
         rcases QFP hx with ⟨d,hd,e⟩ | ⟨d,hd,e⟩
         · rw [e]; exact k1 d hd
         · rw [e]; exact k2 d hd
   · rw [if_neg e2] at h; injection h with _ h; exact QId h
 · rw [if_neg e1] at h; injection h with _ h; exact QId h
theorem QFH (l m : List Chg) : (if D8 l = 0 then if D8 m = 0 then Q98 (l.length + m.length) l m else (D8 m,[]) else (D8 l,[])) = thenS l m:=by
 unfold thenS
 by_cases h1 : D8 l = 0
 · rw [if_pos h1,if_pos h1]
   by_cases h2 : D8 m = 0
   · rw [if_pos h2,if_pos h2]
     obtain ⟨e1,e2⟩:=(QyO (Nat.le_refl _) (Q5U.1 h1).2.2.2 (Q5U.1 h2).2.2.2).uniq (QFI l m)
     exact Prod.ext e1 e2
   · rw [if_neg h2,if_neg h2]
 · rw [if_neg h1,if_neg h1]
namespace Qbs
variable [Floor]
section
variable {w : World} {v va vb dv kv : Value} {l : Kv} {d da db : List Chg} {o : Nat} {big : Bool}
theorem QDE (hw : Lw w) (hl : Ps w v l) (hd : Cs w dv d) (ho : o < 18446744073709551616) : Q6 P D5 [v,dv,.int .u64 o] w fun r w' => r = .bool true ∧ Ext No w w':=by
 refine Qw2 ?_
 refine xj (fun vs w' => ∃ b,vs = [.bool b] ∧ Ext No w w' ∧ (b = false → (l.length ≤ 100 ∧ ∀ p ∈ l,p.1.length ≤ 300) ∧ d.length ≤ 60 ∧ ∀ c ∈ d,c.key.length ≤ 300)) ?_ ?_
 · refine (Q7W (m:=100) hl (by omega)).mono ?_
   rintro r w1 ⟨b,rfl,he1,hb⟩
   cases b with
   | true => exact Qr rfl ⟨true,rfl,he1,fun h => by cases h⟩
   | false =>
     refine Qp rfl ?_
     refine (QFh (hd.Q4 he1)).mono ?_
     rintro r w2 ⟨b,rfl,he2,hb2⟩
     exact ⟨b,rfl,he1.Q0 he2,fun h => ⟨hb rfl,hb2 h⟩⟩
 rintro vs g w1 ⟨b,rfl,he1,hb⟩
 cases b with
 | true =>
   refine Qr rfl ?_
   refine (XL (hw.Q4 he1)).mono ?_
   rintro r w3 ⟨rfl,QE⟩
   exact ⟨rfl,he1.Q0 QE⟩
 | false =>
 refine Qp rfl ?_
 obtain ⟨⟨l1,l3⟩,d6,d3⟩:=hb rfl
 have hpr : Pr (Kj l):=Pr.sort (by omega) fun p h => by have:=l3 p h; omega
 have Q58 : (Kj l).length ≤ 100:=Nat.le_trans (Yd l) l1
 refine (BB (hl.Q4 he1) (by omega) (fun p h => by have:=l3 p h; omega)).mono ?_
 rintro vl w2 ⟨hso,he2⟩
 have hps:=hso.ps he2 (.inr rfl)
 have hE2:=he1.Q0 he2
 generalize Kj l = m at hpr hso hps Q58
 refine (Bc hps hpr (hw.Q4 hE2) (ow:=1) (by omega)).mono ?_
 rintro r w3 ⟨t,rfl,hct,-,how,-,QE⟩
 have JD:=hE2.Q0 QE
 refine xj (fun vs w' => ∃ q : Nat,vs = [.int .u64 q] ∧ w' = w3 ∧ q ≠ 1 ∧ q < 18446744073709551616) ?_ ?_
 · refine Vu (fun h => ⟨2,rfl,rfl,by omega,by omega⟩) fun h => ⟨o,rfl,rfl,by omega,ho⟩
 rintro vs g w4 ⟨q,rfl,rfl,hq1,hq⟩
 have hw4:=hw.Q4 JD
 have dk : ∀ c ∈ d,c.key.length ≤ 1000000:=fun c hc => by have:=d3 c hc; omega
 refine (Qfa (hd.Q4 JD) (by omega) hw4.fl).mono ?_
 rintro vc w5 ⟨hco,ZR⟩
 have hc5:=hco.cs (.inl rfl)
 have Pn:=hw4.Q4 ZR
 refine (QhK (o:=q) (hct.Q4 ZR) hpr (how.q.mono fun o h => by omega) hc5 (by omega) hq Pn).mono ?_
 rintro _ w6 ⟨t',e,rfl,hR⟩
 have Ke:=hR.ext
 have hw6:=Pn.Q4 Ke
 have h46:=ZR.Q0 Ke
 have MC:=JD.Q0 h46
 have hct6:=hct.Q4 h46
 have Qzm:=hps.Q4 (QE.Q0 h46)
 refine xj (fun vs w' => vs = [.bool false] ∧ Ext No w6 w') ?_ ?_
 · refine (Qfa (hd.Q4 MC) (by omega) hw6.fl).mono ?_
   rintro vc2 w7 ⟨hco7,Yy⟩
   refine (Qke (hco7.cs (.inl rfl)) (by omega)).mono ?_
   rintro _ w8 ⟨rfl,KJ⟩
   have h68:=Yy.Q0 KJ
   refine (QAz (hd.Q4 (MC.Q0 h68)) (by omega)).mono ?_
   rintro _ w9 ⟨rfl,Ym⟩
   have h69:=h68.Q0 Ym
   refine Q5L (fun h => absurd rfl h) fun _ => ?_
   refine (Qfa (hd.Q4 (MC.Q0 h69)) (by omega) (hw6.Q4 h69).fl).mono ?_
   rintro vc3 Dn ⟨QJs,J9⟩
   have QJO:=h69.Q0 J9
   refine (QDu (QJs.cs (.inl rfl)) (by omega) dk (hw6.Q4 QJO).fl).mono ?_
   rintro vb AL ⟨Q5T,K9⟩
   have QJN:=QJO.Q0 K9
   refine (QDc Q5T (by rw [List.length_map]; omega) (hw6.Q4 QJN).fl).mono ?_
   rintro vb2 Rw ⟨Qjh,JX⟩
   have QIv:=QJN.Q0 JX
   refine (QHx (hd.Q4 (MC.Q0 QIv)) (by omega) (hw6.Q4 QIv).fl).mono ?_
   rintro vb3 w13 ⟨Qna,XK⟩
   refine (Qpk (Qjh.Q4 XK) Qna (by rw [List.length_map]; omega) (fun c hc => ?_)).mono ?_
   · obtain ⟨c',hc',rfl⟩:=List.mem_map.1 hc
     exact dk c' hc'
   rintro _ w14 ⟨rfl,UZ⟩
   have QHr:=(QIv.Q0 XK).Q0 UZ
   refine Qp (by simp) ?_
   refine (Sy (hw6.Q4 QHr) (hct6.Q4 QHr) (Qzm.Q4 QHr) hpr).mono ?_
   rintro _ w15 ⟨rfl,Db⟩
   exact ⟨rfl,QHr.Q0 Db⟩
 rintro vs g w7 ⟨rfl,Yy⟩
 refine Qp rfl ?_
 have hw7:=hw6.Q4 Yy
 have BA:=MC.Q0 Yy
 refine Vu (fun h => ?_) fun h => ?_
 · have hq0 : q = 0:=by omega
   have he : e = 1:=by rw [hR.val,if_pos hq0]
   have ht : t' = .nil:=hR.bad (by omega)
   subst he ht
   refine xj (fun vs w' => vs = [.bool true] ∧ Ext No w7 w') ?_ ?_
   · refine Ka T.nil ?_
     refine Qr rfl ?_
     refine Qr rfl ?_
     refine (XL hw7).mono ?_
     rintro _ w8 ⟨rfl,KJ⟩
     exact ⟨rfl,KJ⟩
   rintro vs g w8 ⟨rfl,KJ⟩
   exact ⟨rfl,BA.Q0 KJ⟩
 · have hq0 : ¬ q = 0:=by omega
   have he : e = (Qjx m d).1:=by rw [hR.val,if_neg hq0]
   refine (QGL (Qzm.Q4 Yy) (hd.Q4 BA) hpr.rises (by omega) hpr.keys hw7.fl).mono ?_
   rintro _ w8 ⟨vo,rfl,ho8,KJ⟩
   have hw8:=hw7.Q4 KJ
   have E9:=BA.Q0 KJ
   refine xj (fun vs w' => vs = [.bool true] ∧ Ext No w8 w') ?_ ?_
   · refine Vu (fun _ => ?_) fun h => absurd (by rw [he]) h
     refine Q5L (fun hn => ?_) fun hz => ?_
     · have ht : t' = .nil:=hR.bad (by omega)
       subst ht
       refine Ka T.nil ?_
       refine Qr rfl ?_
       refine (XL hw8).mono ?_
       rintro _ w9 ⟨rfl,Ym⟩
       exact ⟨rfl,Ym⟩
     · have he0 : e = 0:=by omega
       have ct:=hR.good he0
       obtain ⟨Qzd,hap⟩:=QE4 (a:=m) (l:=d) (by omega)
       refine Vu (fun _ => ?_) fun h => absurd hz h
       have kl:=(Q5U.1 Qzd).1
       have hpa : Pr (Qjx m d).2:=by
        rw [hap]
        exact ⟨Qsw hpr.rises,fun p hp => by
         rcases QDI hp with h | ⟨c,hc,e⟩
         · exact hpr.keys p h
         · rw [e]; exact kl c hc,by have:=Qw0 (l:=d) (m:=m); omega⟩
       refine (Sy hw8 (ct.Q4 (Yy.Q0 KJ)) ho8 hpa).mono ?_
       rintro _ w9 ⟨rfl,Ym⟩
       refine Qr rfl ?_
       refine (XL (hw8.Q4 Ym)).mono ?_
       rintro _ Dn ⟨rfl,J9⟩
       exact ⟨rfl,Ym.Q0 J9⟩
   rintro vs g w9 ⟨rfl,Ym⟩
   exact ⟨rfl,E9.Q0 Ym⟩
theorem QEC (hw : Lw w) (ha : Cs w va da) (hb : Cs w vb db) : Q6 P Q0z [va,vb,.bool big] w fun r w' => r = .bool true ∧ Ext No w w':=by
 refine QAG ?_
 refine xj (fun vs w' => ∃ b,vs = [.bool b] ∧ Ext No w w' ∧ (b = false → (da.length ≤ 60 ∧ ∀ c ∈ da,c.key.length ≤ 300) ∧ db.length ≤ 60 ∧ ∀ c ∈ db,c.key.length ≤ 300)) ?_ ?_
 · refine (QFh ha).mono ?_
   rintro r w1 ⟨b,rfl,he1,hb1⟩
   cases b with
   | true => exact Qr rfl ⟨true,rfl,he1,fun h => by cases h⟩
   | false =>
     refine Qp rfl ?_
     refine (QFh (hb.Q4 he1)).mono ?_
     rintro r w2 ⟨b,rfl,he2,hb2⟩
     exact ⟨b,rfl,he1.Q0 he2,fun h => ⟨hb1 rfl,hb2 h⟩⟩
 rintro vs g w1 ⟨b,rfl,he1,hbb⟩
 cases b with
 | true =>
   refine Qr rfl ?_
   refine (XL (hw.Q4 he1)).mono ?_
   rintro r w3 ⟨rfl,QE⟩
   exact ⟨rfl,he1.Q0 QE⟩
 | false =>
 refine Qp rfl ?_
 obtain ⟨⟨a6,a3⟩,b6,b3⟩:=hbb rfl
 have hw1:=hw.Q4 he1
 cases big with
 | false =>
   refine Qp rfl ?_
   refine (Qfa (ha.Q4 he1) (by omega) hw1.fl).mono ?_
   rintro va2 w2 ⟨hca,he2⟩
   refine (Qfa (hb.Q4 (he1.Q0 he2)) (by omega) (hw1.Q4 he2).fl).mono ?_
   rintro vb2 w3 ⟨hcb,QE⟩
   have h13:=he2.Q0 QE
   refine (QDt ((hca.cs (.inl rfl)).Q4 QE) (hcb.cs (.inl rfl)) (by omega) (hw1.Q4 h13).fl).mono ?_
   rintro _ w4 ⟨vo,e,L,rfl,hL,Zl,heL⟩
   rw [QFH] at heL
   have h14:=h13.Q0 Zl
   refine (QHv (ha.Q4 (he1.Q0 h14)) (hb.Q4 (he1.Q0 h14)) (by omega) (hw1.Q4 h14).fl).mono ?_
   rintro _ w5 ⟨vo2,rfl,hL2,ZR⟩
   rw [← heL] at hL2 ⊢
   have h15:=h14.Q0 ZR
   have hLl : L.length ≤ 1000 ∧ ∀ c ∈ L,c.key.length ≤ 1000000:=QEz (l:=da) (m:=db) heL a6 b6 (fun c hc => by have:=a3 c hc; omega) fun c hc => by have:=b3 c hc; omega
   refine xj (fun vs w' => vs = [.bool true] ∧ Ext No w5 w') ?_ ?_
   · refine (QDc (hL.Q4 ZR) (by omega) (hw1.Q4 h15).fl).mono ?_
     rintro vb3 w6 ⟨hb6,Ke⟩
     refine (Qpk hb6 (hL2.Q4 Ke) (by omega) hLl.2).mono ?_
     rintro _ w7 ⟨rfl,Yy⟩
     have h57:=Ke.Q0 Yy
     refine Qr (by simp) ?_
     refine Vu (fun _ => ?_) fun h => absurd rfl h
     refine (XL ((hw1.Q4 h15).Q4 h57)).mono ?_
     rintro _ w8 ⟨rfl,KJ⟩
     exact ⟨rfl,h57.Q0 KJ⟩
   rintro vs g w6 ⟨rfl,Ke⟩
   exact ⟨rfl,(he1.Q0 h15).Q0 Ke⟩
 | true =>
   refine Qr rfl ?_
   have Qzd : ∀ zk : Key,zk.length = 65536 → D8 (da ++ [⟨zk,0,0,0⟩]) = 8:=fun zk hz => by
    unfold D8
    rw [if_pos ⟨⟨zk,0,0,0⟩,by simp,by show 65535 < zk.length; omega⟩]
   have fin : ∀ (zk : Key) (w6 : World) (v6 : Value),zk.length = 65536 → Cs w6 v6 (da ++ [⟨zk,0,0,0⟩]) → Ext No w1 w6 →
     Q6 P Q7t [.slice none 0 0,v6] w6 fun Z9 Kr => Qb Z9 0 fun Z7 => Qb Z9 1 fun Zo => Q6 P Q0H [.pointer none,v6,.int .u64 1,.pointer none] Kr fun Ze JA => Qb Ze 0 fun ZE => Qb Ze 1 fun Je =>
     XJ (fun Q5I => Q6 P Q5a [v6] JA fun ZX VZ => YA ZX (.int .i64 8) fun JS => Ql JS (Zq Z7 fun Yj => YA Yj (.int .i64 0) fun ZY => Ql ZY (YA Zo (.int .i64 8) fun JR => Ql JR (YV P VZ ZE (.pointer none) fun K5 => Ql K5 (YA Je (.int .i64 8) fun Yp => Ql Yp (Q6 P TL [] VZ fun KY Q1X => Q5I [KY] Q1X) (Q5I [.bool false] VZ)) (Q5I [.bool false] VZ)) (Q5I [.bool false] VZ)) (Q5I [.bool false] VZ)) (Q5I [.bool false] VZ)) fun QtT QJY Kz => (QtT.getD 0 undef) = .bool true ∧ Ext No w Kz:=by
    intro zk w6 v6 hz h6 Ke
    have hw6:=hw1.Q4 Ke
    have hll : (da ++ [(⟨zk,0,0,0⟩ : Chg)]).length ≤ 100:=by simp; omega
    refine (QDt (Cs.nil _) h6 (by simp at hll ⊢; omega) hw6.fl).mono ?_
    rintro _ w7 ⟨vo,e,L,rfl,hL,Yy,heL⟩
    rw [if_pos (show D8 [] = 0 by decide),if_neg (by rw [Qzd zk hz]; decide),Qzd zk hz] at heL
    obtain ⟨rfl,rfl⟩ : e = 8 ∧ L = []:=by injection heL with h1 h2; exact ⟨h1,h2⟩
    have hw7:=hw6.Q4 Yy
    refine Q6.mono (show Q6 P Q0H [T.nil.v,v6,.int .u64 (1 : Nat),.pointer none] w7 _ from QhK (o:=1) (t:=.nil) (a:=[]) ⟨trivial,Can.nil,trivial⟩ ⟨List.Pairwise.nil,by simp,by simp⟩ trivial (h6.Q4 Yy) (by simp at hll ⊢; omega) (by omega) hw7) ?_
    rintro _ w8 ⟨t',e,rfl,hR⟩
    have KJ:=hR.ext
    have e8 : e = 8:=by rw [hR.val,if_neg (by omega)]; unfold Qjx; rw [if_neg (by rw [Qzd zk hz]; decide),Qzd zk hz]
    have ht : t' = .nil:=hR.bad (by omega)
    subst e8 ht
    have hw8:=hw7.Q4 KJ
    have h68:=Yy.Q0 KJ
    refine xj (fun vs w' => vs = [.bool true] ∧ Ext No w8 w') ?_ ?_
    · refine (Qke (h6.Q4 h68) (by omega)).mono ?_
      rintro _ w9 ⟨rfl,Ym⟩
      rw [Qzd zk hz]
      refine Qr rfl ?_
      refine (hL.Q4 (KJ.Q0 Ym)).len ?_
      refine Qr rfl ?_
      refine Qr rfl ?_
      refine Ka T.nil ?_
      refine Qr rfl ?_
      refine Qr rfl ?_
      refine (XL (hw8.Q4 Ym)).mono ?_
      rintro _ Dn ⟨rfl,J9⟩
      exact ⟨rfl,Ym.Q0 J9⟩
    rintro vs g w9 ⟨rfl,Ym⟩
    exact ⟨rfl,((he1.Q0 Ke).Q0 h68).Q0 Ym⟩
   have hd1:=(Ext.refl No w1).drew
   have hwd:=hw1.Q4 hd1
   have mk : ∀ {wx : World} {K : Value → World → Prop},(∀ (b : Nat) (zk : Key) (w' : World),zk.length = 65536 → Bs w' (.slice (some ⟨b,0,none⟩) 65536 65536) zk → Ext No wx w' → K (.slice (some ⟨b,0,none⟩) 65536 65536) w') → Jv P (Instr.makeSlice Ji (.int .i64 65536) (.int .i64 65536)) wx K:=fun {wx K} k => by
    refine Q7b (n:=65536) (c:=65536) Uq rfl rfl (Nat.le_refl _) (by omega) (by omega) fun b w1 hb hz hblk he => ?_
    rw [QIb] at hblk
    generalize hzk : List.replicate 65536 (0 : UInt8) = zk at hblk
    have hl : zk.length = 65536:=by rw [← hzk,List.length_replicate]
    have:=Bs.new hblk
    rw [hl] at this
    exact k b zk w1 hl this he
   have z0 : (0 : Nat) < 18446744073709551616:=by omega
   have one : ∀ {wx : World} {zk : Key} {b a : Nat},Bs wx (.slice (some ⟨b,0,none⟩) 65536 65536) zk → CC wx [⟨zk,0,0,0⟩] [.slice (some ⟨b,0,none⟩) 65536 65536,.int .i64 0,.int .u64 0,.int .u64 0]:=fun h => CC.Q24 h ⟨z0,z0⟩
   refine ⟨?_,?_⟩
   · refine (Qfa (ha.Q4 (he1.Q0 hd1)) (by omega) hwd.fl).mono ?_
     rintro vc w2 ⟨hco,he2⟩
     refine mk fun b zk w3 hz hk QE => ?_
     show Qs w3 [.slice (some ⟨b,0,none⟩) 65536 65536,.int .i64 0,.int .u64 0,.int .u64 0] Q3 _
     refine Qz fun a w4 ha4 hbl Ro Zl => ?_
     have h24:=QE.Q0 Zl
     have h14:=(hd1.Q0 he2).Q0 h24
     refine CO.app (m:=[⟨zk,0,0,0⟩]) Qkd (by decide) hwd.fl (by have:=he2.size; have:=h24.size; omega) (hco.Q4 h24) (hbl.sln rfl) (one (a:=a) (hk.Q4 Zl)) (by simp; omega) fun v5 w5 h5 _ _ hex => ?_
     have ZR:=hex w1.drew (he2.Q0 h24) (Nat.le_refl _)
     exact fin zk w5 v5 hz (h5.cs (.inl rfl)) (hd1.Q0 ZR)
   · refine mk fun b zk w2 hz hk he2 => ?_
     have hw2:=hwd.Q4 he2
     refine ⟨?_,?_⟩
     · refine (Qfa (ha.Q4 ((he1.Q0 hd1).Q0 he2)) (by omega) hw2.fl).mono ?_
       rintro vc w3 ⟨hco,QE⟩
       show Qs w3 [.slice (some ⟨b,0,none⟩) 65536 65536,.int .i64 0,.int .u64 0,.int .u64 0] Q3 _
       refine Qz fun a w4 ha4 hbl Ro Zl => ?_
       refine CO.app (m:=[⟨zk,0,0,0⟩]) Qkd (by decide) hw2.fl (by have:=QE.size; have:=Zl.size; omega) (hco.Q4 Zl) (hbl.sln rfl) (one (a:=a) ((hk.Q4 QE).Q4 Zl)) (by simp; omega) fun v5 w5 h5 _ _ hex => ?_
       have ZR:=hex w2 (QE.Q0 Zl) (Nat.le_refl _)
       exact fin zk w5 v5 hz (h5.cs (.inl rfl)) ((hd1.Q0 he2).Q0 ZR)
     · show Qs w2 [.slice (some ⟨b,0,none⟩) 65536 65536,.int .i64 0,.int .u64 0,.int .u64 0] Q3 _
       refine Qz fun a w3 ha3 hbl hz3 QE => ?_
       have hw3:=hw2.Q4 QE
       refine (Qfa (ha.Q4 (((he1.Q0 hd1).Q0 he2).Q0 QE)) (by omega) hw3.fl).mono ?_
       rintro vc w4 ⟨hco,Zl⟩
       refine CO.app (m:=[⟨zk,0,0,0⟩]) Qkd (by decide) hw3.fl (by have:=Zl.size; omega) hco ((hbl.ext Zl fun h => h).sln rfl) (one (a:=a) ((hk.Q4 QE).Q4 Zl)) (by simp; omega) fun v5 w5 h5 _ _ hex => ?_
       have ZR:=hex w3 Zl (Nat.le_refl _)
       exact fin zk w5 v5 hz (h5.cs (.inl rfl)) (((hd1.Q0 he2).Q0 QE).Q0 ZR)
end
end Qbs
end Go.Proofs.YtbnhggfiembejaaGreatDoor
end
section
namespace Go.Proofs.YtbnhggfiembejaaGreatDoor
open Go Go.RowKit X Go.ChangeShapes Go.WideShapes Go.ChangeAt
set_option linter.unusedSimpArgs false
set_option linter.unusedVariables false
set_option linter.unusedSectionVars false
namespace Qbs
noncomputable abbrev Q5Q (i : Nat) : Field:=(P.fieldsOf Q6y).getD i { name:="",type:=0,offset:=0,embedded:=false,tag:="",pkgPath:="",byteOffset:=0 }
theorem othU : P.underlying Q6y = some (.struct #[Q5Q 0,Q5Q 1,Q5Q 2]):=by kernel_rfl
theorem othC : P.cellsOf Q6y = 3:=by kernel_rfl
theorem Qyi : (Q5Q 0).type = Q8F ∧ (Q5Q 0).offset = 0:=⟨by kernel_rfl,by kernel_rfl⟩
theorem Qyh : (Q5Q 1).type = YP ∧ (Q5Q 1).offset = 1:=⟨by kernel_rfl,by kernel_rfl⟩
theorem Qyg : (Q5Q 2).type = QeX ∧ (Q5Q 2).offset = 2:=⟨by kernel_rfl,by kernel_rfl⟩
set_option maxRecDepth 100000 in
theorem Q1p {H : Type} {enc : TypeId × Value → H} {W : World} {v : Value} {d : DataW H} {p : List MemPlace} (h : DataW.Trod enc P W 0 (fun _ => true) true Q6y v d p) :
  letI:=YK W; ∃ ap pl ks,Ot W v ap pl ks:=by
 letI:=YK W
 obtain ⟨fuel,hf⟩:=h
 obtain ⟨xs,k,hk,hxy,hcl,hxl,hfi⟩:=DataW.trod_struct othU hf
 rw [othC] at hcl
 have hxl : xs.length = 3:=by simpa using hxl
 have g0:=hfi 0 (Q5Q 0) rfl
 have g1:=hfi 1 (Q5Q 1) rfl
 have g2:=hfi 2 (Q5Q 2) rfl
 rw [Qyi.1,Qyi.2] at g0
 rw [Qyh.1,Qyh.2] at g1
 rw [Qyg.1,Qyg.2] at g2
 obtain ⟨u0,e0,y0,h0⟩:=Q44 (by omega) (by kernel_rfl) (by omega) g0
 obtain ⟨u1,e1,y1,h1⟩:=Q44 (by omega) (by kernel_rfl) (by omega) g1
 obtain ⟨u2,e2,y2,h2⟩:=Q44 (by omega) (by kernel_rfl) (by omega) g2
 obtain ⟨b,hb,-⟩:=DataW.trod_bool (by kernel_rfl) h0
 obtain ⟨pv,pl,hpv,hps,-,-⟩:=Qhz h1
 obtain ⟨dv,ks,hdv,hbs,-,-⟩:=QoQ (by kernel_rfl) h2
 obtain rfl : u0 = .bool b:=by simpa using hb
 obtain rfl : u1 = pv:=by simpa using hpv
 obtain rfl : u2 = dv:=by simpa using hdv
 refine ⟨b,pl,ks,⟨_,_,Qih ?_,hps,hbs⟩⟩
 match hm : v.cells.toList,hcl with
 | [a,b,c],_ =>
   rw [hm] at e0 e1 e2
   simp at e0 e1 e2
   rw [e0,e1,e2]
end Qbs
end Go.Proofs.YtbnhggfiembejaaGreatDoor
end
section
namespace Go.Proofs.YtbnhggfiembejaaGreatDoor
open Go Go.RowKit X Go.ChangeShapes Go.WideShapes Go.ChangeAt
set_option linter.unusedSimpArgs false
set_option linter.unusedVariables false
set_option linter.unusedSectionVars false
namespace Qbs
noncomputable abbrev Qw9 (i : Nat) : Field:=(P.fieldsOf KU).getD i { name:="",type:=0,offset:=0,embedded:=false,tag:="",pkgPath:="",byteOffset:=0 }
theorem chgU : P.underlying KU = some (.struct #[Qw9 0,Qw9 1,Qw9 2,Qw9 3]):=by kernel_rfl
theorem QHP : P.cellsOf KU = 4:=by kernel_rfl
theorem QK4 : (Qw9 0).type = Ji ∧ (Qw9 0).offset = 0:=⟨by kernel_rfl,by kernel_rfl⟩
theorem QK3 : (Qw9 1).type = Ht ∧ (Qw9 1).offset = 1:=⟨by kernel_rfl,by kernel_rfl⟩
theorem QK2 : (Qw9 2).type = Hr ∧ (Qw9 2).offset = 2:=⟨by kernel_rfl,by kernel_rfl⟩
theorem QK1 : (Qw9 3).type = Hr ∧ (Qw9 3).offset = 3:=⟨by kernel_rfl,by kernel_rfl⟩
section
variable {H : Type} {enc : TypeId × Value → H} {W : World}
theorem QEB {t : TypeId} {k : IntKind} {m : Nat} (ht : P.underlying t = some (.int k)) (h0 : k.min = 0) (hm : k.max = m) {fuel : Nat} {u : Value} {x : DataW H × List MemPlace} (h : DataW.trod enc P W 0 (fun _ => true) true fuel t [u] = some x) : ∃ n : Nat,u = .int k n ∧ n ≤ m:=by
 obtain ⟨n,hn,-,hw⟩:=DataW.trod_int ht h
 obtain ⟨⟨q,rfl⟩,h2⟩:=N8 hw h0
 have:=h2 q rfl
 exact ⟨q,by simpa using hn,by omega⟩
set_option maxRecDepth 100000 in
theorem QGJ {fuel : Nat} {cs : List Value} {x : DataW H × List MemPlace} (h : DataW.trod enc P W 0 (fun _ => true) true fuel KU cs = some x) :
  letI:=YK W; ∃ (c : Chg) (kv : Value),cs = chC kv c ∧ Bs W kv c.key ∧ c.ok:=by
 letI:=YK W
 obtain ⟨xs,k,hk,hxy,hcl,hxl,hfi⟩:=DataW.trod_struct chgU h
 rw [QHP] at hcl
 have hxl : xs.length = 4:=by simpa using hxl
 have g0:=hfi 0 (Qw9 0) rfl
 have g1:=hfi 1 (Qw9 1) rfl
 have g2:=hfi 2 (Qw9 2) rfl
 have g3:=hfi 3 (Qw9 3) rfl
 rw [QK4.1,QK4.2] at g0
 rw [QK3.1,QK3.2] at g1
 rw [QK2.1,QK2.2] at g2
 rw [QK1.1,QK1.2] at g3
 obtain ⟨u0,e0,y0,h0⟩:=Q44 (by omega) (by kernel_rfl) (by omega) g0
 obtain ⟨u1,e1,y1,h1⟩:=Q44 (by omega) (by kernel_rfl) (by omega) g1
 obtain ⟨u2,e2,y2,h2⟩:=Q44 (by omega) (by kernel_rfl) (by omega) g2
 obtain ⟨u3,e3,y3,h3⟩:=Q44 (by omega) (by kernel_rfl) (by omega) g3
 obtain ⟨kv,kb,Wq,hbs,-⟩:=Q2H h0
 obtain ⟨n1,hn1,-,-⟩:=DataW.trod_int (k:=.i64) (by kernel_rfl) h1
 obtain ⟨z2,rfl,hz2⟩:=QEB (k:=.u64) (m:=18446744073709551615) (by kernel_rfl) rfl rfl h2
 obtain ⟨z3,rfl,hz3⟩:=QEB (k:=.u64) (m:=18446744073709551615) (by kernel_rfl) rfl rfl h3
 obtain rfl : u0 = kv:=by simpa using Wq
 obtain rfl : u1 = .int .i64 n1:=by simpa using hn1
 refine ⟨⟨kb,n1,z2,z3⟩,_,?_,hbs,by show z2 < _; omega,by show z3 < _; omega⟩
 match cs,hcl with
 | [a,b,c,d],_ =>
   simp at e0 e1 e2 e3
   rw [e0,e1,e2,e3]
set_option maxRecDepth 100000 in
theorem QD8 {base : Nat} {v : Value} {d : DataW H} {p : List MemPlace} (hval : Value.okWide P W .any base Qct v) (h : DataW.Trod enc P W 0 (fun _ => true) true Qct v d p) :
  letI:=YK W; ∃ l,Cs W v l:=by
 letI:=YK W
 have hs : P.underlying Qct = some (.slice KU):=by kernel_rfl
 obtain ⟨a1,len,cap,rfl⟩:=okWide_slice hs hval
 obtain ⟨fuel,hf⟩:=h
 obtain ⟨v,n,cells,hv,hsl,hn,hel⟩:=QlE hs QHP (by omega) hf
 have each : ∀ i,∃ c : Chg,i < n → ∃ kv,(cells.drop (i * 4)).take 4 = chC kv c ∧ Bs W kv c.key ∧ c.ok:=fun i => by
  by_cases hi : i < n
  · obtain ⟨f,x',hx⟩:=hel i hi
    obtain ⟨c,kv,hs⟩:=QGJ hx
    exact ⟨c,fun _ => ⟨kv,hs⟩⟩
  · exact ⟨⟨[],0,0,0⟩,fun h => absurd h hi⟩
 obtain ⟨q,hq⟩:=Classical.axiomOfChoice each
 simp [Value.cells] at hv
 subst hv
 have hlen : ((List.range n).map q).length = n:=by simp
 refine ⟨(List.range n).map q,KU,cells,.inr rfl,by rw [hlen]; exact hsl.weak fun _ _ h => .inr h,⟨by rw [hlen]; exact hsl.len,fun i c hs => ?_⟩⟩
 rw [List.getElem?_map] at hs
 have hi : i < n:=by
  rcases Nat.lt_or_ge i n with h | h
  · exact h
  · rw [List.getElem?_eq_none (by simpa using h)] at hs; cases hs
 rw [List.getElem?_range hi] at hs
 obtain rfl : q i = c:=by simpa using hs
 exact hq i hi
set_option linter.constructorNameAsVariable false in
set_option maxRecDepth 100000 in
theorem open_bool {base : Nat} {v : Value} (hval : Value.okWide P W .any base Q8F v) : ∃ b,v = .bool b:=okWide_bool (by kernel_rfl) hval
end
end Qbs
end Go.Proofs.YtbnhggfiembejaaGreatDoor
end
