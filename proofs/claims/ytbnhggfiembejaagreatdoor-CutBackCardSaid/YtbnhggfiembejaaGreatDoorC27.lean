import Derived.Test.YtbnhggfiembejaaGreatDoorBase
import Derived.Test.YtbnhggfiembejaaGreatDoorSAlaw27
namespace Go.Proofs.YtbnhggfiembejaaGreatDoor
open Go Go.RowKit X
set_option linter.unusedSimpArgs false
set_option linter.unusedVariables false
set_option linter.unusedSectionVars false
namespace H7
variable [Floor]
section
variable {w : World} {v : Value} {l : Kv}
theorem Q7W (h : Ps w v l) {m : Nat} (hmm : m ≤ 100000) : Q6 P WC [v,.int .i64 m] w fun r w' => ∃ b,r = .bool b ∧ Ext No w w' ∧ (b = false → l.length ≤ m ∧ ∀ p ∈ l,p.1.length ≤ 300):=by
 refine QeR ?_
 refine h.len ?_
 refine ZF (fun hm => ⟨true,rfl,Ext.refl _ _,fun h => by cases h⟩) fun hm => ?_
 refine h.len ?_
 refine JN (fun n vs w' => ∃ (i : Nat) (x : Value),vs = [.int .i64 i,x] ∧ n = l.length - i ∧ i ≤ l.length ∧ (∀ p ∈ l.take i,p.1.length ≤ 300) ∧ Ext No w w') l.length ⟨0,_,rfl,rfl,by omega,by simp,Ext.refl _ _⟩ ?_
 rintro n vs g w1 ⟨i,x,rfl,rfl,hi,hall,he⟩
 refine ZF (fun hlt => ?_) fun hge => ?_
 · have hil : i < l.length:=by omega
   refine (h.Q4 he).rd i rfl hil fun kv Wq => ?_
   refine Qz fun b w2 hb hblk hz he2 => ?_
   refine JW hblk (by kernel_rfl) (by simp) ?_ fun w3 hb3 hz3 QE => ?_
   · intro u hu
     simp only [List.mem_cons,List.mem_nil_iff,or_false] at hu
     rcases hu with rfl | rfl
     · exact Wq.R9
     · rfl
   · have Sk : QZ w3 b [kv,u64 l[i].2] Qx:=by simpa using hb3
     have JD : Ext No w1 w3:=he2.Z0 QE (by omega)
     refine Sk.ld (o:=0) (v:=kv) rfl ?_
     refine (Wq.Q4 JD).len ?_
     refine ZF (fun hk => ⟨true,rfl,he.Q0 JD,fun h => by cases h⟩) fun hk => ?_
     refine xi (r:=((i + 1 : Nat) : Int)) (by rw [QQ (by omega)]; omega) ?_
     refine JP (l.length - (i + 1)) (by omega) ⟨i + 1,_,rfl,rfl,by omega,fun p hp => ?_,he.Q0 JD⟩
     rw [← List.take_append_getElem hil] at hp
     rcases List.mem_append.1 hp with e | e
     · exact hall p e
     · rw [List.mem_singleton.1 e]; omega
 · have : i = l.length:=by omega
   subst this
   rw [List.take_length] at hall
   exact ⟨false,rfl,he,fun _ => ⟨by omega,hall⟩⟩
theorem Bc (h : Ps w v l) (hp : Pr l) (hw : Lw w) {ow : Nat} (ho : ow ≠ 0) : Q6 P VB [v,.int .u64 ow] w fun r w' => ∃ t,r = t.v ∧ Ct w' t l ∧ t.Sep ow ∧ t.Q1g ow ∧ (∀ b,t.All b → w.heap.size ≤ b) ∧ Ext No w w':=by
 have QmP:=hp.many
 refine Qcd ?_
 refine h.len ?_
 refine JN (fun n vs w' => ∃ (i : Nat) (out : Value),vs = [.int .i64 i,out] ∧ n = l.length - i ∧ i ≤ l.length ∧ SO w w' Zk out (l.take i) ∧ Ext No w w') l.length ⟨0,_,rfl,rfl,by omega,SO.nil _ _ _,Ext.refl _ _⟩ ?_
 rintro n vs g w1 ⟨i,out,rfl,rfl,hi,hso,he⟩
 refine ZF (fun hlt => ?_) fun hge => ?_
 · have hil : i < l.length:=by omega
   refine h.rd0 he i rfl hil fun kv Wq => ?_
   refine Qz fun b w2 hb hblk hz he2 => ?_
   refine JW hblk (by kernel_rfl) (by simp) ?_ fun w3 hb3 hz3 QE => ?_
   · intro u hu
     simp only [List.mem_cons,List.mem_nil_iff,or_false] at hu
     rcases hu with rfl | rfl
     · exact Wq.R9
     · rfl
   · have Sk : QZ w3 b [kv,u64 l[i].2] Qx:=by simpa using hb3
     have JD : Ext No w1 w3:=he2.Z0 QE (by omega)
     refine Sk.JH rfl ?_
     show Qs w3 [kv,u64 l[i].2] Zk _
     refine Qz fun a w4 ha hbl Ro Zl => ?_
     have hsl : Sl w4 (tyQ Zk) (.slice (some ⟨a,0,none⟩) 1 1) 2 1 [kv,u64 l[i].2]:=hbl.sln rfl
     refine SO.app (m:=[l[i]]) QnC (hso.Q4 (JD.Q0 Zl)) ((he.Q0 JD).Q0 Zl) hsl (PC.Q24 Wq (h.get hil)) (by simp; omega) fun out' w5 Q2t ZR _ _ => ?_
     refine xi (r:=((i + 1 : Nat) : Int)) (by rw [QQ (by omega)]; omega) ?_
     refine JP (l.length - (i + 1)) (by omega) ⟨i + 1,_,rfl,rfl,by omega,?_,ZR⟩
     rw [← List.take_append_getElem hil]
     exact Q2t
 · have : i = l.length:=by omega
   subst this
   rw [List.take_length] at hso
   have hw1:=hw.Q4 he
   have hb : Q6 P Bj [.pointer none,.int .u64 ow,out] w1 fun r w' => ∃ t,r = .tuple #[t.v,.int .i64 0] ∧ AJ w1 w' ow .nil t none (0 + t.er.size) ∧ Can t.er (look l) ∧ t.ZJ ∧ t.Q1g ow:=by
    have hps:=hso.ps he (.inl rfl)
    refine Q0S ?_
    refine (Qi0 hps (by omega)).mono ?_
    rintro r w2 ⟨⟨b,rfl,hb⟩,he2⟩
    have hck : checkN l b = 0:=by
     unfold checkN
     rw [if_pos hp.keys,hb.2 hp.rises]; rfl
    rw [hck]
    refine Qp rfl ?_
    have hm2 : Mt w2 none 0:=(hw1.Q4 he2).Ra
    refine (Go.Proofs.YtbnhggfiembejaaGreatDoor.Bc l.length (p:=[]) (Nat.le_refl _) (by omega) (hps.Q4 he2) hp.rises hp.keys (fun x _ => List.nil_prefix) (by simp) hm2 ho).mono ?_
    rintro r w3 ⟨t,rfl,hR,XE,Q7y,hown⟩
    refine ⟨t,rfl,⟨hR.tree,(he2.mono fun _ _ h => h.elim).trans hR.ext fun b hb h => h,hR.cnt,fun b hb => ?_,fun b hb => ?_,hR.sep⟩,XE,Q7y,hown⟩
    · have:=he2.size
      exact (hR.all b hb).imp id fun h => by omega
    · have:=he2.size
      exact (hR.foot b hb).imp id fun h => by omega
   refine hb.mono ?_
   rintro r w2 ⟨t,rfl,hR,XE,Q7y,hown⟩
   have hz:=he.size
   refine ⟨t,rfl,⟨hR.tree,XE,Q7y⟩,hR.sep,hown,fun b hb => by have:=hR.new hb; omega,?_⟩
   exact he.trans hR.YL fun b _ hb => by cases hb
theorem Sy {t : T} (hw : Lw w) (ht : Ct w t l) (hv : Ps w v l) (hp : Pr l) : Q6 P KF [t.v,v] w fun r w' => r = .bool true ∧ Ext No w w':=by
 have QmP:=hp.many
 refine Qh0 ?_
 refine (Xt hw.tab ht.tree ht.QR (ht.tree.Vw ht.can hp.rises hp.many)).mono ?_
 rintro r w1 ⟨rfl,he1⟩
 refine (Qea (by omega) (hv.Q4 he1) hp.rises hp.keys).mono ?_
 rintro r w2 ⟨e,cs,rfl,hrc,XE,he2⟩
 have heq:=XE.uniq ht.can
 refine (Qe9 e hrc XE.fine (by
  have h1:=E.Q1o hrc.within (XE.size hp.rises)
  omega)).mono ?_
 rintro r w3 ⟨rfl,QE⟩
 refine Q6I ?_
 rw [heq,decide_eq_true rfl]
 exact ⟨rfl,(he1.Q0 he2).Q0 QE⟩
end
end H7
end Go.Proofs.YtbnhggfiembejaaGreatDoor
