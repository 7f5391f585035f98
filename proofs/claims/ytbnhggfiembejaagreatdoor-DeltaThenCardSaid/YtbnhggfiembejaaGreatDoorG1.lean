import Derived.Test.YtbnhggfiembejaaGreatDoorBase
import Derived.Test.YtbnhggfiembejaaGreatDoorPut
import Derived.Test.YtbnhggfiembejaaGreatDoorConcat
import Derived.Test.YtbnhggfiembejaaGreatDoorEach
import Derived.Test.YtbnhggfiembejaaGreatDoorRefK
namespace Go.Proofs.YtbnhggfiembejaaGreatDoor
open Go Go.RowKit X
set_option linter.unusedSimpArgs false
set_option linter.unusedVariables false
set_option linter.unusedSectionVars false
section
theorem Ka {w : World} {K : Value → Prop} (t : T) (k : K (.bool true)) : YV P w t.v t.v K:=by
 show Ia P w (.pointer t.ptr) (.pointer t.ptr) _
 cases t.ptr with
 | none => exact k
 | some a => exact I9 (t:=true) (run_sameAddr_same _ _) k
theorem Y4 {w : World} {K : Value → Prop} (t : T) (k : K (.bool false)) : Y1 P w t.v t.v K:=by
 show Ia P w (.pointer t.ptr) (.pointer t.ptr) _
 cases t.ptr with
 | none => exact k
 | some a => exact I9 (t:=true) (run_sameAddr_same _ _) k
theorem QlR : Oth Qx:=by unfold Oth; decide
variable [Floor]
theorem Bs.new {w : World} {b : Nat} {k : Key} (h : QZ w b (k.map bv) Qm) : Bs w (.slice (some ⟨b,0,none⟩) k.length k.length) k:=by
 have:=h.sl (o:=0) (n:=k.length) (cap:=k.length) (by simp) (Nat.le_refl _)
 rw [List.drop_zero,List.take_of_length_le (by simp)] at this
 exact Bs.of this
theorem Pr.ins {l : Kv} {k : Key} {x : Nat} (h : Pr l) (hk : k.length ≤ 65535) (hm : l.length < 100000) : Pr (EB l k x) :=
 ⟨Q7r h.rises k x,fun p hp => by rcases Qdx hp with rfl | hp; exact hk; exact h.keys p hp,by have:=Sg l k x; omega⟩
theorem Pr.sort {l : Kv} (hl : l.length ≤ 100000) (hk : ∀ p ∈ l,p.1.length ≤ 65535) : Pr (Kj l):=⟨C9 l,fun p h => hk p (Qa4 h),Nat.le_trans (Yd l) hl⟩
theorem Ct.put {w w' : World} {t t' : T} {l : Kv} {o n n' x : Nat} {mt : Option Y3} {k : Key} (h : Ct w t l) (hp : Zp l) (hP : Rm w w' o t t' mt n n' k x) : Ct w' t' (EB l k x) :=
 ⟨hP.res.tree,by rw [hP.er]; exact (h.can.put k x).congr fun k' => (Qad hp k x k').symm,hP.QR h.QR⟩
theorem Tree.nbpX {w : World} {t : T} {X : Nat → Prop} (h : Tree w t) (hx : ∀ b,X b → t.All b) : NBP w X:=by
 refine ⟨h.nbX hx,fun b hb _ => ?_,fun b hb _ => ?_⟩
 · obtain ⟨cs,T',h1,h2⟩:=h.ty (hx b hb)
   refine ⟨h.fl (hx b hb),cs,T',h1,fun e => ?_⟩
   subst e; rcases h2 with h2 | h2
   · exact absurd h2 (by decide)
   · rcases h2 with h2 | h2 | h2 | h2 | h2 <;> exact absurd h2 (by decide)
 · obtain ⟨cs,T',h1,h2⟩:=h.ty (hx b hb)
   exact ⟨h.fl (hx b hb),cs,T',h1,QlR.nt h2⟩
theorem NBP.or {w : World} {X Y : Nat → Prop} (h : NBP w X) (h' : NBP w Y) : NBP w (fun b => X b ∨ Y b) :=
 ⟨h.b.or h'.b,fun b hb hs => hb.elim (fun hb => h.2 b hb hs) fun hb => h'.2 b hb hs,fun b hb hs => hb.elim (fun hb => h.3 b hb hs) fun hb => h'.3 b hb hs⟩
section
variable {w : World} {v vk : Value} {l : Kv} {k : Key} {x : Nat}
theorem QnV (h : Ps w v l) (hk : Bs w vk k) (hx : x < 18446744073709551616) (hl : l.length ≤ 100000) (hks : ∀ p ∈ l,p.1.length ≤ 65535) (hkl : k.length ≤ 65535) :
  Q6 P RX [v,vk,.int .u64 x] w fun r w' => Ps w' r (Kj (l ++ [(k,x)])) ∧ Ext No w w':=by
 refine QeK ?_
 obtain ⟨T0,cells,hT0,h1,h2⟩:=id h
 refine SO.app (l:=[]) (m:=l) Mv (SO.nil w w Qx) (Ext.refl _ _) h1 h2 (by simp; omega) fun v1 w1 hso1 he1 _ _ => ?_
 obtain ⟨ad,cap,rfl⟩:=hk.slice
 show Qs w1 [.slice ad k.length cap,u64 x] Qx _
 refine Qz fun a w2 ha hbl hz2 he2 => ?_
 have hsl : Sl w2 (tyQ Qx) (.slice (some ⟨a,0,none⟩) 1 1) 2 1 [.slice ad k.length cap,u64 x]:=hbl.sln rfl
 refine SO.app (m:=[(k,x)]) Mv (hso1.Q4 he2) (he1.Q0 he2) hsl (PC.Q24 hk hx) (by simp; omega) fun v2 w3 Q9k QE _ _ => ?_
 have hmem : ∀ p ∈ [] ++ l ++ [(k,x)],p.1.length ≤ 65535:=fun p hp => by
  simp only [List.nil_append,List.mem_append,List.mem_singleton] at hp
  rcases hp with hp | rfl
  · exact hks p hp
  · exact hkl
 refine (BB (Q9k.ps QE (.inr rfl)) (by simp; omega) (fun p hp => by have:=hmem p hp; omega)).mono ?_
 rintro r w4 ⟨Qg4,Zl⟩
 exact ⟨Qg4.ps Zl (.inr rfl),QE.Q0 Zl⟩
end
end
section
variable [Floor]
abbrev FX (o : Nat) (mt : Option Y3) (t : T) : Nat → Prop:=fun b => MX mt b ∨ t.Bt o b
theorem FX.nbp {w : World} {t : T} {o n : Nat} {mt : Option Y3} (ht : Tree w t) (hm : Mt w mt n) : NBP w (FX o mt t):=hm.nbp.or (ht.nbpX fun b hb => hb.all)
theorem FX.not {w : World} {t : T} {o n b : Nat} {mt : Option Y3} {cs : List Value} {T : TypeId} (ht : Tree w t) (hm : Mt w mt n) (hb : QZ w b cs T) (ho : Oth T) (hT : NoM T) : ¬ FX o mt t b:=fun h => h.elim (hm.ne hb hT) fun h => ht.not hb ho h.all
theorem Lw.fx {w w' : World} {t : T} {o n : Nat} {mt : Option Y3} (h : Lw w) (ht : Tree w t) (hm : Mt w mt n) (e : Ext (FX o mt t) w w') : Lw w':=h.ext e fun b hb => hb.elim (fun h => hm.flX h) fun h => ht.fl h.all
theorem Ext.fx {w w1 w2 : World} {t : T} {o b : Nat} (h : Ext No w w1) (e : Ext (FX o (some b) t) w1 w2) (hb : w.heap.size ≤ b) (ht : ∀ c,t.All c → w.heap.size ≤ c) : Ext No w w2 :=
 h.trans e fun c hc hx => by
  rcases hx with hx | hx
  · obtain rfl : b = c:=hx
    omega
  · have:=ht c hx.all; omega
end
section
variable [Floor]
end
section
variable [Floor]
theorem Ct.keep {w w' : World} {t : T} {l : Kv} {X : Nat → Prop} (h : Ct w t l) (e : Ext X w w') (nb : NB w X) (hx : ∀ b,t.All b → ¬ X b) : Ct w' t l:=⟨h.tree.ext e nb hx,h.can,h.QR⟩
end
section
def Sq (k : Key) (l : Kv) : Kv:=l.filter fun p => !decide (p.1 = k)
theorem QiQ (k : Key) (l : Kv) (k' : Key) : look (Sq k l) k' = if k' = k then none else look l k':=by
 unfold Sq
 induction l with
 | nil => rw [List.filter_nil]; split <;> rfl
 | cons p r ih =>
   rw [List.filter_cons]
   by_cases h : p.1 = k
   · rw [if_neg (by simp [h]),ih]
     split
     · rfl
     · rename_i hk
       show look r k' = if p.1 = k' then some p.2 else look r k'
       rw [if_neg fun e => hk (by rw [← e,h])]
   · rw [if_pos (by simp [h])]
     show (if p.1 = k' then some p.2 else look (r.filter fun p => !decide (p.1 = k)) k') = _
     rw [ih]
     by_cases e : p.1 = k'
     · rw [if_pos e,if_neg fun e' => h (e.trans e')]
       show _ = if p.1 = k' then some p.2 else look r k'
       rw [if_pos e]
     · rw [if_neg e]
       split
       · rfl
       · show _ = if p.1 = k' then some p.2 else look r k'
         rw [if_neg e]
theorem Qgp {k : Key} {l : Kv} {i : Nat} (h : i < l.length) : Sq k (l.take (i + 1)) = Sq k (l.take i) ++ (if l[i].1 = k then [] else [l[i]]):=by
 rw [← List.take_append_getElem h]
 unfold Sq
 rw [List.filter_append]
 congr 1
 by_cases e : l[i].1 = k
 · rw [if_pos e]; simp [e]
 · rw [if_neg e]; simp [e]
theorem OZ (k : Key) (l : Kv) : (Sq k l).length ≤ l.length:=List.length_filter_le _ _
def Qjj (k : Key) (l : Kv) : Bool:=l.any fun p => decide (p.1 = k)
theorem Qji {k : Key} {l : Kv} {i : Nat} (h : i < l.length) : Qjj k (l.take (i + 1)) = (Qjj k (l.take i) || decide (l[i].1 = k)):=by
 unfold Qjj
 rw [← List.take_append_getElem h,List.any_append]
 simp only [List.any_cons,List.any_nil,Bool.or_false]
variable [Floor]
theorem Pr.drop {l : Kv} (h : Pr l) (k : Key) : Pr (Sq k l):=⟨List.Pairwise.filter _ h.rises,fun p hp => h.keys p (List.mem_filter.1 hp).1,Nat.le_trans (OZ k l) h.many⟩
theorem Ct.del {w w' : World} {t t' : T} {l : Kv} {o n n' : Nat} {mt : Option Y3} {k : Key} (h : Ct w t l) (hP : Q4Q w w' o t t' mt n n' (Nn t.er k)) : Ct w' t' (Sq k l) :=
 ⟨hP.res.tree,by rw [hP.er]; exact (h.can.del k).congr fun k' => (QiQ k l k').symm,hP.QR h.QR⟩
section
variable {w : World} {v vk : Value} {l : Kv} {k : Key}
theorem QnU (h : Ps w v l) (hk : Bs w vk k) (hl : l.length ≤ 100000) (hks : ∀ x ∈ l,x.1.length ≤ 65535) : Q6 P RV [v,vk] w fun r w' => ∃ out,r = .tuple #[out,.bool (Qjj k l)] ∧ SO w w' Qx out (Sq k l) ∧ Ext No w w':=by
 refine QeJ ?_
 refine JN (fun n vs w' => ∃ (i : Nat) (out : Value),vs = [.int .i64 i,.bool (Qjj k (l.take i)),out] ∧ n = l.length - i ∧ i ≤ l.length ∧ SO w w' Qx out (Sq k (l.take i)) ∧ Ext No w w') l.length ⟨0,_,rfl,rfl,by omega,SO.nil _ _ _,Ext.refl _ _⟩ ?_
 rintro n vs g w1 ⟨i,out,rfl,rfl,hi,hso,he⟩
 unfold Tz
 refine h.len ?_
 refine ZF (fun hlt => ?_) fun hge => ?_
 · have hil : i < l.length:=by omega
   refine xj (fun vs w' => ∃ out',vs = [.bool (Qjj k (l.take (i + 1))),out'] ∧ SO w w' Qx out' (Sq k (l.take (i + 1))) ∧ Ext No w w') ?_ ?_
   · rw [Qgp hil,Qji hil]
     refine (h.Q4 he).key i rfl hil fun kv Wq => ?_
     refine (Q6D Wq (hk.Q4 he) (by have:=hks _ (List.getElem_mem hil); omega)).mono ?_
     rintro r w2 ⟨rfl,he2⟩
     refine ZF (fun hb => ?_) fun hb => ?_
     · rw [if_pos hb,List.append_nil,decide_eq_true hb,Bool.or_true]
       exact ⟨_,rfl,hso.Q4 he2,he.Q0 he2⟩
     · rw [if_neg hb,decide_eq_false hb,Bool.or_false]
       refine h.rd0 (he.Q0 he2) i rfl hil fun kv Wq => ?_
       show Qs w2 [kv,u64 l[i].2] Qx _
       refine Qz fun a w3 ha hbl hz QE => ?_
       have hsl : Sl w3 (tyQ Qx) (.slice (some ⟨a,0,none⟩) 1 1) 2 1 [kv,u64 l[i].2]:=hbl.sln rfl
       have hle:=OZ k (l.take i)
       refine SO.app (m:=[l[i]]) Mv (hso.Q4 (he2.Q0 QE)) ((he.Q0 he2).Q0 QE) hsl (PC.Q24 Wq (h.get hil)) (by simp at hle ⊢; omega) fun out' w4 Qg4 Zl _ _ => ⟨_,rfl,Qg4,Zl⟩
   · rintro vs g w2 ⟨out',rfl,Q5S,he2⟩
     refine xi (r:=((i + 1 : Nat) : Int)) (by rw [QQ (by omega)]; omega) ?_
     exact JP (l.length - (i + 1)) (by omega) ⟨i + 1,_,rfl,rfl,by omega,Q5S,he2⟩
 · have : i = l.length:=by omega
   subst this
   rw [List.take_length] at hso ⊢
   exact ⟨_,rfl,hso,he⟩
end
end
section
variable [Floor]
end
section
variable [Floor]
end
def Bss [Floor] (w : World) (v : Value) (ks : List Key) : Prop:=∃ cells : List Value,Sl w (fun b _ => b < Floor.n) v 1 ks.length cells ∧ ∀ (i : Nat) (k : Key),ks[i]? = some k → ∃ kv,cells[i]? = some kv ∧ Bs w kv k
section
variable [Floor] {w w' : World} {v : Value} {ks : List Key}
theorem Bss.ext {X : Nat → Prop} (h : Bss w v ks) (e : Ext X w w') (hx : NB w X) : Bss w' v ks:=by
 obtain ⟨cells,h1,h2⟩:=h
 exact ⟨cells,Sl.ext h1 e fun b _ _ _ hb hh hX => by have:=(hx b hX (U4 hh)).1; omega,fun i k hk => let ⟨kv,h3,h4⟩:=h2 i k hk; ⟨kv,h3,h4.ext e hx⟩⟩
theorem Bss.Q4 (h : Bss w v ks) (e : Ext No w w') : Bss w' v ks:=h.ext e (NB.no w)
theorem Bss.len {K : Value → Prop} (h : Bss w v ks) (k : K (.int .i64 ks.length)) : Zq v K:=let ⟨_,h1,_⟩:=h; KN h1 k
theorem Bss.rd {K : Value → Prop} {ki : IntKind} {i : Int} (h : Bss w v ks) (m : Nat) (hi : i = (m : Int)) (hm : m < ks.length) (k : ∀ kv,Bs w kv ks[m] → K kv) : Zb v (.int ki i) 1 fun u => Z6 u fun a => QC w a K:=by
 obtain ⟨cells,h1,h2⟩:=h
 obtain ⟨kv,h3,h4⟩:=h2 m ks[m] (List.getElem?_eq_getElem hm)
 exact Sl.rd1 h1 m hi hm h3 (k kv h4)
theorem Bss.R9 (h : Bss w v ks) : v.oneCell' = true:=by
 obtain ⟨cells,⟨a,cap,rfl,-⟩,-⟩:=h
 rfl
end
end Go.Proofs.YtbnhggfiembejaaGreatDoor
