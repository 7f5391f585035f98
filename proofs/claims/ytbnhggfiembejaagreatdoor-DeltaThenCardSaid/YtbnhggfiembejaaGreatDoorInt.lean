import Derived.Test.YtbnhggfiembejaaGreatDoorUni14
import Derived.Test.YtbnhggfiembejaaGreatDoorLeft
import Derived.Test.YtbnhggfiembejaaGreatDoorSAi
import Derived.Test.YtbnhggfiembejaaGreatDoorList
import Derived.Test.YtbnhggfiembejaaGreatDoorRefV
section
namespace Go.Proofs.YtbnhggfiembejaaGreatDoor
open Go Go.RowKit X
set_option linter.unusedSimpArgs false
set_option linter.unusedVariables false
set_option linter.unusedSectionVars false
def U8 (p : Nat) : Option Nat → Option Nat → Option Nat
 | some a,some b => some (CF p a b)
 | _,_ => none
def gI (p : Nat) (a b : E) (oa ob : Nat) (k : Key) : Option Nat:=U8 p (a.get k) ((W9 ob b).get (k.drop oa))
theorem E.Nj {e : E} (hf : e.ZV) (h : e ≠ .nil) : ∃ k v,e.get k = some v:=by
 refine hf.V8 fun e' => ?_
 exact h e'
variable [Floor]
section
variable {ap bp : Key} {av bv' : Option Nat} {ak bk : UInt8 → E} {p oa ob : Nat}
end
section
variable {w w' : World} {a b : T} {p o n oa ob off m : Nat} {mt : Option Y3}
structure IR (w w' : World) (p : Nat) (a b : T) (oa ob : Nat) (t' : T) (mt : Option Y3) (n n' : Nat) : Prop where
 tree : Tree w' t'
 cnt : Mt w' mt n'
 ext : Ext (MX mt) w w'
 all : ∀ c,t'.All c → a.All c ∨ w.heap.size ≤ c
 QR : t'.ZJ
 can : Can t'.er (gI p a.er b.er oa ob)
 idle : (∀ k,gI p a.er b.er oa ob k = a.er.get k) → t' = a ∧ n' = n
theorem IR.from' {w0 : World} {t' : T} {n' : Nat} (h : IR w w' p a b oa ob t' mt n n') (e : Ext No w0 w) : IR w0 w' p a b oa ob t' mt n n' :=
 ⟨h.tree,h.cnt,(e.mono fun _ _ h => h.elim).QI h.ext,fun c hc => (h.all c hc).imp id fun h => by have:=e.size; omega,h.QR,h.can,h.idle⟩
theorem IR.none (hf : a.er.ZV) (hm : Mt w mt n) (h : ∀ k,gI p a.er b.er oa ob k = none) : IR w w p a b oa ob .nil mt n n :=
 ⟨trivial,hm,Ext.refl _ _,fun c hc => hc.elim,trivial,Can.nil.congr fun k => (h k).symm,fun hk => by
  refine ⟨?_,rfl⟩
  cases a with
  | nil => rfl
  | node =>
    obtain ⟨k,v,Wq⟩:=E.Nj hf (by simp [T.er])
    have:=hk k
    rw [h k,Wq] at this
    cases this⟩
end
end Go.Proofs.YtbnhggfiembejaaGreatDoor
end
section
namespace Go.Proofs.YtbnhggfiembejaaGreatDoor
open Go Go.RowKit X
set_option linter.unusedSimpArgs false
set_option linter.unusedVariables false
set_option linter.unusedSectionVars false
variable [Floor]
theorem Qvt : EI P Yu J5 2 16 (.agg #[.int .u8 0,.pointer none]):=⟨by kernel_rfl,by kernel_rfl,by rfl,by omega⟩
section
variable {w w' : World} {v : Value} {l : List (UInt8 × T)} {mt : Option Y3} {n n' o p x B nn : Nat} {t t' : T} {xs : List Value} {e : E}
theorem Q3x.from' {w0 : World} (h : Q3x w w' t l e o t' mt n n') (he : Ext No w0 w) : Q3x w0 w' t l e o t' mt n n' :=
 ⟨h.tree,h.er,h.QR,h.own,fun b hb => (h.all b hb).imp id fun h => h.imp id fun h => by have:=he.size; omega,h.cnt,h.le,(he.mono fun _ _ h => h.elim).QI h.ext⟩
theorem Own.Qdr (h : Own w B J5 2 v nn xs) {b : Nat} {cs : List Value} {T : TypeId} (hb : QZ w b cs T) (ht : T ≠ J5) : v.ownBlock ≠ some b:=fun hv => Own.neK h hb (fun e => ht e.symm) hv
theorem Own.kidM (h : Own w B J5 2 v nn xs) (hm : Mt w mt n) (e : Ext (MX mt) w w') : Own w' B J5 2 v nn xs:=h.ext e fun b hv hb => by
 obtain ⟨-,cs,T',h1,h2⟩:=hm.nbt (T:=J5) (by decide) b hb (h.ge hv).2
 exact Own.Qdr h h1 h2 hv
theorem Tree.Qu8 (ht : Tree w t) (h : Own w B J5 2 v nn xs) (hf : Floor.n ≤ B) (e : Ext (fun b => v.ownBlock = some b) w w') : Tree w' t:=Tree.ext e (Own.nb1 h hf (by decide)) ht fun b hb hv => by
 obtain ⟨cs,T',h1,h2⟩:=ht.ty hb
 exact Own.Qdr h h1 ((show Oth J5 by unfold Oth; decide).nt h2) hv
theorem Mt.Qu8 (hm : Mt w mt n) (h : Own w B J5 2 v nn xs) (e : Ext (fun b => v.ownBlock = some b) w w') : Mt w' mt n:=hm.ext e fun b hb hv => by
 obtain ⟨-,cs,T',h1,h2⟩:=hm.nbt (T:=J5) (by decide) b hb (h.ge hv).2
 exact Own.Qdr h h1 h2 hv
section
variable {a ow : Nat} {part : Key} {v0 val : Option Nat} {ks : List Nat} {kids : UInt8 → T}
end
end
structure LO (w : World) (B : Nat) (v : Value) (l : List (UInt8 × T)) : Prop where
 row : ∃ cells,Own w B J5 2 v l.length cells ∧ ∀ (i : Nat) (p : UInt8 × T),l[i]? = some p → cells[i * 2]? = some (bv p.1) ∧ cells[i * 2 + 1]? = some p.2.v
 tree : ∀ p ∈ l,Tree w p.2
section
variable {w w' : World} {v : Value} {l : List (UInt8 × T)} {mt : Option Y3} {n B : Nat}
theorem LO.YL (h : LO w B v l) (hm : Mt w mt n) (e : Ext (MX mt) w w') : LO w' B v l:=by
 obtain ⟨cells,h1,h2⟩:=h.row
 exact ⟨⟨cells,Own.kidM h1 hm e,h2⟩,fun p hp => (h.tree p hp).YL hm e⟩
theorem LO.Q4 (h : LO w B v l) (e : Ext No w w') : LO w' B v l:=by
 obtain ⟨cells,h1,h2⟩:=h.row
 exact ⟨⟨cells,h1.Q4 e,h2⟩,fun p hp => (h.tree p hp).Q4 e⟩
theorem LO.lk (h : LO w B v l) (hs : ∀ p ∈ l,p.2 ≠ .nil) (hu : UpK l) (hl : l.length ≤ 256) : LK w v l:=by
 obtain ⟨cells,h1,h2⟩:=h.row
 exact ⟨⟨cells,h1.sl,h2⟩,h.tree,hs,hu,hl⟩
theorem LO.push (h : LO w B v l) (hf : Floor.n ≤ B) (hB : B ≤ w.heap.size) (hm : Mt w mt n) {c : UInt8} {t : T} (ht : Tree w t) (hl : l.length ≤ 256) {K : Value → World → Prop}
  (k : ∀ v' w',LO w' B v' (l ++ [(c,t)]) → Mt w' mt n → (∀ u : T,Tree w u → Tree w' u) → (∀ w0 : World,∀ X,Ext X w0 w → w0.heap.size ≤ B → Ext X w0 w') → (∀ b cs T,QZ w b cs T → T ≠ J5 → QZ w' b cs T) → K v' w') :
  Qs w [bv c,t.v] J5 fun a w1 => Jv P (Builtin.append_ #[Yu,Yu] Yu #[v,.slice (some a) 1 1]) w1 K:=by
 obtain ⟨cells,h1,h2⟩:=h.row
 refine Qz fun b w1 hb hblk hz he1 => ?_
 have hsl : Sl w1 (tyQ J5) (.slice (some ⟨b,0,none⟩) 1 1) 2 1 [bv c,t.v]:=hblk.sln rfl
 have h11:=h1.Q4 he1
 refine Vi Qvt h11 (Nat.le_trans hB he1.size) hsl (fun u hu => ?_) (by omega) (by omega) fun v' w2 ho2 he2 _ _ => ?_
 · simp only [List.mem_cons,List.mem_nil_iff,or_false] at hu
   rcases hu with rfl | rfl <;> rfl
 have htr : ∀ u : T,Tree w u → Tree w2 u:=fun u hu => Tree.Qu8 (hu.Q4 he1) h11 hf he2
 refine k v' w2 ⟨⟨_,by rw [List.length_append]; exact ho2,fun i p hp => ?_⟩,fun p hp => ?_⟩ (Mt.Qu8 (hm.Q4 he1) h11 he2) htr (fun w0 X e0 h0 => Ext.own (e0.Q0 he1) h11 h0 he2) fun b' cs T hb' hT => (hb'.ext he1 fun h => h).ext he2 fun hv => Own.Qdr h11 (hb'.ext he1 fun h => h) hT hv
 · have hcl : cells.length = l.length * 2:=h1.len
   rcases Nat.lt_trichotomy i l.length with hlt | heq | hgt
   · rw [List.getElem?_append_left hlt] at hp
     obtain ⟨g1,g2⟩:=h2 i p hp
     exact ⟨by rw [List.getElem?_append_left (by omega)]; exact g1,by rw [List.getElem?_append_left (by omega)]; exact g2⟩
   · subst heq
     rw [List.getElem?_append_right (by omega)] at hp
     simp at hp
     subst hp
     exact ⟨by rw [List.getElem?_append_right (by omega),hcl]; simp,by rw [List.getElem?_append_right (by omega),hcl,show l.length * 2 + 1 - l.length * 2 = 1 by omega]; rfl⟩
   · rw [List.getElem?_eq_none (by simp; omega)] at hp; cases hp
 · rcases List.mem_append.1 hp with hp | hp
   · exact htr _ (h.tree p hp)
   · rw [List.mem_singleton.1 hp]; exact htr _ ht
end
end Go.Proofs.YtbnhggfiembejaaGreatDoor
end
section
namespace Go.Proofs.YtbnhggfiembejaaGreatDoor
open Go Go.RowKit X
set_option linter.unusedSimpArgs false
set_option linter.unusedVariables false
set_option linter.unusedSectionVars false
variable [Floor]
structure LV (w0 w' : World) (p : Nat) (Q7 Qd : UInt8 → T) (d : List UInt8) (l : List (UInt8 × T)) (v : Value) (mt : Option Y3) (n n1 : Nat) : Prop where
 lo : LO w' w0.heap.size v l
 sm : ∀ q ∈ l,q.2 ≠ .nil ∧ q.2.ZJ ∧ q.1 ∈ d ∧ ∀ b,q.2.All b → (Q7 q.1).All b ∨ w0.heap.size ≤ b
 up : UpK l
 len : l.length ≤ d.length
 can : ∀ c ∈ d,Can (Xi l c).er (gI p (Q7 c).er (Qd c).er 0 0)
 idle : (∀ c ∈ d,∀ k,gI p (Q7 c).er (Qd c).er 0 0 k = (Q7 c).er.get k) → l = d.map (fun c => (c,Q7 c)) ∧ n1 = n
 cnt : Mt w' mt n1
 ext : Ext (MX mt) w0 w'
theorem Q6m {l : List (UInt8 × T)} {c : UInt8} (h : ∀ q ∈ l,q.1 ≠ c) : Xi l c = .nil:=by
 by_cases e : Xi l c = .nil
 · exact e
 · obtain ⟨q,hq,e1,-⟩:=Ca e
   exact absurd e1 (h q hq)
theorem WZ {w : World} {t : T} (h : t ≠ .nil) {K : Value → Prop} (k : K (.bool true)) : Y1 P w t.v (.pointer none) K:=by
 cases t with
 | nil => exact absurd rfl h
 | node => exact k
section
variable {w w0 w' w9 : World} {p n n1 n2 : Nat} {Q7 Qd : UInt8 → T} {d rest : List UInt8} {l : List (UInt8 × T)} {v : Value} {mt : Option Y3} {c : UInt8} {t' : T}
theorem LV.skip (h : LV w0 w p Q7 Qd d l v mt n n1) (hcd : c ∉ d) (hne : Q7 c ≠ .nil) (hR : IR w w' p (Q7 c) (Qd c) 0 0 .nil mt n1 n2) : LV w0 w' p Q7 Qd (d ++ [c]) l v mt n n2:=by
 refine ⟨h.lo.YL h.cnt hR.ext,fun q hq => ⟨(h.sm q hq).1,(h.sm q hq).2.1,List.mem_append_left _ (h.sm q hq).2.2.1,(h.sm q hq).2.2.2⟩,h.up,by simp; have:=h.len; omega,fun c' hc' => ?_,fun hi => ?_,hR.cnt,h.ext.QI hR.ext⟩
 · rcases List.mem_append.1 hc' with hc' | hc'
   · exact h.can c' hc'
   · obtain rfl:=List.mem_singleton.1 hc'
     rw [Q6m fun q hq e => hcd (by have:=(h.sm q hq).2.2.1; rw [e] at this; exact this)]
     exact hR.can
 · exact absurd (hR.idle fun k => hi c (by simp) k).1.symm hne
theorem LV.more {v' : Value} (h : LV w0 w p Q7 Qd d l v mt n n1) (hcd : c ∉ d) (hup : ∀ c' ∈ d,c'.toNat < c.toNat) (hn : t' ≠ .nil) (hR : IR w w9 p (Q7 c) (Qd c) 0 0 t' mt n1 n2) (hlo : LO w' w0.heap.size v' (l ++ [(c,t')])) (hm : Mt w' mt n2) (he : Ext (MX mt) w0 w') : LV w0 w' p Q7 Qd (d ++ [c]) (l ++ [(c,t')]) v' mt n n2:=by
 have hno : ∀ q ∈ l,q.1 ≠ c:=fun q hq e => hcd (e ▸ (h.sm q hq).2.2.1)
 have hz:=h.ext.size
 refine ⟨hlo,fun q hq => ?_,?_,by simp; exact h.len,fun c' hc' => ?_,fun hi => ?_,hm,he⟩
 · rcases List.mem_append.1 hq with hq | hq
   · exact ⟨(h.sm q hq).1,(h.sm q hq).2.1,List.mem_append_left _ (h.sm q hq).2.2.1,(h.sm q hq).2.2.2⟩
   · obtain rfl:=List.mem_singleton.1 hq
     exact ⟨hn,hR.QR,by simp,fun b hb => (hR.all b hb).imp id fun h => by omega⟩
 · refine List.pairwise_append.2 ⟨h.up,List.pairwise_singleton _ _,fun q hq r hr => ?_⟩
   rw [List.mem_singleton.1 hr]
   exact hup _ (h.sm q hq).2.2.1
 · rw [Q01 hno]
   show Can (Zt (Xi l) c t' c').er _
   rcases List.mem_append.1 hc' with hc' | hc'
   · rw [WJ _ _ (fun e : c' = c => hcd (by rw [← e]; exact hc'))]
     exact h.can c' hc'
   · obtain rfl:=List.mem_singleton.1 hc'
     rw [Vo]
     exact hR.can
 · obtain ⟨h1,h2⟩:=hR.idle fun k => hi c (by simp) k
   obtain ⟨h3,h4⟩:=h.idle fun c' hc' => hi c' (List.mem_append_left _ hc')
   rw [List.map_append,← h3,h1]
   exact ⟨rfl,h2.trans h4⟩
end
section
variable {w : World} {aa Jk ba KZ o p n oa ob M : Nat} {apart Qi : Key} {Qq QW : Option Nat} {ZO Km : List Nat} {Q7 Qd : UInt8 → T} {mt : Option Y3}
end
end Go.Proofs.YtbnhggfiembejaaGreatDoor
end
section
namespace Go.Proofs.YtbnhggfiembejaaGreatDoor
open Go Go.RowKit X
set_option linter.unusedSimpArgs false
set_option linter.unusedVariables false
set_option linter.unusedSectionVars false
variable [Floor]
section
variable {w : World} {aa Jk ba KZ o p n oa ob M : Nat} {apart Qi : Key} {Qq QW : Option Nat} {ZO Km : List Nat} {Q7 Qd : UInt8 → T} {mt : Option Y3} {b : T} {y : UInt8}
end
end Go.Proofs.YtbnhggfiembejaaGreatDoor
end
section
namespace Go.Proofs.YtbnhggfiembejaaGreatDoor
open Go Go.RowKit X
set_option linter.unusedSimpArgs false
set_option linter.unusedVariables false
set_option linter.unusedSectionVars false
variable [Floor]
section
variable {w : World} {a b : T} {l m : Kv} {o n p : Nat} {mt : Option Y3} {z : Int} {va vb : Value}
end
end Go.Proofs.YtbnhggfiembejaaGreatDoor
end
