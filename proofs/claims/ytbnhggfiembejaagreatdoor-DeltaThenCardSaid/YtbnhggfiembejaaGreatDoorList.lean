import Derived.Test.YtbnhggfiembejaaGreatDoorEach
import Derived.Test.YtbnhggfiembejaaGreatDoorPs
import Derived.Test.YtbnhggfiembejaaGreatDoorRefK
namespace Go.Proofs.YtbnhggfiembejaaGreatDoor
open Go Go.RowKit X
set_option linter.unusedSimpArgs false
set_option linter.unusedVariables false
set_option linter.unusedSectionVars false
variable [Floor]
theorem Own.nb1 {w : World} {B : Nat} {e : TypeId} {sz n : Nat} {v : Value} {xs : List Value} (h : Own w B e sz v n xs) (hf : Floor.n ≤ B) {T : TypeId} (ht : e ≠ T) : NBT T w (fun b => v.ownBlock = some b):=fun b hb _ => by
 rcases h.2 with ⟨rfl,-⟩ | ⟨g,cap,cur,rfl,hg,hc,-⟩
 · cases hb
 · simp only [Value.ownBlock,Option.some.injEq] at hb
   subst hb
   exact ⟨by omega,cur.toList,e,⟨hc⟩,ht⟩
theorem Qov {w : World} {va : Value} {a : List UInt8} (ha : Bs w va a) (la : a.length ≤ 140737488355328) : Q6 P VM [va] w fun v w' => Own w' w.heap.size Qm 1 v a.length (a.map bv) ∧ Ext No w w':=by
 refine Q0T ?_
 obtain ⟨ad,cap,rfl⟩:=ha.slice
 cases ad with
 | none =>
   have : a = []:=by
    obtain ⟨ad,cap',h,hl,hc,hx⟩:=ha
    simp only [Value.slice.injEq] at h
    obtain ⟨rfl,-,rfl⟩:=h
    exact List.eq_nil_of_length_eq_zero (by have : cap = 0:=hx; omega)
   subst this
   exact ⟨Own.nil w _ Qm 1,Ext.refl _ _⟩
 | some ad =>
   refine Qz fun b w1 hb hblk hsz he => ?_
   refine Vi Uq (B:=w.heap.size) (n:=0) (xs:=[]) (m:=a.length) ⟨rfl,.inr ⟨b,0,_,rfl,by omega,hblk.h,by omega,by decide,rfl,rfl⟩⟩ (by omega) (ha.Q4 he) ha.one (by omega) (by omega) fun v' w' ho h1 _ _ => ?_
   refine ⟨by simpa using ho,he.Z0 (b:=b) (h1.mono fun c _ h => ?_) (by omega)⟩
   simp only [Value.ownBlock,Option.some.injEq] at h
   exact h.symm
theorem Own.neK {w : World} {B : Nat} {e : TypeId} {sz n : Nat} {v : Value} {xs : List Value} (h : Own w B e sz v n xs) {b : Nat} {cs : List Value} {T : TypeId} (hb : QZ w b cs T) (ht : e ≠ T) (hv : v.ownBlock = some b) : False:=by
 rcases h.2 with ⟨rfl,-⟩ | ⟨g,cap,cur,rfl,-,hg,-⟩
 · cases hv
 · simp only [Value.ownBlock,Option.some.injEq] at hv
   subst hv
   have:=hg.symm.trans hb.h
   simp at this
   exact ht this.2
structure PCo (w : World) (B : Nat) (l : Kv) (cells : List Value) : Prop where
 len : cells.length = l.length * 2
 at_ : ∀ i p,l[i]? = some p → ∃ kv,cells[i * 2]? = some kv ∧ Own w B Qm 1 kv p.1.length (p.1.map bv) ∧ cells[i * 2 + 1]? = some (u64 p.2) ∧ p.2 < 18446744073709551616
theorem PCo.pc {w : World} {B : Nat} {l : Kv} {cells : List Value} (h : PCo w B l cells) : PC w l cells :=
 ⟨h.len,fun i p hp => let ⟨kv,h1,h2,h3⟩:=h.at_ i p hp; ⟨kv,h1,Bs.of h2.sl,h3⟩⟩
theorem PCo.ext {w w' : World} {B : Nat} {X : Nat → Prop} {l : Kv} {cells : List Value} (h : PCo w B l cells) (e : Ext X w w') (hx : ∀ kv ∈ cells,∀ b,kv.ownBlock = some b → ¬ X b) : PCo w' B l cells :=
 ⟨h.len,fun i p hp => let ⟨kv,h1,h2,h3⟩:=h.at_ i p hp; ⟨kv,h1,h2.ext e (hx kv (List.mem_of_getElem? h1)),h3⟩⟩
def KB (cells : List Value) (b : Nat) : Prop:=∃ kv ∈ cells,kv.ownBlock = some b
theorem PCo.kb {w : World} {B : Nat} {l : Kv} {cells : List Value} (h : PCo w B l cells) {b : Nat} (hb : KB cells b) : ∃ k : Key,∃ kv,kv.ownBlock = some b ∧ Own w B Qm 1 kv k.length (k.map bv):=by
 obtain ⟨kv,hm,hk⟩:=hb
 obtain ⟨j,hj,rfl⟩:=List.mem_iff_getElem.1 hm
 have hl:=h.len
 obtain ⟨kv',h1,h2,h3,-⟩:=h.at_ (j / 2) l[j / 2] (List.getElem?_eq_getElem (by omega))
 rcases Nat.mod_two_eq_zero_or_one j with e | e
 · rw [show j / 2 * 2 = j by omega,List.getElem?_eq_getElem hj] at h1
   obtain rfl:=Option.some.inj h1
   exact ⟨_,_,hk,h2⟩
 · rw [show j / 2 * 2 + 1 = j by omega,List.getElem?_eq_getElem hj] at h3
   rw [Option.some.inj h3] at hk
   cases hk
end Go.Proofs.YtbnhggfiembejaaGreatDoor
