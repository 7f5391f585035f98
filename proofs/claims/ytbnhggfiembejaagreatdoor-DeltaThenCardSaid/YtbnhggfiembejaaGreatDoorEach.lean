import Derived.Test.YtbnhggfiembejaaGreatDoorCanon
import Derived.Test.YtbnhggfiembejaaGreatDoorStr
import Derived.Test.YtbnhggfiembejaaGreatDoorSub
namespace Go.Proofs.YtbnhggfiembejaaGreatDoor
open Go Go.RowKit X
set_option linter.unusedSimpArgs false
set_option linter.unusedVariables false
set_option linter.unusedSectionVars false
variable [Floor]
abbrev Qpa:=World → List (Key × T) → (Nat → Prop) → Prop
theorem Own.back {w w' : World} {B : Nat} {v v1 : Value} {xs ys : List Value} {n m : Nat} {X : Nat → Prop} (h : Own w B Qm 1 v n xs) (h1 : Own w B Qm 1 v1 (n + m) (xs ++ ys)) (h' : Own w' B Qm 1 v1 (n + m) (xs ++ ys)) (e : Ext X w w') (hx : ∀ b,v.ownBlock = some b → v1.ownBlock ≠ some b → ¬ X b) : Own w' B Qm 1 v n xs:=by
 obtain ⟨hl,hh⟩:=h
 refine ⟨hl,?_⟩
 rcases hh with hn | ⟨g,cap,cur,rfl,hb,hg,hnc,hm,hs,ht⟩
 · exact .inl hn
 · by_cases hv : v1.ownBlock = some g
   · rcases h1.2 with ⟨rfl,-⟩ | ⟨g1,cap1,cur1,rfl,hb1,hg1,hnc1,hm1,hs1,ht1⟩
     · cases hv
     · simp only [Value.ownBlock,Option.some.injEq] at hv
       subst hv
       rcases h'.2 with ⟨h2,-⟩ | ⟨g2,cap2,cur2,hv2,hb2,hg2,hnc2,hm2,hs2,ht2⟩
       · cases h2
       · simp only [Value.slice.injEq,Option.some.injEq,Addr.mk.injEq] at hv2
         obtain ⟨⟨rfl,-⟩,-,rfl⟩:=hv2
         have hcc : cur = cur1:=by
          have:=hg.symm.trans hg1
          simpa using this
         subst hcc
         have hcap : cap = cap1:=by
          have:=hs.symm.trans hs1
          omega
         subst hcap
         refine .inr ⟨g1,cap,cur2,rfl,hb,hg2,hnc,hm,hs2,?_⟩
         have h3:=congrArg (List.take (n * 1)) ht2
         rw [List.take_take,Nat.min_eq_left (by omega),List.take_left' hl] at h3
         exact h3
   · have:=hx g rfl hv
     exact .inr ⟨g,cap,cur,rfl,hb,by rw [e.same g (U4 hg) this]; exact hg,hnc,hm,hs,ht⟩
section
variable {w0 : World} {fid : Nat} {cap : Array Value} {I : Qpa} {good : Key → T → Prop} {N : List (Key × T)} {fb db : Nat} {Tf : TypeId} {B : Nat}
end
section
variable {w0 : World} {fid : Nat} {cap : Array Value} {I : Qpa} {good : Key → T → Prop}
end
end Go.Proofs.YtbnhggfiembejaaGreatDoor
