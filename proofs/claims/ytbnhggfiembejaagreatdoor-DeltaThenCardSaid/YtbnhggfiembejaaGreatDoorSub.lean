import Derived.Test.YtbnhggfiembejaaGreatDoorNode
import Derived.Test.YtbnhggfiembejaaGreatDoorMap
import Derived.Test.YtbnhggfiembejaaGreatDoorStr
import Derived.Test.YtbnhggfiembejaaGreatDoorCanon
import Derived.Test.YtbnhggfiembejaaGreatDoorLong
import Derived.Test.YtbnhggfiembejaaGreatDoorPut
section
namespace Go.Proofs.YtbnhggfiembejaaGreatDoor
open Go Go.RowKit X
set_option linter.unusedSimpArgs false
set_option linter.unusedVariables false
set_option linter.unusedSectionVars false
variable [Floor]
section
variable {w : World} {mt : Option Y3} {n o : Nat}
end
end Go.Proofs.YtbnhggfiembejaaGreatDoor
end
section
namespace Go.Proofs.YtbnhggfiembejaaGreatDoor
open Go Go.RowKit X
set_option linter.unusedSimpArgs false
set_option linter.unusedVariables false
set_option linter.unusedSectionVars false
theorem T.VX {a ow : Nat} {part : Key} {val : Option Nat} {ks : List Nat} {kids : UInt8 → T} (r : Key) : (T.node a ow part val ks kids).get (part ++ r) = match r with | [] => val | c :: s => (kids c).get s:=E.VX part val (fun c => (kids c).er) r
theorem T.J3 {a ow : Nat} {part : Key} {val : Option Nat} {ks : List Nat} {kids : UInt8 → T} {k : Key} (h : ¬ part <+: k) : (T.node a ow part val ks kids).get k = none:=Go.Proofs.YtbnhggfiembejaaGreatDoor.J3 (kids:=fun c => (kids c).er) h
variable [Floor]
section
variable {w : World} {mt : Option Y3} {n o : Nat} {t : T} {vp : Value} {p : Key}
theorem Bs.room (h : Bs w vp p) (m : Nat) (hm : m ≤ p.length) {K : Value → Prop} {kd kd' : IntKind} {i j : Int} (hi : i = (m : Int)) (hj : j = (m : Int)) (k : ∀ v',Bs w v' (p.take m) → (∃ ad,v' = .slice ad (p.take m).length (p.take m).length) → K v') : Yg 1 vp none (some (.int kd i)) (some (.int kd' j)) K:=by
 obtain ⟨a,cap,rfl,hc,hs⟩:=Sl.cut (l:=0) (h:=m) h (Nat.zero_le _) hm
 have h1:=hs m (Nat.le_refl _) (by omega)
 have hl : (p.take m).length = m:=by rw [List.length_take]; omega
 refine ⟨0,m,m,⟨hj,by omega⟩,⟨hi,Nat.le_refl _⟩,rfl,?_⟩
 refine k _ ?_ ⟨_,by rw [hl]; rfl⟩
 unfold Bs
 rw [hl,List.map_take]
 simpa using h1
end
end Go.Proofs.YtbnhggfiembejaaGreatDoor
end
section
namespace Go.Proofs.YtbnhggfiembejaaGreatDoor
open Go Go.RowKit X
set_option linter.unusedSimpArgs false
set_option linter.unusedVariables false
set_option linter.unusedSectionVars false
variable [Floor]
section
variable {w : World} {mt : Option Y3} {n o : Nat} {t : T} {vp : Value} {p : Key}
end
end Go.Proofs.YtbnhggfiembejaaGreatDoor
end
