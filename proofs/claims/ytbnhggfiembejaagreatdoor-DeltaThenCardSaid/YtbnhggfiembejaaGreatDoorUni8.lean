import Derived.Test.YtbnhggfiembejaaGreatDoorUni3
section
namespace Go.Proofs.YtbnhggfiembejaaGreatDoor
open Go Go.RowKit X
set_option linter.unusedSimpArgs false
set_option linter.unusedVariables false
set_option linter.unusedSectionVars false
variable [Floor]
theorem FN.base {wS w w' : World} {u o n : Nat} {q : Key} {val : Option Nat} {Jw : List Nat} {kids : UInt8 → T} {mt : Option Y3} (e : Ext (MX mt) wS w) (h : FN w w' u o q val Jw kids mt n) : FN wS w' u o q val Jw kids mt n :=
 ⟨h.tree,fun b hb => by have:=h.fresh b hb; have:=e.size; omega,h.apart,h.cnt,e.QI h.ext⟩
def LS (wS : World) (Qq : Option Nat) (ZO : List Nat) (Q7 : UInt8 → T) (q : Key) (o : Nat) (mt : Option Y3) (w : World) (m : Nat) (nv : Value) (val : Option Nat) (kids : UInt8 → T) : Prop :=
 (nv = .pointer none ∧ val = Qq ∧ kids = Q7 ∧ Mt w mt m ∧ Ext (MX mt) wS w) ∨ ∃ u Jw,nv = rp u ∧ FN wS w u o q val Jw kids mt m ∧ (Jw = [] ↔ ZO = [])
section
variable {wS w : World} {aa Jk ba KZ o p n oa ob jb bb oo M : Nat} {apart Qi : Key} {Qq QW V : Option Nat} {ZO Km : List Nat} {Q7 Qd : UInt8 → T} {mt : Option Y3} {nv : Value} {q : Key} {m : Nat} {kids : UInt8 → T}
theorem LS.cn (h : LS wS Qq ZO Q7 q o mt w m nv V kids) : Mt w mt m ∧ Ext (MX mt) wS w:=by
 rcases h with ⟨-,-,-,h1,h2⟩ | ⟨u,Jw,-,h,-⟩
 · exact ⟨h1,h2⟩
 · exact ⟨h.cnt,h.ext⟩
theorem LS.go (h : LS wS Qq ZO Q7 q o mt w m nv V kids) {w' : World} {m' : Nat} (e : Ext (MX mt) w w') (hm : Mt w' mt m') : LS wS Qq ZO Q7 q o mt w' m' nv V kids:=by
 rcases h with ⟨h1,h2,h3,h4,h5⟩ | ⟨u,Jw,h1,h2,h3⟩
 · exact .inl ⟨h1,h2,h3,hm,h5.QI e⟩
 · exact .inr ⟨u,Jw,h1,h2.go e hm,h3⟩
theorem LS.Q4 (h : LS wS Qq ZO Q7 q o mt w m nv V kids) {w' : World} (e : Ext No w w') : LS wS Qq ZO Q7 q o mt w' m nv V kids:=h.go (e.mono fun _ _ h => h.elim) (h.cn.1.Q4 e)
end
end Go.Proofs.YtbnhggfiembejaaGreatDoor
end
section
namespace Go.Proofs.YtbnhggfiembejaaGreatDoor
open Go Go.RowKit X
set_option linter.unusedSimpArgs false
set_option linter.unusedVariables false
set_option linter.unusedSectionVars false
variable [Floor]
section
variable {wS w : World} {a b : T} {xa xow ya yow o p n oa ob ox jb ea eb bb oo M m : Nat} {Rs : Key} {Rq V : Option Nat} {xks : List Nat} {Rt kids : UInt8 → T} {mt : Option Y3} {nv : Value}
end
end Go.Proofs.YtbnhggfiembejaaGreatDoor
end
section
namespace Go.Proofs.YtbnhggfiembejaaGreatDoor
open Go Go.RowKit X
set_option linter.unusedSimpArgs false
set_option linter.unusedVariables false
set_option linter.unusedSectionVars false
variable [Floor]
section
variable {wS w : World} {aa Jk ba KZ o p n oa ob jb ea eb bb oo M : Nat} {apart Qi : Key} {Qq QW : Option Nat} {ZO Km : List Nat} {Q7 Qd : UInt8 → T} {mt : Option Y3}
end
end Go.Proofs.YtbnhggfiembejaaGreatDoor
end
section
namespace Go.Proofs.YtbnhggfiembejaaGreatDoor
open Go Go.RowKit X
set_option linter.unusedSimpArgs false
set_option linter.unusedVariables false
set_option linter.unusedSectionVars false
variable [Floor]
section
variable {wS w : World} {aa Jk ba KZ o p n oa ob jb ea eb bb oo M : Nat} {apart Qi : Key} {Qq QW : Option Nat} {ZO Km : List Nat} {Q7 Qd : UInt8 → T} {mt : Option Y3}
end
end Go.Proofs.YtbnhggfiembejaaGreatDoor
end
section
namespace Go.Proofs.YtbnhggfiembejaaGreatDoor
open Go Go.RowKit X
set_option linter.unusedSimpArgs false
set_option linter.unusedVariables false
set_option linter.unusedSectionVars false
variable [Floor]
section
variable {w0 w : World} {aa Jk ba KZ o p n oa ob jb ea eb bb oo M : Nat} {apart Qi : Key} {Qq QW : Option Nat} {ZO Km : List Nat} {Q7 Qd : UInt8 → T} {mt : Option Y3}
end
end Go.Proofs.YtbnhggfiembejaaGreatDoor
end
section
namespace Go.Proofs.YtbnhggfiembejaaGreatDoor
open Go Go.RowKit X
set_option linter.unusedSimpArgs false
set_option linter.unusedVariables false
set_option linter.unusedSectionVars false
variable [Floor]
section
variable {w : World} {aa Jk ba KZ o p n oa ob M : Nat} {apart Qi : Key} {Qq QW : Option Nat} {ZO Km : List Nat} {Q7 Qd : UInt8 → T} {mt : Option Y3}
end
end Go.Proofs.YtbnhggfiembejaaGreatDoor
end
