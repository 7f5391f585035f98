import Derived.Test.YtbnhggfiembejaaGreatDoorUni
section
namespace Go.Proofs.YtbnhggfiembejaaGreatDoor
open Go Go.RowKit X
set_option linter.unusedSimpArgs false
set_option linter.unusedVariables false
set_option linter.unusedSectionVars false
variable [Floor]
structure UR (w w' : World) (p : Nat) (a b : T) (oa ob : Nat) (t' : T) (mt : Option Y3) (n n' : Nat) : Prop where
 tree : Tree w' t'
 cnt : Mt w' mt n'
 ext : Ext (MX mt) w w'
 all : ∀ c,t'.All c → a.All c ∨ b.All c ∨ w.heap.size ≤ c
 QR : t'.ZJ
 can : Can t'.er (fun k => Zx p ((W9 oa a.er).get k) ((W9 ob b.er).get k))
 idle : oa = 0 → (∀ k,Zx p (a.er.get k) ((W9 ob b.er).get k) = a.er.get k) → t'.ptr = a.ptr ∧ n' = n
theorem UR.from' {w w1 w2 : World} {p oa ob n n' : Nat} {a b t' : T} {mt : Option Y3} (he : Ext No w w1) (h : UR w1 w2 p a b oa ob t' mt n n') : UR w w2 p a b oa ob t' mt n n' :=
 ⟨h.tree,h.cnt,(he.mono fun _ _ h => h.elim).QI h.ext,fun c hc => (h.all c hc).imp id (Or.imp id fun h => by have:=he.size; omega),h.QR,h.can,h.idle⟩
structure Wv (w : World) (a : T) (oa : Nat) : Prop where
 tree : Tree w a
 fine : a.er.ZV
 QR : a.ZJ
 long : a.er.long ≤ 100000
 off : oa ≤ a.part.length
theorem Wv.Q4 {w w' : World} {a : T} {oa : Nat} (h : Wv w a oa) (e : Ext No w w') : Wv w' a oa:=⟨h.tree.Q4 e,h.fine,h.QR,h.long,h.off⟩
theorem Wv.YL {w w' : World} {a : T} {oa n : Nat} {mt : Option Y3} (h : Wv w a oa) (hm : Mt w mt n) (e : Ext (MX mt) w w') : Wv w' a oa:=⟨h.tree.YL hm e,h.fine,h.QR,h.long,h.off⟩
section
variable {w : World} {a ow o p n ou jb ub kb fb sb : Nat} {part : Key} {val : Option Nat} {ks : List Nat} {kids : UInt8 → T} {mt : Option Y3} {c : UInt8} {low : T} {v1 v2 : Value} {G : T → Nat → Prop}
end
end Go.Proofs.YtbnhggfiembejaaGreatDoor
end
section
namespace Go.Proofs.YtbnhggfiembejaaGreatDoor
open Go Go.RowKit X
set_option linter.unusedSimpArgs false
set_option linter.unusedVariables false
set_option linter.unusedSectionVars false
variable [Floor]
section
variable {w : World} {a ow o p n ou ol : Nat} {part : Key} {val : Option Nat} {ks : List Nat} {kids : UInt8 → T} {mt : Option Y3} {y : UInt8} {low : T} {turned : Bool}
end
end Go.Proofs.YtbnhggfiembejaaGreatDoor
end
section
namespace Go.Proofs.YtbnhggfiembejaaGreatDoor
open Go Go.RowKit X
set_option linter.unusedSimpArgs false
set_option linter.unusedVariables false
set_option linter.unusedSectionVars false
variable [Floor]
section
variable {w : World} {a ow o p n ou ol : Nat} {part : Key} {val : Option Nat} {ks : List Nat} {kids : UInt8 → T} {mt : Option Y3} {y : UInt8} {low : T} {turned : Bool}
end
end Go.Proofs.YtbnhggfiembejaaGreatDoor
end
section
namespace Go.Proofs.YtbnhggfiembejaaGreatDoor
open Go Go.RowKit X
set_option linter.unusedSimpArgs false
set_option linter.unusedVariables false
set_option linter.unusedSectionVars false
variable [Floor]
section
variable {w : World} {a ow o p n off u : Nat} {part : Key} {val : Option Nat} {ks : List Nat} {kids : UInt8 → T} {mt : Option Y3} {t : T} {x : Value}
end
end Go.Proofs.YtbnhggfiembejaaGreatDoor
end
section
namespace Go.Proofs.YtbnhggfiembejaaGreatDoor
open Go Go.RowKit X
set_option linter.unusedSimpArgs false
set_option linter.unusedVariables false
set_option linter.unusedSectionVars false
end Go.Proofs.YtbnhggfiembejaaGreatDoor
end
