import Derived.Test.YtbnhggfiembejaaGreatDoorSAu
import Derived.Test.YtbnhggfiembejaaGreatDoorPut
import Derived.Test.YtbnhggfiembejaaGreatDoorDet
import Derived.Test.YtbnhggfiembejaaGreatDoorG1
section
namespace Go.Proofs.YtbnhggfiembejaaGreatDoor
open Go Go.RowKit X
set_option linter.unusedSimpArgs false
set_option linter.unusedVariables false
set_option linter.unusedSectionVars false
def CF : Nat → Nat → Nat → Nat
 | 1,a,_ => a
 | 2,_,b => b
 | 3,a,b => (a + b) % 18446744073709551616
 | 4,a,b => min a b
 | _,a,b => max a b
theorem KD {w : World} {t T : TypeId} {g : Nat} {x y a b : Value} {K : World → Prop} (hg : QZ w g [x,y] T) (hi : (P.info? t).map (·.size) = some 2) (ha : a.oneCell' = true) (hb : b.oneCell' = true)
  (k : ∀ w',QZ w' g [a,b] T → w'.heap.size = w.heap.size → Ext (· = g) w w' → K w') : Yn P (storeVar t ⟨g,0,none⟩ (.agg #[a,b])) w K:=by
 refine JW (vs:=[a,b]) hg hi (by simp) (by simp [ha,hb]) fun w' h1 h2 h3 => k w' ?_ h2 h3
 simpa using h1
variable [Floor]
def W9 (off : Nat) : E → E
 | .nil => .nil
 | .node p v k => .node (p.drop off) v k
theorem Xq (e : E) : W9 0 e = e:=by cases e <;> rfl
section
variable {w : World} {t : T} {off p o n : Nat} {mt : Option Y3}
end
end Go.Proofs.YtbnhggfiembejaaGreatDoor
end
section
namespace Go.Proofs.YtbnhggfiembejaaGreatDoor
open Go Go.RowKit X
set_option linter.unusedSimpArgs false
set_option linter.unusedVariables false
set_option linter.unusedSectionVars false
def Zx (p : Nat) : Option Nat → Option Nat → Option Nat
 | some a,some b => some (CF p a b)
 | some a,none => some a
 | none,x => x
variable [Floor]
structure FN (w0 w : World) (u o : Nat) (q : Key) (val : Option Nat) (Jw : List Nat) (kids : UInt8 → T) (mt : Option Y3) (n : Nat) : Prop where
 tree : Tree w (.node u o q val Jw kids)
 fresh : ∀ b,NX u Jw b → w0.heap.size ≤ b
 apart : ∀ c b,(kids c).All b → ¬ NX u Jw b
 cnt : Mt w mt n
 ext : Ext (MX mt) w0 w
section
variable {w0 w : World} {u o : Nat} {q : Key} {val : Option Nat} {Jw : List Nat} {kids : UInt8 → T} {mt : Option Y3} {n : Nat}
theorem FN.go (h : FN w0 w u o q val Jw kids mt n) {w' : World} {n' : Nat} (e : Ext (MX mt) w w') (hm : Mt w' mt n') : FN w0 w' u o q val Jw kids mt n' :=
 ⟨h.tree.YL h.cnt e,h.fresh,h.apart,hm,h.ext.QI e⟩
theorem FN.Q4 (h : FN w0 w u o q val Jw kids mt n) {w' : World} (e : Ext No w w') : FN w0 w' u o q val Jw kids mt n:=h.go (e.mono fun _ _ h => h.elim) (h.cnt.Q4 e)
theorem FN.lt (h : FN w0 w u o q val Jw kids mt n) {b : Nat} (hb : NX u Jw b) : b < w.heap.size:=h.tree.lt (.inl hb)
theorem FN.nb (h : FN w0 w u o q val Jw kids mt n) {X : Nat → Prop} (hX : ∀ b,X b → NX u Jw b) : NB w X:=h.tree.nbX fun b hb => .inl (hX b hb)
end
section
variable {w : World} {a b : T} {p o n : Nat} {mt : Option Y3}
theorem Tree.v64 {t : T} (h : Tree w t) : t.val.getD 0 < 18446744073709551616:=by
 cases t with
 | nil => show 0 < _; omega
 | node a ow part val ks kids =>
   show val.getD 0 < _
   cases val with
   | none => show 0 < _; omega
   | some v => exact h.1.v64 v rfl
end
section
variable {w : World} {a b : T} {p o n oa ob : Nat} {mt : Option Y3}
end
end Go.Proofs.YtbnhggfiembejaaGreatDoor
end
section
namespace Go.Proofs.YtbnhggfiembejaaGreatDoor
open Go X
set_option linter.unusedSimpArgs false
set_option linter.unusedVariables false
set_option linter.unusedSectionVars false
end Go.Proofs.YtbnhggfiembejaaGreatDoor
end
section
namespace Go.Proofs.YtbnhggfiembejaaGreatDoor
open Go Go.RowKit X
set_option linter.unusedSimpArgs false
set_option linter.unusedVariables false
set_option linter.unusedSectionVars false
end Go.Proofs.YtbnhggfiembejaaGreatDoor
end
