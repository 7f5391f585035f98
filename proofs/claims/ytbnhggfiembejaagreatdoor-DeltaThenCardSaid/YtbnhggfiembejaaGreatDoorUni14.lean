import Derived.Test.YtbnhggfiembejaaGreatDoorUni8
import Derived.Laws.StructEq
import Derived.Test.YtbnhggfiembejaaGreatDoorUni
import Derived.Test.YtbnhggfiembejaaGreatDoorRefV
section
namespace Go.Proofs.YtbnhggfiembejaaGreatDoor
open Go Go.RowKit X
set_option linter.unusedSimpArgs false
set_option linter.unusedVariables false
set_option linter.unusedSectionVars false
theorem Vq {Q : Program} {t : TypeId} {d : TypeDesc} {xs : Array Value} {o : Nat} {w : World} {v : Value} (hu : Q.underlying t = some d) (hd : Q1E Q t = false) (h : xs[o]? = some v) : (part t xs o).run Q w = .ok v w:=by
 have ha : (isAgg t).run Q w = .ok false w:=by rw [Qac hu,hd]
 unfold part
 rw [Sem.run_bind,ha,Result.andThen_ok,if_neg (by simp),h]
 rfl
theorem Q7N {Q : Program} {w : World} {d : Nat} {t e : TypeId} {i : TypeInfo} {a b : Addr} {r : Bool} (hu : Q.underlying t = some (.pointer e)) (hi : Q.info? e = some i) (hs : Q.cellsOf e ≠ 0) (h : (sameAddr a b).run Q w = .ok r w) : (Op.equalIn (d + 1) t (.pointer (some a)) (.pointer (some b))).run Q w = .ok r w:=by
 simp only [Op.equalIn,Sem.run_bind,run_underlying hu,Result.andThen_ok,run_sizeOf w hi]
 rw [if_pos hs]
 exact h
theorem Qgo {Q : Program} {w : World} {d : Nat} {f0 f1 : Field} {xs ys : Array Value} {x0 x1 y0 y1 : Value} {t u : Bool} (n0 : f0.name ≠ "_") (n1 : f1.name ≠ "_")
  (p0 : (part f0.type xs f0.offset).run Q w = .ok x0 w) (q0 : (part f0.type ys f0.offset).run Q w = .ok y0 w) (e0 : (Op.equalIn d f0.type x0 y0).run Q w = .ok t w)
  (p1 : (part f1.type xs f1.offset).run Q w = .ok x1 w) (q1 : (part f1.type ys f1.offset).run Q w = .ok y1 w) (e1 : (Op.equalIn d f1.type x1 y1).run Q w = .ok u w) :
  (Op.eqFields d xs ys [f0,f1]).run Q w = .ok (t && u) w:=by
 simp only [Op.eqFields]
 rw [if_pos n0]
 simp only [Sem.run_bind,p0,q0,e0,Result.andThen_ok]
 cases t with
 | false => simp
 | true =>
   rw [if_neg (by simp),if_pos n1]
   simp only [Sem.run_bind,p1,q1,e1,Result.andThen_ok]
   cases u <;> simp
theorem Gj : P.cellsOf JV = 5:=by kernel_rfl
theorem Q0c : Q1E P Jz = false:=by kernel_rfl
theorem Q0d : Q1E P Ht = false:=by kernel_rfl
theorem Ei : P.underlying Jz = some (.pointer JV):=by kernel_rfl
theorem G7 : P.underlying Ht = some (.int .i64):=by kernel_rfl
theorem Q7s : ∃ i,P.info? JV = some i:=by
 have h1 : (P.info? JV).isSome = true:=by kernel_rfl
 exact Option.isSome_iff_exists.1 h1
end Go.Proofs.YtbnhggfiembejaaGreatDoor
end
section
namespace Go.Proofs.YtbnhggfiembejaaGreatDoor
open Go Go.RowKit X
set_option linter.unusedSimpArgs false
set_option linter.unusedVariables false
set_option linter.unusedSectionVars false
variable [Floor]
theorem J6 {w : World} {b : Nat} {cs : List Value} {T : TypeId} (h : QZ w b cs T) : Za w (.pointer (some ⟨b,0,none⟩)) (.agg cs.toArray):=by
 show ∀ i,i < cs.toArray.size → w.cell? ((⟨b,0,none⟩ : Addr).add i) = cs.toArray[i]?
 intro i hi
 rw [Addr.add_lit,h.cell,Nat.zero_add]
 simp
section
variable {w : World} {aa Jk ba KZ o p n oa ob M : Nat} {apart Qi : Key} {Qq QW : Option Nat} {ZO Km : List Nat} {Q7 Qd : UInt8 → T} {mt : Option Y3} {a b t' : T}
end
end Go.Proofs.YtbnhggfiembejaaGreatDoor
end
section
namespace Go.Proofs.YtbnhggfiembejaaGreatDoor
open Go Go.RowKit X
set_option linter.unusedSimpArgs false
set_option linter.unusedVariables false
set_option linter.unusedSectionVars false
variable [Floor]
section
variable {w : World} {aa Jk ba KZ o p n oa ob ou ol M : Nat} {apart Qi : Key} {Qq QW : Option Nat} {ZO Km : List Nat} {Q7 Qd : UInt8 → T} {mt : Option Y3} {y : UInt8} {low : T} {turned : Bool}
theorem Wv.mono {t : T} {o1 o2 : Nat} (h : Wv w t o1) (h2 : o2 ≤ t.part.length) : Wv w t o2:=⟨h.tree,h.fine,h.QR,h.long,h2⟩
end
end Go.Proofs.YtbnhggfiembejaaGreatDoor
end
section
namespace Go.Proofs.YtbnhggfiembejaaGreatDoor
open Go Go.RowKit X
set_option linter.unusedSimpArgs false
set_option linter.unusedVariables false
set_option linter.unusedSectionVars false
variable [Floor]
section
variable {w : World} {a b : T} {o n : Nat} {mt : Option Y3} {z : Int} {l m : Kv}
end
end Go.Proofs.YtbnhggfiembejaaGreatDoor
end
