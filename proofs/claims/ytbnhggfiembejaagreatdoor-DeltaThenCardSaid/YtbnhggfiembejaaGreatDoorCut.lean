import Derived.Test.YtbnhggfiembejaaGreatDoorGr
import Derived.Test.YtbnhggfiembejaaGreatDoorSAc
import Derived.Test.YtbnhggfiembejaaGreatDoorNode
import Derived.Test.YtbnhggfiembejaaGreatDoorList
import Derived.Test.YtbnhggfiembejaaGreatDoorRefV
import Derived.Test.YtbnhggfiembejaaGreatDoorG1
section
section
namespace Go.Proofs.YtbnhggfiembejaaGreatDoor
open Go Go.RowKit X
set_option linter.unusedSimpArgs false
set_option linter.unusedVariables false
set_option linter.unusedSectionVars false
section
variable {up : Bool} {ap k : Key} {av : Option Nat} {ak : UInt8 → E}
end
abbrev Q2z (up : Bool) (k : Key) : Key → Bool:=fun key => decide (Xr key k) != up
end Go.Proofs.YtbnhggfiembejaaGreatDoor
end
section
namespace Go.Proofs.YtbnhggfiembejaaGreatDoor
open Go Go.RowKit X
set_option linter.unusedSimpArgs false
set_option linter.unusedVariables false
set_option linter.unusedSectionVars false
variable [Floor]
section
variable {w w' w0 : World} {t a : T} {o n n' n1 n2 lb : Nat} {mt : Option Y3} {up : Bool} {kids : UInt8 → T} {h : UInt8 → Key → Option Nat} {d : List UInt8} {l : List (UInt8 × T)} {v : Value} {c : UInt8} {t' : T}
end
end Go.Proofs.YtbnhggfiembejaaGreatDoor
end
section
namespace Go.Proofs.YtbnhggfiembejaaGreatDoor
open Go Go.RowKit X
set_option linter.unusedSimpArgs false
set_option linter.unusedVariables false
set_option linter.unusedSectionVars false
variable [Floor]
section
variable {w : World} {a ow o n : Nat} {part r k : Key} {val : Option Nat} {ks : List Nat} {kids : UInt8 → T} {mt : Option Y3} {up : Bool} {y : UInt8} {kv : Value}
end
end Go.Proofs.YtbnhggfiembejaaGreatDoor
end
end
section
section
namespace Go.Proofs.YtbnhggfiembejaaGreatDoor
open Go Go.RowKit X
set_option linter.unusedSimpArgs false
set_option linter.unusedVariables false
set_option linter.unusedSectionVars false
section
variable {a ow : Nat} {part way : Key} {val : Option Nat} {ks : List Nat} {kids : UInt8 → T}
end
end Go.Proofs.YtbnhggfiembejaaGreatDoor
end
section
namespace Go.Proofs.YtbnhggfiembejaaGreatDoor
open Go Go.RowKit X
set_option linter.unusedSimpArgs false
set_option linter.unusedVariables false
set_option linter.unusedSectionVars false
section
variable {w : World} {rb room : Nat} {l : List (UInt8 × Addr)}
end
section
variable {w : World} {bb room n : Nat} {xv fv : Value} {a : UInt8 → Nat} {xs : List (Option Addr)} {fs : List Nat} {m : UInt8 → Option Addr}
end
section
variable {w : World} {ks : List Nat} {room : Nat} {m : UInt8 → Option Addr}
end
variable [Floor]
end Go.Proofs.YtbnhggfiembejaaGreatDoor
end
section
namespace Go.Proofs.YtbnhggfiembejaaGreatDoor
open Go Go.RowKit X
set_option linter.unusedSimpArgs false
set_option linter.unusedVariables false
set_option linter.unusedSectionVars false
variable [Floor]
def AR (w : World) (r : Value) : Option (Key × Nat) → Prop
 | none => r = .tuple #[.agg #[.slice none 0 0,u64 0],.bool false]
 | some p => ∃ kv,r = .tuple #[.agg #[kv,u64 p.2],.bool true] ∧ Bs w kv p.1 ∧ p.2 < 18446744073709551616
theorem AR.two {w : World} {r : Value} {o : Option (Key × Nat)} (h : AR w r o) : ∃ kv x,r = .tuple #[.agg #[kv,u64 x],.bool o.isSome] ∧ kv.oneCell' = true ∧ (∀ p,o = some p → Bs w kv p.1 ∧ x = p.2 ∧ p.2 < 18446744073709551616) ∧ (o = none → kv = .slice none 0 0 ∧ x = 0):=by
 cases o with
 | none => exact ⟨_,0,h,rfl,(fun p h => by cases h),fun _ => ⟨rfl,rfl⟩⟩
 | some p =>
   obtain ⟨kv,rfl,h1,h2⟩:=h
   exact ⟨kv,p.2,rfl,h1.R9,fun q hq => by rw [← Option.some.inj hq]; exact ⟨h1,rfl,h2⟩,fun h => by cases h⟩
theorem AR.of {w : World} {kv : Value} {x : Nat} {o : Option (Key × Nat)} (h1 : ∀ p,o = some p → Bs w kv p.1 ∧ x = p.2 ∧ p.2 < 18446744073709551616) (h2 : o = none → kv = .slice none 0 0 ∧ x = 0) : AR w (.tuple #[.agg #[kv,u64 x],.bool o.isSome]) o:=by
 cases o with
 | none => obtain ⟨rfl,rfl⟩:=h2 rfl; rfl
 | some p => obtain ⟨h3,rfl,h4⟩:=h1 p rfl; exact ⟨kv,rfl,h3,h4⟩
section
variable {w w' w0 : World} {t : T} {way : Key} {v : Value} {B : Nat}
theorem QlN {l m : Key} (h : Own w B Qm 1 v (l.length + m.length) (l.map bv ++ m.map bv)) : Own w B Qm 1 v (l ++ m).length ((l ++ m).map bv):=by
 rw [List.length_append,List.map_append]; exact h
structure DW (w0 w w' : World) (B : Nat) (v0 v : Value) (way : Key) : Prop where
 ext : Ext (fun b => v0.ownBlock = some b) w w'
 own : Own w' B Qm 1 v way.length (way.map bv)
 new : ∀ b,v.ownBlock = some b → v0.ownBlock = some b ∨ w.heap.size ≤ b
theorem DW.Q4 {w1 w2 : World} {v0 : Value} (h : DW w0 w w1 B v0 v way) (e : Ext No w1 w2) : DW w0 w w2 B v0 v way:=⟨h.ext.Q0 e,h.own.Q4 e,h.new⟩
theorem DW.one {w1 w2 : World} {v0 : Value} {b : Nat} {cs : List Value} {T : TypeId} (h : DW w0 w w1 B v0 v way) (hb : QZ w1 b cs T) (hT : T ≠ Qm) (hw : w.heap.size ≤ b) (e : Ext (· = b) w1 w2) : DW w0 w w2 B v0 v way :=
 ⟨h.ext.trans e fun c hc he => by have e : c = b:=he; omega,h.own.ext e fun c hc he => by
  have e : c = b:=he
  subst e
  exact Own.neK h.own hb hT.symm hc,h.new⟩
theorem DW.app {w1 : World} {v0 x : Value} {m : Key} (h : DW w0 w w1 B v0 v way) (hB : B ≤ w1.heap.size) (hx : Bs w1 x m) (hl : way.length + m.length ≤ 4398046511104) {K : Value → World → Prop}
  (k : ∀ v' w',DW w0 w w' B v0 v' (way ++ m) → Ext (fun b => v.ownBlock = some b) w1 w' → (∀ b,v'.ownBlock = some b → v.ownBlock = some b ∨ w1.heap.size ≤ b) → (∀ w'',Ext (fun b => v'.ownBlock = some b) w' w'' → Own w'' B Qm 1 v' (way ++ m).length ((way ++ m).map bv) → Own w'' B Qm 1 v way.length (way.map bv)) → K v' w') :
  Jv P (Builtin.append_ #[Ji,Ji] Ji #[v,x]) w1 K:=by
 refine Vi Uq h.own hB hx (by simp only [List.mem_map]; rintro u ⟨c,-,rfl⟩; rfl) (by omega) (by omega) fun v1 w2 hv1 he2 hback hnew => ?_
 have hz:=h.ext.size
 refine k v1 w2 ⟨h.ext.trans he2 fun b hb hv => (h.new b hv).imp id (fun h => by omega) |>.elim id fun h => absurd hb (by omega),QlN hv1,fun b hb => ?_⟩ he2 hnew fun w'' e ho => hback w'' e (by rw [List.length_append,List.map_append] at ho; exact ho)
 rcases hnew b hb with h1 | h1
 · exact h.new b h1
 · exact .inr (by omega)
end
end Go.Proofs.YtbnhggfiembejaaGreatDoor
end
section
namespace Go.Proofs.YtbnhggfiembejaaGreatDoor
open Go Go.RowKit X
set_option linter.unusedSimpArgs false
set_option linter.unusedVariables false
set_option linter.unusedSectionVars false
variable [Floor]
section
variable {w w' w0 : World} {t : T} {way : Key} {v v0 : Value} {B : Nat}
theorem DW.e0 (h : DW w0 w w' B v0 v way) (h0 : Ext No w0 w) (hv0 : ∀ b,v0.ownBlock = some b → w0.heap.size ≤ b) : Ext No w0 w':=h0.trans h.ext fun b hb hv => by have:=hv0 b hv; omega
end
end Go.Proofs.YtbnhggfiembejaaGreatDoor
end
end
section
namespace Go.Proofs.YtbnhggfiembejaaGreatDoor
open Go Go.RowKit X
set_option linter.unusedSimpArgs false
set_option linter.unusedVariables false
set_option linter.unusedSectionVars false
variable [Floor]
section
variable {w w' w0 : World} {a ow i : Nat} {part way : Key} {val : Option Nat} {ks : List Nat} {kids : UInt8 → T} {v : Value} {B : Nat}
end
structure UC (w0 w w2 : World) (B : Nat) (v v1 : Value) (way here : Key) (rb kb : Nat) : Prop where
 h02 : Ext No w0 w2
 hB0 : w0.heap.size ≤ B
 hB : B ≤ w.heap.size
 fl : Floor.n ≤ B
 ext : Ext (fun b => v.ownBlock = some b) w w2
 own : Own w2 B Qm 1 v1 here.length (here.map bv)
 new : ∀ b,v1.ownBlock = some b → v.ownBlock = some b ∨ w.heap.size ≤ b
 back : ∀ w'',Ext (fun b => v1.ownBlock = some b) w2 w'' → Own w'' B Qm 1 v1 here.length (here.map bv) → Own w'' B Qm 1 v way.length (way.map bv)
 res : QZ w2 rb [.slice none 0 0,u64 0] Zk
 Qyb : w.heap.size ≤ rb
 kn : QZ w2 kb [.bool false] Bp
structure UP (w2 w' : World) (B : Nat) (v1 v2 : Value) (here : Key) (b : UInt8) (rb kb : Nat) : Prop where
 ext : Ext (fun b => v1.ownBlock = some b) w2 w'
 own : Own w' B Qm 1 v2 (here ++ [b]).length ((here ++ [b]).map bv)
 new : ∀ c,v2.ownBlock = some c → v1.ownBlock = some c ∨ w2.heap.size ≤ c
 back : ∀ w'',Ext (fun c => v2.ownBlock = some c) w' w'' → Own w'' B Qm 1 v2 (here ++ [b]).length ((here ++ [b]).map bv) → Own w'' B Qm 1 v1 here.length (here.map bv)
 res : QZ w' rb [.slice none 0 0,u64 0] Zk
 kn : QZ w' kb [.bool false] Bp
section
variable {w0 w w2 w' : World} {B rb kb pb : Nat} {v v1 v2 kv : Value} {way : Key} {a ow : Nat} {part r : Key} {val : Option Nat} {ks : List Nat} {kids : UInt8 → T} {b : UInt8}
theorem UC.Q4 {w3 : World} {here : Key} (h : UC w0 w w2 B v v1 way here rb kb) (e : Ext No w2 w3) : UC w0 w w3 B v v1 way here rb kb :=
 ⟨h.h02.Q0 e,h.hB0,h.hB,h.fl,h.ext.Q0 e,h.own.Q4 e,h.new,fun w'' e' ho => h.back w'' ((e.mono fun _ _ h => h.elim).QI e') ho,h.res.ext e fun h => h,h.Qyb,h.kn.ext e fun h => h⟩
theorem UP.Q4 {w'' : World} {here : Key} (h : UP w2 w' B v1 v2 here b rb kb) (e : Ext No w' w'') : UP w2 w'' B v1 v2 here b rb kb :=
 ⟨h.ext.Q0 e,h.own.Q4 e,h.new,fun w3 e3 ho => h.back w3 ((e.mono fun _ _ h => h.elim).QI e3) ho,h.res.ext e fun h => h,h.kn.ext e fun h => h⟩
theorem UC.app (h : UC w0 w w2 B v v1 way (way ++ part) rb kb) (e : Ext No w2 w') {s : Value} (hs : Bs w' s [b]) (hl : (way ++ part).length ≤ 1099511627776) {K : Value → World → Prop}
  (k : ∀ v2 w'',UP w2 w'' B v1 v2 (way ++ part) b rb kb → (∀ c cs,QZ w' c cs Zk → QZ w'' c cs Zk) → K v2 w'') : Jv P (Builtin.append_ #[Ji,Ji] Ji #[v1,s]) w' K:=by
 have hz:=h.ext.size
 have hz':=e.size
 have hB:=h.hB
 have hD : DW w2 w2 w' B v1 v1 (way ++ part):=⟨e.mono fun _ _ h => h.elim,h.own.Q4 e,fun b h => .inl h⟩
 refine hD.app (by omega) hs (by simp at hl ⊢; omega) fun v3 w3 hD3 QE hnew3 Qv3 => ?_
 exact k v3 w3 ⟨hD3.ext,hD3.own,hD3.new,Qv3,(h.res.ext e fun h => h).ext QE fun hh => Own.neK hD.own (h.res.ext e fun h => h) (by decide) hh,(h.kn.ext e fun h => h).ext QE fun hh => Own.neK hD.own (h.kn.ext e fun h => h) (by decide) hh⟩ fun c cs hc => hc.ext QE fun hh => Own.neK hD.own hc (by decide) hh
end
section
variable {a ow : Nat} {part : Key} {val : Option Nat} {ks : List Nat} {kids : UInt8 → T}
end
end Go.Proofs.YtbnhggfiembejaaGreatDoor
end
section
namespace Go.Proofs.YtbnhggfiembejaaGreatDoor
open Go Go.RowKit X
set_option linter.unusedSimpArgs false
set_option linter.unusedVariables false
set_option linter.unusedSectionVars false
theorem Q2q {a b : Key} : (Uv a b ≥ 0) ↔ ¬ Xr a b:=by unfold Xr; omega
variable [Floor]
section
variable {w : World} {a b : T} {l m : Kv} {o n : Nat} {mt : Option Y3} {k : Key} {kv : Value}
section
variable {fv tv : Value} {f t : Key} {op : Bool}
end
end
end Go.Proofs.YtbnhggfiembejaaGreatDoor
end
