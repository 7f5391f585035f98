import Derived.Test.YtbnhggfiembejaaGreatDoorOpen2
import Derived.Test.YtbnhggfiembejaaGreatDoorE26
namespace Go.Proofs.YtbnhggfiembejaaGreatDoor
open Go Go.RowKit X Go.ChangeShapes Go.WideShapes Go.ChangeAt
set_option linter.unusedSimpArgs false
set_option linter.unusedVariables false
set_option linter.unusedSectionVars false
namespace EA
noncomputable abbrev Q5Q (i : Nat) : Field:=(P.fieldsOf Xd).getD i { name:="",type:=0,offset:=0,embedded:=false,tag:="",pkgPath:="",byteOffset:=0 }
theorem othU : P.underlying Xd = some (.struct #[Q5Q 0,Q5Q 1,Q5Q 2]):=by kernel_rfl
theorem othC : P.cellsOf Xd = 3:=by kernel_rfl
theorem Qyi : (Q5Q 0).type = Q8F ∧ (Q5Q 0).offset = 0:=⟨by kernel_rfl,by kernel_rfl⟩
theorem Qyh : (Q5Q 1).type = YP ∧ (Q5Q 1).offset = 1:=⟨by kernel_rfl,by kernel_rfl⟩
theorem Qyg : (Q5Q 2).type = QeX ∧ (Q5Q 2).offset = 2:=⟨by kernel_rfl,by kernel_rfl⟩
set_option maxRecDepth 100000 in
theorem Q1p {H : Type} {enc : TypeId × Value → H} {W : World} {v : Value} {d : DataW H} {p : List MemPlace} (h : DataW.Trod enc P W 0 (fun _ => true) true Xd v d p) :
  letI:=YK W; ∃ ap pl ks,Ot W v ap pl ks:=by
 letI:=YK W
 obtain ⟨fuel,hf⟩:=h
 obtain ⟨xs,k,hk,hxy,hcl,hxl,hfi⟩:=DataW.trod_struct othU hf
 rw [othC] at hcl
 have hxl : xs.length = 3:=by simpa using hxl
 have g0:=hfi 0 (Q5Q 0) rfl
 have g1:=hfi 1 (Q5Q 1) rfl
 have g2:=hfi 2 (Q5Q 2) rfl
 rw [Qyi.1,Qyi.2] at g0
 rw [Qyh.1,Qyh.2] at g1
 rw [Qyg.1,Qyg.2] at g2
 obtain ⟨u0,e0,y0,h0⟩:=Q44 (by omega) (by kernel_rfl) (by omega) g0
 obtain ⟨u1,e1,y1,h1⟩:=Q44 (by omega) (by kernel_rfl) (by omega) g1
 obtain ⟨u2,e2,y2,h2⟩:=Q44 (by omega) (by kernel_rfl) (by omega) g2
 obtain ⟨b,hb,-⟩:=DataW.trod_bool (by kernel_rfl) h0
 obtain ⟨pv,pl,hpv,hps,-,-⟩:=Qhz h1
 obtain ⟨dv,ks,hdv,hbs,-,-⟩:=QoQ (by kernel_rfl) h2
 obtain rfl : u0 = .bool b:=by simpa using hb
 obtain rfl : u1 = pv:=by simpa using hpv
 obtain rfl : u2 = dv:=by simpa using hdv
 refine ⟨b,pl,ks,⟨_,_,Qih ?_,hps,hbs⟩⟩
 match hm : v.cells.toList,hcl with
 | [a,b,c],_ =>
   rw [hm] at e0 e1 e2
   simp at e0 e1 e2
   rw [e0,e1,e2]
end EA
end Go.Proofs.YtbnhggfiembejaaGreatDoor
