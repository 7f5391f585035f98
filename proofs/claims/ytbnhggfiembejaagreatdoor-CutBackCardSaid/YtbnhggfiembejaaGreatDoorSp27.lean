import Derived.Test.YtbnhggfiembejaaGreatDoorOpen2
import Derived.Test.YtbnhggfiembejaaGreatDoorCut
namespace Go.Proofs.YtbnhggfiembejaaGreatDoor
open Go Go.RowKit X Go.ChangeShapes Go.WideShapes Go.ChangeAt
set_option linter.unusedSimpArgs false
set_option linter.unusedVariables false
set_option linter.unusedSectionVars false
namespace H7
noncomputable abbrev Q5N (i : Nat) : Field:=(P.fieldsOf Xc).getD i { name:="",type:=0,offset:=0,embedded:=false,tag:="",pkgPath:="",byteOffset:=0 }
theorem spnU : P.underlying Xc = some (.struct #[Q5N 0,Q5N 1,Q5N 2]):=by kernel_rfl
theorem spnC : P.cellsOf Xc = 3:=by kernel_rfl
theorem Qya : (Q5N 0).type = Ji ∧ (Q5N 0).offset = 0:=⟨by kernel_rfl,by kernel_rfl⟩
theorem Qy9 : (Q5N 1).type = Ji ∧ (Q5N 1).offset = 1:=⟨by kernel_rfl,by kernel_rfl⟩
theorem Qy8 : (Q5N 2).type = Q8F ∧ (Q5N 2).offset = 2:=⟨by kernel_rfl,by kernel_rfl⟩
set_option maxRecDepth 100000 in
theorem Qa8 {H : Type} {enc : TypeId × Value → H} {W : World} {v : Value} {d : DataW H} {p : List MemPlace} (h : DataW.Trod enc P W 0 (fun _ => true) true Xc v d p) :
  letI:=YK W; ∃ fv tv op f t,v = spV fv tv op ∧ Bs W fv f ∧ Bs W tv t:=by
 letI:=YK W
 obtain ⟨fuel,hf⟩:=h
 obtain ⟨xs,k,hk,hxy,hcl,hxl,hfi⟩:=DataW.trod_struct spnU hf
 rw [spnC] at hcl
 have hxl : xs.length = 3:=by simpa using hxl
 have g0:=hfi 0 (Q5N 0) rfl
 have g1:=hfi 1 (Q5N 1) rfl
 have g2:=hfi 2 (Q5N 2) rfl
 rw [Qya.1,Qya.2] at g0
 rw [Qy9.1,Qy9.2] at g1
 rw [Qy8.1,Qy8.2] at g2
 obtain ⟨u0,e0,y0,h0⟩:=Q44 (by omega) (by kernel_rfl) (by omega) g0
 obtain ⟨u1,e1,y1,h1⟩:=Q44 (by omega) (by kernel_rfl) (by omega) g1
 obtain ⟨u2,e2,y2,h2⟩:=Q44 (by omega) (by kernel_rfl) (by omega) g2
 obtain ⟨fv,f,hfv,hbf,-⟩:=Q2H h0
 obtain ⟨tv,t,htv,hbt,-⟩:=Q2H h1
 obtain ⟨b,hb,-⟩:=DataW.trod_bool (by kernel_rfl) h2
 obtain rfl : u0 = fv:=by simpa using hfv
 obtain rfl : u1 = tv:=by simpa using htv
 obtain rfl : u2 = .bool b:=by simpa using hb
 refine ⟨u0,u1,b,f,t,Qih ?_,hbf,hbt⟩
 match hm : v.cells.toList,hcl with
 | [a,b,c],_ =>
   rw [hm] at e0 e1 e2
   simp at e0 e1 e2
   rw [e0,e1,e2]
end H7
end Go.Proofs.YtbnhggfiembejaaGreatDoor
