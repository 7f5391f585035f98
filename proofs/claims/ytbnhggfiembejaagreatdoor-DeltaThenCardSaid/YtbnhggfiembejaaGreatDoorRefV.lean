import Derived.Test.YtbnhggfiembejaaGreatDoorRefK
section
namespace Go.Proofs.YtbnhggfiembejaaGreatDoor
open Go Go.RowKit X
set_option linter.unusedSimpArgs false
set_option linter.unusedVariables false
set_option linter.unusedSectionVars false
theorem Q7e {k : Key} {l : Kv} {i : Nat} (h : ∀ p ∈ l.take i,p.1 ≠ k) : look l k = look (l.drop i) k:=by
 induction l generalizing i with
 | nil => simp
 | cons p r ih =>
   cases i with
   | zero => simp
   | succ i =>
     rw [List.take_succ_cons] at h
     rw [List.drop_succ_cons]
     show (if p.1 = k then some p.2 else look r k) = _
     rw [if_neg (h p (by simp))]
     exact ih fun q hq => h q (List.mem_cons_of_mem _ hq)
variable [Floor]
section
variable {w : World} {v vb vk : Value} {l m : Kv} {k : Key}
theorem Qec (h : Ps w v l) (hk : Bs w vk k) (hl : l.length ≤ 100000) (hks : ∀ x ∈ l,x.1.length ≤ 65535) : Q6 P Im [v,vk] w fun r w' => r = QkP (look l k) ∧ Ext No w w':=by
 refine QeL ?_
 refine JN (fun n vs w' => ∃ i : Nat,vs = [.int .i64 i,.int .u64 0,.bool false] ∧ n = l.length - i ∧ i ≤ l.length ∧ (∀ p ∈ l.take i,p.1 ≠ k) ∧ Ext No w w') l.length ⟨0,rfl,rfl,by omega,by simp,Ext.refl _ _⟩ ?_
 rintro n vs g w1 ⟨i,rfl,rfl,hi,hno,he⟩
 unfold TA
 have h1:=h.Q4 he
 refine h1.len ?_
 refine ZF (fun hlt => ?_) fun hge => ?_
 · have hil : i < l.length:=by omega
   refine h1.key i rfl hil fun kv Wq => ?_
   refine (Q6D Wq (hk.Q4 he) (by have:=hks _ (List.getElem_mem hil); omega)).mono ?_
   rintro r w2 ⟨rfl,he2⟩
   refine ZF (fun hb => ?_) fun hb => ?_
   · refine (h1.Q4 he2).val i rfl hil ?_
     refine ⟨?_,he.Q0 he2⟩
     have : look l k = some l[i].2:=by
      rw [Q7e hno,List.drop_eq_getElem_cons hil]
      show (if l[i].1 = k then some l[i].2 else _) = _
      rw [if_pos hb]
     rw [this]; rfl
   · refine xi (r:=((i + 1 : Nat) : Int)) (by rw [QQ (by omega)]; omega) ?_
     refine JP (l.length - (i + 1)) (by omega) ⟨i + 1,rfl,rfl,by omega,fun p hp => ?_,he.Q0 he2⟩
     rw [← List.take_append_getElem hil] at hp
     rcases List.mem_append.1 hp with e | e
     · exact hno p e
     · rw [List.mem_singleton.1 e]; exact hb
 · have : i = l.length:=by omega
   subst this
   rw [List.take_length] at hno
   have : look l k = none:=KQ.2 hno
   rw [this]
   exact ⟨rfl,he⟩
end
end Go.Proofs.YtbnhggfiembejaaGreatDoor
end
section
namespace Go.Proofs.YtbnhggfiembejaaGreatDoor
open Go Go.RowKit X
set_option linter.unusedSimpArgs false
set_option linter.unusedVariables false
set_option linter.unusedSectionVars false
variable [Floor]
end Go.Proofs.YtbnhggfiembejaaGreatDoor
end
