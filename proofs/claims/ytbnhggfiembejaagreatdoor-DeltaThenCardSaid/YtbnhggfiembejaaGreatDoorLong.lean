import Derived.Test.YtbnhggfiembejaaGreatDoorMap
namespace Go.Proofs.YtbnhggfiembejaaGreatDoor
open Go Go.RowKit X
set_option linter.unusedSimpArgs false
set_option linter.unusedVariables false
set_option linter.unusedSectionVars false
theorem Can.sub {e : E} {g : Key → Option Nat} {way p : Key} {part : Key} {val : Option Nat} {kids : UInt8 → E} (h : Can e g) (hf : (E.node part val kids).ZV) (hg : ∀ r,e.get (way ++ r) = (E.node part val kids).get r) (h1 : way <+: p) (h2 : p <+: way ++ part) :
  Can (.node (way ++ part) val kids) fun k => if p <+: k then g k else Option.none:=by
 refine ⟨Qal hf,fun k => ?_⟩
 by_cases hp : p <+: k
 · rw [if_pos hp]
   obtain ⟨s,rfl⟩:=h1.trans hp
   rw [QiL (q:=[]) (b:=[]),if_pos (List.prefix_append _ _),List.drop_left,← hg,h.get]
 · rw [if_neg hp]
   exact J3 fun h => hp (h2.trans h)
theorem Qdj (p : UInt8 → Bool) (f : UInt8 → Nat) (l : List UInt8) : CZ (l.map fun c => if p c then f c else 0) = CZ ((l.filter p).map f):=by
 induction l with
 | nil => rfl
 | cons a r ih =>
   rw [List.map_cons,CZ,ih,List.filter_cons]
   split
   · rw [List.map_cons,CZ]
   · simp
theorem E.Ky (part : Key) (val : Option Nat) (kids : UInt8 → E) : (E.node part val kids).long = CZ ((dom fun c => (kids c).opt).map fun c => (kids c).long + 1) + part.length:=by
 rw [E.long]
 congr 1
 exact Qdj (fun c => (kids c).opt.isSome) (fun c => (kids c).long + 1) Rf
theorem E.QhC : ∀ {e : E} {k : Key} {v : Nat},e.get k = some v → k.length ≤ e.long:=by
 intro e
 induction e with
 | nil => intro k v h; cases h
 | node part val kids ih =>
   intro k v h
   obtain ⟨s,rfl⟩:=E.Q6z h
   rw [E.Ky,List.length_append]
   cases s with
   | nil => simp
   | cons c s =>
     rw [Z8] at h
     have h1:=ih c h
     have h2 : c ∈ dom fun c => (kids c).opt:=Zd.2 (by
      refine E.BQ.2 fun e => ?_
      rw [e] at h; cases h)
     have:=Ay (l:=(dom fun c => (kids c).opt).map fun c => (kids c).long + 1) (List.mem_map.2 ⟨c,h2,rfl⟩)
     simp only [List.length_cons]
     omega
theorem Qm7 {l : List Nat} (h : l ≠ []) : CZ l ∈ l:=by
 induction l with
 | nil => exact absurd rfl h
 | cons a r ih =>
   rw [CZ]
   cases r with
   | nil => simp [CZ]
   | cons b s =>
     have:=ih (by simp)
     rcases Nat.le_total a (CZ (b :: s)) with h | h
     · rw [Nat.max_eq_right h]; exact List.mem_cons_of_mem _ this
     · rw [Nat.max_eq_left h]; exact List.mem_cons_self
theorem E.QpQ : ∀ {e : E},e.ZV → e ≠ .nil → ∃ k v,e.get k = some v ∧ k.length = e.long:=by
 intro e
 induction e with
 | nil => intro _ h; exact absurd rfl h
 | node part val kids ih =>
   intro hf _
   obtain ⟨h1,h2,h3⟩:=Dc hf
   rw [E.Ky]
   by_cases hc : (dom fun c => (kids c).opt) = []
   · have h0 : Y2 kids = 0:=by show (dom fun c => (kids c).opt).length = 0; rw [hc]; rfl
     obtain ⟨v,hv⟩:=Option.isSome_iff_exists.1 (h1 h0)
     exact ⟨part,v,by rw [get_nil,hv],by rw [hc]; simp [CZ]⟩
   · have hm:=Qm7 (l:=(dom fun c => (kids c).opt).map fun c => (kids c).long + 1) (by simpa using hc)
     obtain ⟨c,hcd,hce⟩:=List.mem_map.1 hm
     obtain ⟨k,v,hk,hl⟩:=ih c (h3 c) (E.BQ.1 (Zd.1 hcd))
     refine ⟨part ++ c :: k,v,by rw [Z8,hk],?_⟩
     rw [← hce,List.length_append,List.length_cons,hl]
     omega
theorem Can.long {e : E} {l : Kv} (h : Can e (look l)) (hr : Zp l) : e.long = CZ (l.map fun p => p.1.length):=by
 apply Nat.le_antisymm
 · by_cases e0 : e = .nil
   · subst e0; exact Nat.zero_le _
   · obtain ⟨k,v,hk,hl⟩:=E.QpQ h.fine e0
     rw [h.get] at hk
     rw [← hl]
     exact Ay (List.mem_map.2 ⟨(k,v),Ez hk,rfl⟩)
 · refine Qdi fun m hm => ?_
   obtain ⟨p,hp,rfl⟩:=List.mem_map.1 hm
   exact E.QhC (v:=p.2) (by rw [h.get]; exact hr.lk hp)
end Go.Proofs.YtbnhggfiembejaaGreatDoor
