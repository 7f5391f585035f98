import Derived.Test.YtbnhggfiembejaaGreatDoorCut
import Derived.Test.YtbnhggfiembejaaGreatDoorG1
import Derived.Test.YtbnhggfiembejaaGreatDoorPs
import Derived.Test.YtbnhggfiembejaaGreatDoorRefK
import Derived.Test.YtbnhggfiembejaaGreatDoorSAu
import Derived.Test.YtbnhggfiembejaaGreatDoorRefV
import Derived.Test.YtbnhggfiembejaaGreatDoorUni
import Derived.Test.YtbnhggfiembejaaGreatDoorSAe
import Derived.Test.YtbnhggfiembejaaGreatDoorNode
import Derived.Test.YtbnhggfiembejaaGreatDoorConcat
import Derived.Test.YtbnhggfiembejaaGreatDoorList
import Derived.Test.YtbnhggfiembejaaGreatDoorUni3
import Derived.Test.YtbnhggfiembejaaGreatDoorGr
section
namespace Go.Proofs.YtbnhggfiembejaaGreatDoor
open Go Go.RowKit X
set_option linter.unusedSimpArgs false
set_option linter.unusedVariables false
set_option linter.unusedSectionVars false
structure Chg where
 key : Key
 kind : Int
 was : Nat
 is : Nat
deriving DecidableEq
def Q6t (l : List Chg) : Prop:=l.Pairwise fun x y => Xr x.key y.key
def J2 : List Chg → Key → Option Chg
 | [],_ => none
 | c :: r,k => if c.key = k then some c else J2 r k
theorem Qcr {l : List Chg} {k : Key} {c : Chg} (h : J2 l k = some c) : c ∈ l ∧ c.key = k:=by
 induction l with
 | nil => cases h
 | cons x r ih =>
   rw [J2] at h
   split at h
   · rename_i e
     rw [← Option.some.inj h]
     exact ⟨by simp,e⟩
   · obtain ⟨h1,h2⟩:=ih h
     exact ⟨List.mem_cons_of_mem _ h1,h2⟩
theorem QDD {l : List Chg} {k : Key} : J2 l k = none ↔ ∀ c ∈ l,c.key ≠ k:=by
 induction l with
 | nil => simp [J2]
 | cons x r ih =>
   rw [J2]
   split
   · rename_i h; simp [h]
   · rename_i h; rw [ih]; simp [h]
theorem Q6t.lk {l : List Chg} (h : Q6t l) {c : Chg} (hc : c ∈ l) : J2 l c.key = some c:=by
 induction l with
 | nil => cases hc
 | cons x r ih =>
   obtain ⟨h1,h2⟩:=List.pairwise_cons.1 h
   rw [J2]
   rcases List.mem_cons.1 hc with rfl | hc
   · rw [if_pos rfl]
   · rw [if_neg fun e => Ep (e ▸ h1 c hc)]
     exact ih h2 hc
theorem Qw6 (l m : List Chg) (k : Key) : J2 (l ++ m) k = (J2 l k).or (J2 m k):=by
 induction l with
 | nil => simp [J2]
 | cons p r ih =>
   rw [List.cons_append,J2,J2]
   split
   · rfl
   · exact ih
theorem Q6t.ext {l m : List Chg} (hl : Q6t l) (hm : Q6t m) (h : ∀ k,J2 l k = J2 m k) : l = m:=by
 have key : ∀ {l m : List Chg},Q6t l → Q6t m → (∀ k,J2 l k = J2 m k) → ∀ p ∈ l,p ∈ m:=fun {l m} hl hm h p hp => by
  have:=hl.lk hp
  rw [h] at this
  exact (Qcr this).1
 have k1:=key hl hm h
 have k2:=key hm hl fun k => (h k).symm
 clear h key
 induction l generalizing m with
 | nil =>
   cases m with
   | nil => rfl
   | cons q s => exact absurd (k2 q (by simp)) (by simp)
 | cons p r ih =>
   cases m with
   | nil => exact absurd (k1 p (by simp)) (by simp)
   | cons q s =>
     obtain ⟨h1,h2⟩:=List.pairwise_cons.1 hl
     obtain ⟨h3,h4⟩:=List.pairwise_cons.1 hm
     have e : p = q:=by
      rcases List.mem_cons.1 (k1 p (by simp)) with e | e
      · exact e
      · rcases List.mem_cons.1 (k2 q (by simp)) with e' | e'
        · exact e'.symm
        · exact absurd (h1 q e') (Q2l (h3 p e))
     subst e
     congr 1
     refine ih h2 h4 (fun x hx => ?_) fun x hx => ?_
     · rcases List.mem_cons.1 (k1 x (by simp [hx])) with e | e
       · subst e; exact absurd (h1 x hx) Ep
       · exact e
     · rcases List.mem_cons.1 (k2 x (by simp [hx])) with e | e
       · subst e; exact absurd (h3 x hx) Ep
       · exact e
def DR (k : Key) : Option Nat → Option Nat → Option Chg
 | some v,some w => if v = w then none else some ⟨k,3,v,w⟩
 | some v,none => some ⟨k,2,v,0⟩
 | none,some w => some ⟨k,1,0,w⟩
 | none,none => none
theorem Qco {k : Key} {x y : Option Nat} {c : Chg} (h : DR k x y = some c) : c.key = k:=by
 cases x <;> cases y <;> simp only [DR] at h
 · cases h
 · rw [← Option.some.inj h]
 · rw [← Option.some.inj h]
 · split at h
   · cases h
   · rw [← Option.some.inj h]
def Qgg (a b : Kv) : Kv:=b.foldl (fun s p => EB s p.1 0) a
theorem QG2 : ∀ {a b : Kv},Zp a → ∀ k,(look (Qgg a b) k).isSome = ((look a k).isSome || (look b k).isSome):=by
 intro a b
 induction b generalizing a with
 | nil => intro _ k; simp [Qgg,look]
 | cons p r ih =>
   intro ha k
   show (look (Qgg (EB a p.1 0) r) k).isSome = _
   rw [ih (Q7r ha _ _) k,Qad ha]
   rw [look]
   by_cases e : k = p.1
   · rw [if_pos e,if_pos e.symm]; simp
   · rw [if_neg e,if_neg (Ne.symm e)]
theorem QDJ : ∀ {a b : Kv},Zp a → Zp (Qgg a b):=by
 intro a b
 induction b generalizing a with
 | nil => exact id
 | cons p r ih => exact fun ha => ih (Q7r ha _ _)
theorem QG1 (a b : Kv) (p : Key × Nat) : Qgg a (b ++ [p]) = EB (Qgg a b) p.1 0:=by simp [Qgg]
theorem Qw1 : ∀ {a b : Kv},(Qgg a b).length ≤ a.length + b.length:=by
 intro a b
 induction b generalizing a with
 | nil => exact Nat.le_refl _
 | cons p r ih =>
   have h1:=ih (a:=EB a p.1 0)
   have h2:=Sg a p.1 0
   show (Qgg (EB a p.1 0) r).length ≤ _
   simp; omega
theorem QEP : ∀ {a b : Kv} {p : Key × Nat},p ∈ Qgg a b → p ∈ a ∨ ∃ q ∈ b,p.1 = q.1:=by
 intro a b
 induction b generalizing a with
 | nil => intro p h; exact .inl h
 | cons x r ih =>
   intro p h
   rcases ih (a:=EB a x.1 0) h with h | ⟨q,hq,e⟩
   · rcases Qdx h with rfl | h
     · exact .inr ⟨x,by simp,rfl⟩
     · exact .inl h
   · exact .inr ⟨q,List.mem_cons_of_mem _ hq,e⟩
theorem QDC {L : Kv} {f : Key × Nat → Option Chg} (h : Zp L) (hf : ∀ x c,f x = some c → c.key = x.1) : Q6t (L.filterMap f) :=
 List.Pairwise.filterMap _ (R:=fun a b : Key × Nat => Xr a.1 b.1) (fun a b hab x hx y hy => by rw [hf _ _ hx,hf _ _ hy]; exact hab) h
theorem QE1 {L : Kv} {f : Key → Option Chg} (hf : ∀ k c,f k = some c → c.key = k) (k : Key) : J2 (L.filterMap fun x => f x.1) k = if (look L k).isSome then f k else none:=by
 induction L with
 | nil => rfl
 | cons x r ih =>
   by_cases e : x.1 = k
   · subst e
     have h1 : look (x :: r) x.1 = some x.2:=by simp [look]
     rw [h1]
     cases hm : f x.1 with
     | none =>
       rw [List.filterMap_cons_none (f:=fun x : Key × Nat => f x.1) hm,ih,hm]
       split <;> rfl
     | some c =>
       rw [List.filterMap_cons_some (f:=fun x : Key × Nat => f x.1) hm,J2,if_pos (hf _ _ hm)]
       rfl
   · have h1 : look (x :: r) k = look r k:=by simp [look,e]
     rw [h1,← ih]
     cases hm : f x.1 with
     | none => rw [List.filterMap_cons_none (f:=fun x : Key × Nat => f x.1) hm]
     | some c => rw [List.filterMap_cons_some (f:=fun x : Key × Nat => f x.1) hm,J2,if_neg (by rw [hf _ _ hm]; exact e)]
def ofC (a b : Kv) : List Chg:=(Qgg a b).filterMap fun x => DR x.1 (look a x.1) (look b x.1)
theorem Q97 {a b : Kv} (ha : Zp a) : Q6t (ofC a b):=QDC (QDJ ha) fun x c h => Qco h
theorem Q9t {a b : Kv} (ha : Zp a) (k : Key) : J2 (ofC a b) k = DR k (look a k) (look b k):=by
 unfold ofC
 rw [QE1 (f:=fun k => DR k (look a k) (look b k)) (fun k c h => Qco h),QG2 ha]
 cases h1 : look a k with
 | none =>
   cases h2 : look b k with
   | none => rfl
   | some y => rfl
 | some x => rfl
theorem Qg5 {a b : Kv} : (ofC a b).length ≤ a.length + b.length:=Nat.le_trans (List.length_filterMap_le _ _) Qw1
def Q9g (c : Chg) : Bool:=if c.kind = 1 then decide (c.was = 0) else if c.kind = 2 then decide (c.is = 0) else decide (c.was ≠ c.is)
instance (l : List Chg) : Decidable (Q6t l):=inferInstanceAs (Decidable (List.Pairwise _ _))
def D8 (l : List Chg) : Nat :=
 if ∃ c ∈ l,65535 < c.key.length then 8 else if ∃ c ∈ l,c.kind < 1 ∨ 3 < c.kind then 9 else if ∃ c ∈ l,Q9g c = false then 3 else if Q6t l then 0 else 12
theorem Q5U {l : List Chg} : D8 l = 0 ↔ (∀ c ∈ l,c.key.length ≤ 65535) ∧ (∀ c ∈ l,1 ≤ c.kind ∧ c.kind ≤ 3) ∧ (∀ c ∈ l,Q9g c = true) ∧ Q6t l:=by
 unfold D8
 constructor
 · intro h
   split at h
   · cases h
   rename_i h1
   split at h
   · cases h
   rename_i h2
   split at h
   · cases h
   rename_i h3
   split at h
   · rename_i h4
     exact ⟨fun c hc => by apply Nat.le_of_not_lt; intro hq; exact h1 ⟨c,hc,hq⟩,fun c hc => by
      have : ¬ (c.kind < 1 ∨ 3 < c.kind):=fun hq => h2 ⟨c,hc,hq⟩
      omega,fun c hc => by
      cases hq : Q9g c with
      | true => rfl
      | false => exact absurd ⟨c,hc,hq⟩ h3,h4⟩
   · cases h
 · rintro ⟨h1,h2,h3,h4⟩
   rw [if_neg (by rintro ⟨c,hc,hq⟩; have:=h1 c hc; omega),if_neg (by rintro ⟨c,hc,hq⟩; have:=h2 c hc; omega),if_neg (by rintro ⟨c,hc,hq⟩; rw [h3 c hc] at hq; cases hq),if_pos h4]
def Q6H (c : Chg) : Option Nat → Nat
 | none => if c.kind = 1 then 0 else 6
 | some v => if c.kind = 1 then 7 else if v = c.was then 0 else 3
def Qcw (c : Chg) : Chg:=⟨c.key,if c.kind = 1 then 2 else if c.kind = 2 then 1 else c.kind,c.is,c.was⟩
def doC (l : Kv) (c : Chg) : Kv:=if c.kind = 2 then Sq c.key l else EB l c.key c.is
end Go.Proofs.YtbnhggfiembejaaGreatDoor
end
section
namespace Go.Proofs.YtbnhggfiembejaaGreatDoor
open Go Go.RowKit X
set_option linter.unusedSimpArgs false
set_option linter.unusedVariables false
set_option linter.unusedSectionVars false
def Chg.then' (c : Chg) : Option Nat:=if c.kind = 2 then none else some c.is
def Chg.before (c : Chg) : Option Nat:=if c.kind = 1 then none else some c.was
def Qfd : Option Chg → Option Chg → Nat
 | some a,some b => Q6H b a.then'
 | _,_ => 0
def Qn7 (k : Key) : Option Chg → Option Chg → Option Chg
 | some a,some b => DR k a.before b.then'
 | some a,none => some a
 | none,y => y
structure Qwf (a b : List Chg) (e : Nat) (L : List Chg) : Prop where
 good : e = 0 → Q6t L ∧ (∀ k,J2 L k = Qn7 k (J2 a k) (J2 b k)) ∧ ∀ k,Qfd (J2 a k) (J2 b k) = 0
 bad : e ≠ 0 → L = [] ∧ ∃ k,Qfd (J2 a k) (J2 b k) = e ∧ ∀ k',Xr k' k → Qfd (J2 a k') (J2 b k') = 0
theorem Qwf.uniq {a b : List Chg} {e e' : Nat} {L L' : List Chg} (h : Qwf a b e L) (h' : Qwf a b e' L') : e = e' ∧ L = L':=by
 by_cases h0 : e = 0
 · obtain ⟨h1,h2,h3⟩:=h.good h0
   by_cases h0' : e' = 0
   · obtain ⟨h1',h2',h3'⟩:=h'.good h0'
     exact ⟨h0.trans h0'.symm,h1.ext h1' fun k => (h2 k).trans (h2' k).symm⟩
   · obtain ⟨-,k,hk,-⟩:=h'.bad h0'
     exact absurd (hk.symm.trans (h3 k)) h0'
 · obtain ⟨h1,k,hk,hl⟩:=h.bad h0
   by_cases h0' : e' = 0
   · obtain ⟨-,-,h3'⟩:=h'.good h0'
     exact absurd (hk.symm.trans (h3' k)) h0
   · obtain ⟨h1',k',hk',hl'⟩:=h'.bad h0'
     refine ⟨?_,h1.trans h1'.symm⟩
     rcases Qba k k' with h2 | h2 | h2
     · exact absurd (hk.symm.trans (hl' k h2)) h0
     · rw [← hk,← hk',h2]
     · exact absurd (hk'.symm.trans (hl k' h2)) h0'
def Q6l (a b : List Chg) : Kv:=b.foldl (fun s c => EB s c.key 0) (a.foldl (fun s c => EB s c.key 0) [])
theorem Qf9 (l : List Chg) : ∀ {s : Kv},Zp s → Zp (l.foldl (fun s c => EB s c.key 0) s) ∧ ∀ k,(look (l.foldl (fun s c => EB s c.key 0) s) k).isSome = ((look s k).isSome || (J2 l k).isSome):=by
 induction l with
 | nil => intro s hs; exact ⟨hs,fun k => by simp [J2]⟩
 | cons c r ih =>
   intro s hs
   obtain ⟨h1,h2⟩:=ih (Q7r hs c.key 0)
   refine ⟨h1,fun k => ?_⟩
   show (look (r.foldl _ (EB s c.key 0)) k).isSome = _
   rw [h2 k,Qad hs,J2]
   by_cases e : k = c.key
   · rw [if_pos e,if_pos e.symm]; simp
   · rw [if_neg e,if_neg (Ne.symm e)]
theorem QhF (l : List Chg) : ∀ {s : Kv},(l.foldl (fun s c => EB s c.key 0) s).length ≤ s.length + l.length:=by
 induction l with
 | nil => intro s; exact Nat.le_refl _
 | cons c r ih =>
   intro s
   have h1:=ih (s:=EB s c.key 0)
   have h2:=Sg s c.key 0
   show (r.foldl _ (EB s c.key 0)).length ≤ _
   simp at h1 ⊢; omega
theorem QvY (l : List Chg) : ∀ {s : Kv} {p : Key × Nat},p ∈ l.foldl (fun s c => EB s c.key 0) s → p ∈ s ∨ ∃ c ∈ l,p.1 = c.key:=by
 induction l with
 | nil => intro s p h; exact .inl h
 | cons x r ih =>
   intro s p h
   rcases ih (s:=EB s x.key 0) h with h | ⟨q,hq,e⟩
   · rcases Qdx h with rfl | h
     · exact .inr ⟨x,by simp,rfl⟩
     · exact .inl h
   · exact .inr ⟨q,List.mem_cons_of_mem _ hq,e⟩
theorem QEE (a b : List Chg) : Zp (Q6l a b):=(Qf9 b (Qf9 a List.Pairwise.nil).1).1
theorem QDF (a b : List Chg) (k : Key) : (look (Q6l a b) k).isSome = ((J2 a k).isSome || (J2 b k).isSome):=by
 unfold Q6l
 rw [(Qf9 b (Qf9 a List.Pairwise.nil).1).2 k,(Qf9 a List.Pairwise.nil).2 k]
 simp [look]
theorem QAt (a b : List Chg) : (Q6l a b).length ≤ a.length + b.length:=by
 have h1:=QhF b (s:=a.foldl (fun s c => EB s c.key 0) [])
 have h2:=QhF a (s:=[])
 unfold Q6l
 simp at h2
 omega
theorem QFP {a b : List Chg} {p : Key × Nat} (h : p ∈ Q6l a b) : (∃ c ∈ a,p.1 = c.key) ∨ ∃ c ∈ b,p.1 = c.key:=by
 rcases QvY b h with h | h
 · rcases QvY a h with h | h
   · cases h
   · exact .inl h
 · exact .inr h
def goC (a b : List Chg) (l : Kv) : Option Nat:=(l.find? fun x => decide (Qfd (J2 a x.1) (J2 b x.1) ≠ 0)).map fun x => Qfd (J2 a x.1) (J2 b x.1)
abbrev QDR (a b : List Chg) (l : Kv) : List Chg:=l.filterMap fun x => Qn7 x.1 (J2 a x.1) (J2 b x.1)
theorem QDb {a b : List Chg} {k : Key} {c : Chg} (h : Qn7 k (J2 a k) (J2 b k) = some c) : c.key = k:=by
 cases h1 : J2 a k with
 | none =>
   rw [h1] at h
   exact (Qcr (show J2 b k = some c from h)).2
 | some x =>
   cases h2 : J2 b k with
   | none => rw [h1,h2] at h; rw [← Option.some.inj h]; exact (Qcr h1).2
   | some y => rw [h1,h2] at h; exact Qco h
theorem QFE {a b : List Chg} {k : Key} (h : Qfd (J2 a k) (J2 b k) ≠ 0) : (look (Q6l a b) k).isSome = true:=by
 rw [QDF]
 cases h1 : J2 a k with
 | none => rw [h1] at h; exact absurd rfl h
 | some x => simp
theorem QFI (a b : List Chg) : Qwf a b ((goC a b (Q6l a b)).getD 0) (if (goC a b (Q6l a b)).isSome then [] else QDR a b (Q6l a b)):=by
 have hr:=QEE a b
 cases hf : (Q6l a b).find? fun x => decide (Qfd (J2 a x.1) (J2 b x.1) ≠ 0) with
 | none =>
   have e : goC a b (Q6l a b) = none:=by unfold goC; rw [hf]; rfl
   rw [e]
   have hall : ∀ k,Qfd (J2 a k) (J2 b k) = 0:=fun k => by
    refine Decidable.byContradiction fun hb => ?_
    obtain ⟨v,hv⟩:=Option.isSome_iff_exists.1 (QFE hb)
    have:=List.find?_eq_none.1 hf (k,v) (Ez hv)
    simp at this
    exact hb this
   refine ⟨fun _ => ⟨QDC hr fun x c h => QDb h,fun k => ?_,hall⟩,fun h => absurd rfl h⟩
   show J2 (QDR a b (Q6l a b)) k = _
   rw [QDR,QE1 (f:=fun k => Qn7 k (J2 a k) (J2 b k)) (fun k c h => QDb h),QDF]
   cases h1 : J2 a k with
   | none =>
     cases h2 : J2 b k with
     | none => rfl
     | some y => rfl
   | some x => rfl
 | some x =>
   have e : goC a b (Q6l a b) = some (Qfd (J2 a x.1) (J2 b x.1)):=by unfold goC; rw [hf]; rfl
   rw [e]
   have hx : Qfd (J2 a x.1) (J2 b x.1) ≠ 0:=by simpa using List.find?_some hf
   refine ⟨fun h => absurd h hx,fun _ => ⟨rfl,x.1,rfl,fun k' hk' => ?_⟩⟩
   refine Decidable.byContradiction fun hb => ?_
   obtain ⟨v,hv⟩:=Option.isSome_iff_exists.1 (QFE hb)
   obtain ⟨-,a1,b1,hs,hn⟩:=List.find?_eq_some_iff_append.1 hf
   have hm:=Ez hv
   rw [hs] at hm hr
   rcases List.mem_append.1 hm with hm | hm
   · have:=hn _ hm
     simp at this
     exact hb this
   · rcases List.mem_cons.1 hm with hm | hm
     · rw [← hm] at hk'; exact Ep hk'
     · have:=(List.pairwise_cons.1 (List.pairwise_append.1 hr).2.1).1 _ hm
       exact Q2l this hk'
def QAm (l : List Chg) (r : Nat × List Chg) : Nat × List Chg:=(r.1,if r.1 = 0 then l ++ r.2 else [])
def Q98 : Nat → List Chg → List Chg → Nat × List Chg
 | 0,a,b => (0,a ++ b)
 | _ + 1,[],b => (0,b)
 | _ + 1,a,[] => (0,a)
 | n + 1,x :: a,y :: b =>
   if Xr x.key y.key then QAm [x] (Q98 n a (y :: b))
   else if Xr y.key x.key then QAm [y] (Q98 n (x :: a) b)
   else if Q6H y x.then' = 0 then QAm (DR x.key x.before y.then').toList (Q98 n a b)
   else (Q6H y x.then',[])
theorem Qkc {x : Chg} {r : List Chg} (h : Q6t (x :: r)) {k : Key} (hk : ¬ Xr x.key k) : J2 r k = none:=by
 obtain ⟨h1,-⟩:=List.pairwise_cons.1 h
 refine QDD.2 fun c hc e => ?_
 have:=h1 c hc
 rw [e] at this
 exact hk this
theorem Qpi {k : Key} {y : Option Chg} : Qn7 k none y = y:=by cases y <;> rfl
theorem Qjv {y : Option Chg} : Qfd none y = 0:=by cases y <;> rfl
theorem Qnd {x : Option Chg} : Qfd x none = 0:=by cases x <;> rfl
theorem QEF {k : Key} {x : Option Chg} : Qn7 k x none = x:=by cases x <;> rfl
theorem Qzj {x : Chg} {L : List Chg} (h : Q6t L) (hx : ∀ c ∈ L,Xr x.key c.key) : Q6t (x :: L):=List.pairwise_cons.2 ⟨hx,h⟩
theorem Qz4 {L : List Chg} {c : Chg} (h : Q6t L) (hc : c ∈ L) : J2 L c.key = some c:=h.lk hc
theorem QyO : ∀ {n : Nat} {a b : List Chg},a.length + b.length ≤ n → Q6t a → Q6t b → Qwf a b (Q98 n a b).1 (Q98 n a b).2:=by
 intro n
 induction n with
 | zero =>
   intro a b hl ha hb
   have e1 : a = []:=List.eq_nil_of_length_eq_zero (by omega)
   have e2 : b = []:=List.eq_nil_of_length_eq_zero (by omega)
   subst e1 e2
   exact ⟨fun _ => ⟨List.Pairwise.nil,fun k => rfl,fun k => rfl⟩,fun h => absurd rfl h⟩
 | succ n ih =>
   intro a b hl ha hb
   cases a with
   | nil => exact ⟨fun _ => ⟨hb,fun k => (Qpi).symm,fun k => Qjv⟩,fun h => absurd rfl h⟩
   | cons x a =>
     cases b with
     | nil => exact ⟨fun _ => ⟨ha,fun k => (QEF).symm,fun k => Qnd⟩,fun h => absurd rfl h⟩
     | cons y b =>
       obtain ⟨ha1,ha2⟩:=List.pairwise_cons.1 ha
       obtain ⟨hb1,hb2⟩:=List.pairwise_cons.1 hb
       simp at hl
       rw [Q98]
       by_cases h1 : Xr x.key y.key
       · rw [if_pos h1]
         show Qwf _ _ (Q98 n a (y :: b)).1 (if (Q98 n a (y :: b)).1 = 0 then x :: (Q98 n a (y :: b)).2 else [])
         have hI:=ih (a:=a) (b:=y :: b) (by simp; omega) ha2 hb
         have hno : ∀ k,¬ Xr y.key k → k ≠ y.key → J2 (y :: b) k = none:=fun k hk hne => by
          rw [J2,if_neg (Ne.symm hne)]; exact Qkc hb hk
         have hyx : J2 (y :: b) x.key = none:=hno _ (Q2l h1) (Qmh h1)
         have hax : J2 a x.key = none:=Qkc ha Ep
         have hlk : ∀ k,k ≠ x.key → J2 (x :: a) k = J2 a k:=fun k hk => by rw [J2,if_neg (Ne.symm hk)]
         have hxx : J2 (x :: a) x.key = some x:=by rw [J2,if_pos rfl]
         refine ⟨fun h0 => ?_,fun h0 => ?_⟩
         · obtain ⟨r1,r2,r3⟩:=hI.good h0
           rw [if_pos h0]
           refine ⟨Qzj r1 fun c hc => ?_,fun k => ?_,fun k => ?_⟩
           · have h2:=Qz4 r1 hc
             rw [r2] at h2
             have hk : (J2 a c.key).isSome = true ∨ (J2 (y :: b) c.key).isSome = true:=by
              cases h3 : J2 a c.key with
              | some _ => exact .inl rfl
              | none =>
                rw [h3,Qpi] at h2
                rw [h2]; exact .inr rfl
             rcases hk with hk | hk
             · obtain ⟨d,hd⟩:=Option.isSome_iff_exists.1 hk
               obtain ⟨m1,m2⟩:=Qcr hd
               rw [← m2]; exact ha1 d m1
             · obtain ⟨d,hd⟩:=Option.isSome_iff_exists.1 hk
               obtain ⟨m1,m2⟩:=Qcr hd
               rw [← m2]
               rcases List.mem_cons.1 m1 with rfl | m1
               · exact h1
               · exact Az h1 (hb1 d m1)
           · rw [J2]
             by_cases e : x.key = k
             · subst e
               rw [if_pos rfl,hxx,hyx]; rfl
             · rw [if_neg e,r2,hlk k (Ne.symm e)]
           · by_cases e : k = x.key
             · subst e; rw [hyx]; exact Qnd
             · rw [hlk k e]; exact r3 k
         · obtain ⟨r1,k,r2,r3⟩:=hI.bad h0
           refine ⟨if_neg h0,k,?_,fun k' hk' => ?_⟩
           · by_cases e : k = x.key
             · subst e
               rw [hyx,Qnd] at r2
               exact absurd r2.symm h0
             · rw [hlk k e]; exact r2
           · by_cases e : k' = x.key
             · subst e; rw [hyx]; exact Qnd
             · rw [hlk k' e]; exact r3 k' hk'
       · rw [if_neg h1]
         by_cases h2 : Xr y.key x.key
         · rw [if_pos h2]
           show Qwf _ _ (Q98 n (x :: a) b).1 (if (Q98 n (x :: a) b).1 = 0 then y :: (Q98 n (x :: a) b).2 else [])
           have hI:=ih (a:=x :: a) (b:=b) (by simp; omega) ha hb2
           have hxy : J2 (x :: a) y.key = none:=by
            rw [J2,if_neg (Qmh h2).symm]; exact Qkc ha (Q2l h2)
           have hby : J2 b y.key = none:=Qkc hb Ep
           have hlk : ∀ k,k ≠ y.key → J2 (y :: b) k = J2 b k:=fun k hk => by rw [J2,if_neg (Ne.symm hk)]
           have hyy : J2 (y :: b) y.key = some y:=by rw [J2,if_pos rfl]
           refine ⟨fun h0 => ?_,fun h0 => ?_⟩
           · obtain ⟨r1,r2,r3⟩:=hI.good h0
             rw [if_pos h0]
             refine ⟨Qzj r1 fun c hc => ?_,fun k => ?_,fun k => ?_⟩
             · have h4:=Qz4 r1 hc
               rw [r2] at h4
               have hk : (J2 (x :: a) c.key).isSome = true ∨ (J2 b c.key).isSome = true:=by
                cases h3 : J2 (x :: a) c.key with
                | some _ => exact .inl rfl
                | none =>
                  rw [h3,Qpi] at h4
                  rw [h4]; exact .inr rfl
               rcases hk with hk | hk
               · obtain ⟨d,hd⟩:=Option.isSome_iff_exists.1 hk
                 obtain ⟨m1,m2⟩:=Qcr hd
                 rw [← m2]
                 rcases List.mem_cons.1 m1 with rfl | m1
                 · exact h2
                 · exact Az h2 (ha1 d m1)
               · obtain ⟨d,hd⟩:=Option.isSome_iff_exists.1 hk
                 obtain ⟨m1,m2⟩:=Qcr hd
                 rw [← m2]; exact hb1 d m1
             · rw [J2]
               by_cases e : y.key = k
               · subst e
                 rw [if_pos rfl,hxy,hyy]; rfl
               · rw [if_neg e,r2,hlk k (Ne.symm e)]
             · by_cases e : k = y.key
               · subst e; rw [hxy]; exact Qjv
               · rw [hlk k e]; exact r3 k
           · obtain ⟨r1,k,r2,r3⟩:=hI.bad h0
             refine ⟨if_neg h0,k,?_,fun k' hk' => ?_⟩
             · by_cases e : k = y.key
               · subst e
                 rw [hxy,Qjv] at r2
                 exact absurd r2.symm h0
               · rw [hlk k e]; exact r2
             · by_cases e : k' = y.key
               · subst e; rw [hxy]; exact Qjv
               · rw [hlk k' e]; exact r3 k' hk'
         · rw [if_neg h2]
           have hxy : x.key = y.key:=by
            rcases Qba x.key y.key with h | h | h
            · exact absurd h h1
            · exact h
            · exact absurd h h2
           have hxx : J2 (x :: a) x.key = some x:=by rw [J2,if_pos rfl]
           have hyx : J2 (y :: b) x.key = some y:=by rw [J2,if_pos hxy.symm]
           have QGr : ∀ k,k ≠ x.key → J2 (x :: a) k = J2 a k:=fun k hk => by rw [J2,if_neg (Ne.symm hk)]
           have QHg : ∀ k,k ≠ x.key → J2 (y :: b) k = J2 b k:=fun k hk => by rw [J2,if_neg (by rw [← hxy]; exact Ne.symm hk)]
           have hax : ∀ k,¬ Xr x.key k → J2 a k = none:=fun k hk => Qkc ha hk
           have hbx : ∀ k,¬ Xr x.key k → J2 b k = none:=fun k hk => Qkc hb (by rw [← hxy]; exact hk)
           by_cases h3 : Q6H y x.then' = 0
           · rw [if_pos h3]
             show Qwf _ _ (Q98 n a b).1 (if (Q98 n a b).1 = 0 then (DR x.key x.before y.then').toList ++ (Q98 n a b).2 else [])
             have hI:=ih (a:=a) (b:=b) (by omega) ha2 hb2
             have hb0 : Qfd (some x) (some y) = 0:=h3
             refine ⟨fun h0 => ?_,fun h0 => ?_⟩
             · obtain ⟨r1,r2,r3⟩:=hI.good h0
               rw [if_pos h0]
               have hgt : ∀ c ∈ (Q98 n a b).2,Xr x.key c.key:=fun c hc => by
                have h4:=Qz4 r1 hc
                rw [r2] at h4
                refine Decidable.byContradiction fun hn => ?_
                rw [hax _ hn,hbx _ hn] at h4
                cases h4
               have hr : Q6t ((DR x.key x.before y.then').toList ++ (Q98 n a b).2):=by
                cases ht : DR x.key x.before y.then' with
                | none => exact r1
                | some c =>
                  have hck:=Qco ht
                  exact Qzj r1 fun d hd => by rw [hck]; exact hgt d hd
               refine ⟨hr,fun k => ?_,fun k => ?_⟩
               · show J2 ((DR x.key x.before y.then').toList ++ (Q98 n a b).2) k = _
                 by_cases e : k = x.key
                 · subst e
                   rw [hxx,hyx,Qw6,r2,hax _ Ep,hbx _ Ep]
                   show (J2 (DR x.key x.before y.then').toList x.key).or none = DR x.key x.before y.then'
                   cases ht : DR x.key x.before y.then' with
                   | none => rfl
                   | some c =>
                     have hck:=Qco ht
                     show (J2 [c] x.key).or none = _
                     rw [J2,if_pos hck]; rfl
                 · rw [QGr k e,QHg k e,← r2,Qw6]
                   cases ht : DR x.key x.before y.then' with
                   | none => rfl
                   | some c =>
                     have hck:=Qco ht
                     show (J2 [c] k).or _ = _
                     rw [J2,if_neg (by rw [hck]; exact Ne.symm e)]; rfl
               · by_cases e : k = x.key
                 · subst e; rw [hxx,hyx]; exact hb0
                 · rw [QGr k e,QHg k e]; exact r3 k
             · obtain ⟨r1,k,r2,r3⟩:=hI.bad h0
               refine ⟨if_neg h0,k,?_,fun k' hk' => ?_⟩
               · by_cases e : k = x.key
                 · subst e
                   rw [hax _ Ep,Qjv] at r2
                   exact absurd r2.symm h0
                 · rw [QGr k e,QHg k e]; exact r2
               · by_cases e : k' = x.key
                 · subst e; rw [hxx,hyx]; exact hb0
                 · rw [QGr k' e,QHg k' e]; exact r3 k' hk'
           · rw [if_neg h3]
             refine ⟨fun h0 => absurd h0 h3,fun _ => ⟨rfl,x.key,?_,fun k' hk' => ?_⟩⟩
             · rw [hxx,hyx]; rfl
             · rw [QGr k' (Qmh hk'),hax k' (Q2l hk')]; exact Qjv
theorem QGG {l : Kv} (hl : Zp l) (c : Chg) (k : Key) : look (doC l c) k = if k = c.key then c.then' else look l k:=by
 unfold doC Chg.then'
 split
 · rename_i h
   rw [QiQ]
 · rw [Qad hl]
theorem QE3 {l : Kv} (hl : Zp l) (c : Chg) : Zp (doC l c):=by
 unfold doC
 split
 · exact List.Pairwise.filter _ hl
 · exact Q7r hl _ _
abbrev QsG (l : Kv) (d : List Chg) : Kv:=d.foldl doC l
theorem Qsw {d : List Chg} : ∀ {l : Kv},Zp l → Zp (QsG l d):=by
 induction d with
 | nil => intro l h; exact h
 | cons c r ih => intro l h; exact ih (QE3 h c)
theorem QFZ {d : List Chg} : ∀ {l : Kv},Zp l → Q6t d → ∀ k,look (QsG l d) k = match J2 d k with | some c => c.then' | none => look l k:=by
 induction d with
 | nil => intro l hl _ k; rfl
 | cons c r ih =>
   intro l hl hd k
   obtain ⟨h1,h2⟩:=List.pairwise_cons.1 hd
   show look (QsG (doC l c) r) k = _
   rw [ih (QE3 hl c) h2,QGG hl,J2]
   by_cases e : c.key = k
   · subst e
     have : J2 r c.key = none:=Qkc hd Ep
     rw [this,if_pos rfl,if_pos rfl]
   · rw [if_neg e,if_neg (Ne.symm e)]
theorem QF8 {k : Key} {x y : Option Nat} {c : Chg} (h : DR k x y = some c) : c.then' = y ∧ c.before = x:=by
 cases x <;> cases y <;> simp only [DR] at h
 · cases h
 · rw [← Option.some.inj h]; exact ⟨rfl,rfl⟩
 · rw [← Option.some.inj h]; exact ⟨rfl,rfl⟩
 · split at h
   · cases h
   · rw [← Option.some.inj h]; exact ⟨rfl,rfl⟩
theorem QFr {a b : Kv} (ha : Zp a) (hb : Zp b) : QsG a (ofC a b) = b:=by
 refine (Qsw ha).ext hb fun k => ?_
 rw [QFZ ha (Q97 ha),Q9t ha]
 cases h : DR k (look a k) (look b k) with
 | some c => exact (QF8 h).1
 | none =>
   show look a k = look b k
   cases h1 : look a k with
   | none =>
     cases h2 : look b k with
     | none => rfl
     | some y => rw [h1,h2] at h; cases h
   | some x =>
     cases h2 : look b k with
     | none => rw [h1,h2] at h; cases h
     | some y =>
       rw [h1,h2] at h
       simp only [DR] at h
       split at h
       · rename_i e; rw [e]
       · cases h
theorem QFq {a b : Kv} (ha : Zp a) {c : Chg} (hc : c ∈ ofC a b) : Q6H c (look a c.key) = 0:=by
 have h:=(Q97 (b:=b) ha).lk hc
 rw [Q9t ha] at h
 cases h1 : look a c.key with
 | none =>
   cases h2 : look b c.key with
   | none => rw [h1,h2] at h; cases h
   | some y => rw [h1,h2] at h; rw [← Option.some.inj h]; rfl
 | some x =>
   cases h2 : look b c.key with
   | none => rw [h1,h2] at h; rw [← Option.some.inj h]; simp [Q6H]
   | some y =>
     rw [h1,h2] at h
     simp only [DR] at h
     split at h
     · cases h
     · rw [← Option.some.inj h]; simp [Q6H]
theorem QfF {k : Key} {x y : Option Nat} {c : Chg} (h : DR k x y = some c) : 1 ≤ c.kind ∧ c.kind ≤ 3 ∧ Q9g c = true:=by
 cases x <;> cases y <;> simp only [DR] at h
 · cases h
 · rw [← Option.some.inj h]; exact ⟨by simp,by simp,rfl⟩
 · rw [← Option.some.inj h]; exact ⟨by simp,by simp,rfl⟩
 · split at h
   · cases h
   · rename_i e
     rw [← Option.some.inj h]; exact ⟨by show (1 : Int) ≤ 3; omega,by show (3 : Int) ≤ 3; omega,by simp [Q9g,e]⟩
theorem Qg9 {a b : Kv} (ha : Zp a) (ka : ∀ p ∈ a,p.1.length ≤ 65535) (kb : ∀ p ∈ b,p.1.length ≤ 65535) : D8 (ofC a b) = 0:=by
 have hm : ∀ c ∈ ofC a b,DR c.key (look a c.key) (look b c.key) = some c:=fun c hc => by
  have h:=(Q97 (b:=b) ha).lk hc
  rw [Q9t ha] at h
  exact h
 refine Q5U.2 ⟨fun c hc => ?_,fun c hc => ?_,fun c hc => (QfF (hm c hc)).2.2,Q97 ha⟩
 · obtain ⟨x,hx,h2⟩:=List.mem_filterMap.1 hc
   rw [Qco h2]
   rcases QEP hx with h | ⟨q,hq,e⟩
   · exact ka x h
   · rw [e]; exact kb q hq
 · exact ⟨(QfF (hm c hc)).1,(QfF (hm c hc)).2.1⟩
theorem QFa {k : Key} {x y : Option Nat} : DR k y x = (DR k x y).map Qcw:=by
 cases x <;> cases y <;> simp only [DR]
 · rfl
 · rfl
 · rfl
 · rename_i v w
   by_cases e : v = w
   · subst e; simp
   · rw [if_neg e,if_neg (Ne.symm e)]; rfl
theorem QFN (l : List Chg) (k : Key) : J2 (l.map Qcw) k = (J2 l k).map Qcw:=by
 induction l with
 | nil => rfl
 | cons c r ih =>
   rw [List.map_cons,J2,J2]
   show (if c.key = k then _ else _) = _
   split
   · rfl
   · exact ih
theorem QDB {a b : Kv} (ha : Zp a) (hb : Zp b) : (ofC a b).map Qcw = ofC b a:=by
 refine Q6t.ext (List.pairwise_map.2 (Q97 ha)) (Q97 hb) fun k => ?_
 rw [QFN,Q9t ha,Q9t hb]
 exact QFa.symm
theorem QlY {k : Key} {x y : Nat} (h : x ≠ y) : DR k (some x) (some y) = some ⟨k,3,x,y⟩:=if_neg h
theorem Qsa {k : Key} {x : Nat} : DR k (some x) (some x) = none:=if_pos rfl
theorem QHD (k : Key) (x y z : Option Nat) : Qn7 k (DR k x y) (DR k y z) = DR k x z ∧ Qfd (DR k x y) (DR k y z) = 0:=by
 cases x with
 | none =>
   cases y with
   | none => exact ⟨by cases z <;> rfl,Qjv⟩
   | some y =>
     cases z with
     | none => exact ⟨rfl,by simp [DR,Qfd,Q6H,Chg.then']⟩
     | some z =>
       by_cases e : y = z
       · subst e; rw [Qsa]; exact ⟨rfl,Qnd⟩
       · rw [QlY e]; exact ⟨rfl,by simp [DR,Qfd,Q6H,Chg.then']⟩
 | some x =>
   cases y with
   | none =>
     cases z with
     | none => exact ⟨rfl,Qnd⟩
     | some z => exact ⟨rfl,by simp [DR,Qfd,Q6H,Chg.then']⟩
   | some y =>
     by_cases e1 : x = y
     · subst e1; rw [Qsa]; exact ⟨Qpi,Qjv⟩
     · rw [QlY e1]
       cases z with
       | none => exact ⟨rfl,by simp [DR,Qfd,Q6H,Chg.then']⟩
       | some z =>
         by_cases e2 : y = z
         · subst e2; rw [Qsa,QlY e1]; exact ⟨rfl,Qnd⟩
         · rw [QlY e2]; exact ⟨rfl,by simp [Qfd,Q6H,Chg.then']⟩
theorem QEA {a b c : Kv} (ha : Zp a) (hb : Zp b) {e : Nat} {L : List Chg} (h : Qwf (ofC a b) (ofC b c) e L) : e = 0 ∧ L = ofC a c:=by
 have key : Qwf (ofC a b) (ofC b c) 0 (ofC a c):=by
  refine ⟨fun _ => ⟨Q97 ha,fun k => ?_,fun k => ?_⟩,fun h => absurd rfl h⟩
  · rw [Q9t ha,Q9t ha,Q9t hb]
    exact (QHD _ _ _ _).1.symm
  · rw [Q9t ha,Q9t hb]
    exact (QHD _ _ _ _).2
 obtain ⟨h1,h2⟩:=h.uniq key
 exact ⟨h1,h2⟩
end Go.Proofs.YtbnhggfiembejaaGreatDoor
end
section
namespace Go.Proofs.YtbnhggfiembejaaGreatDoor
open Go Go.RowKit X
set_option linter.unusedSimpArgs false
set_option linter.unusedVariables false
set_option linter.unusedSectionVars false
abbrev chZ : Value:=.agg #[.slice none 0 0,.int .i64 0,.int .u64 0,.int .u64 0]
theorem Qkd : EI P Qha Q3 4 48 chZ:=⟨by kernel_rfl,by kernel_rfl,by rfl,by omega⟩
theorem QEd : EI P Qct KU 4 48 chZ:=⟨by kernel_rfl,by kernel_rfl,by rfl,by omega⟩
def Chg.ok (c : Chg) : Prop:=c.was < 18446744073709551616 ∧ c.is < 18446744073709551616
def CT (T : TypeId) : Prop:=T = Q3 ∨ T = KU
theorem CT.ne {T : TypeId} (h : CT T) : T ≠ Qm:=by rcases h with rfl | rfl <;> decide
variable [Floor]
abbrev chC (kv : Value) (c : Chg) : List Value:=[kv,.int .i64 c.kind,u64 c.was,u64 c.is]
structure CC (w : World) (l : List Chg) (cells : List Value) : Prop where
 len : cells.length = l.length * 4
 at_ : ∀ i c,l[i]? = some c → ∃ kv,(cells.drop (i * 4)).take 4 = chC kv c ∧ Bs w kv c.key ∧ c.ok
def Cs (w : World) (v : Value) (l : List Chg) : Prop:=∃ T cells,CT T ∧ Sl w (QT T) v 4 l.length cells ∧ CC w l cells
def CO (w : World) (B : Nat) (T : TypeId) (v : Value) (l : List Chg) : Prop:=∃ cells,Own w B T 4 v l.length cells ∧ CC w l cells
section
variable {w w' : World} {v : Value} {l m : List Chg} {cells : List Value} {B : Nat} {T : TypeId} {X : Nat → Prop}
theorem CC.nil (w : World) : CC w [] []:=⟨rfl,fun i p h => by cases h⟩
theorem CC.ext (h : CC w l cells) (e : Ext X w w') (hx : NB w X) : CC w' l cells :=
 ⟨h.len,fun i p hp => let ⟨kv,h1,h2,h3⟩:=h.at_ i p hp; ⟨kv,h1,h2.ext e hx,h3⟩⟩
theorem CC.Q4 (h : CC w l cells) (e : Ext No w w') : CC w' l cells:=h.ext e (NB.no w)
theorem CC.app {cs ds : List Value} (h : CC w l cs) (k : CC w m ds) : CC w (l ++ m) (cs ++ ds):=by
 refine ⟨by simp [h.len,k.len]; omega,fun i p hp => ?_⟩
 have hl:=h.len
 rcases Nat.lt_or_ge i l.length with hi | hi
 · rw [List.getElem?_append_left hi] at hp
   rw [List.drop_append_of_le_length (by omega),List.take_append_of_le_length (by simp; omega)]
   exact h.at_ i p hp
 · rw [List.getElem?_append_right hi] at hp
   rw [List.drop_append,List.drop_eq_nil_of_le (by omega),List.nil_append,hl,show i * 4 - l.length * 4 = (i - l.length) * 4 by omega]
   exact k.at_ _ p hp
theorem CC.Q24 {kv : Value} {c : Chg} (h : Bs w kv c.key) (hc : c.ok) : CC w [c] (chC kv c):=by
 refine ⟨rfl,fun i p hp => ?_⟩
 cases i with
 | zero =>
   simp at hp
   subst hp
   exact ⟨kv,rfl,h,hc⟩
 | succ i => simp at hp
theorem CC.drop {cs : List Value} (h : CC w l cs) (n : Nat) : CC w (l.drop n) (cs.drop (n * 4)):=by
 refine ⟨by rw [List.length_drop,List.length_drop,h.len]; omega,fun i p hp => ?_⟩
 rw [List.getElem?_drop] at hp
 rw [List.drop_drop,show n * 4 + i * 4 = (n + i) * 4 by omega]
 exact h.at_ _ p hp
theorem CC.take {cs : List Value} (h : CC w l cs) (n : Nat) : CC w (l.take n) (cs.take (n * 4)):=by
 refine ⟨by rw [List.length_take,List.length_take,h.len]; omega,fun i p hp => ?_⟩
 rw [List.getElem?_take] at hp
 split at hp
 · rename_i hi
   obtain ⟨kv,h1,h2⟩:=h.at_ _ p hp
   refine ⟨kv,?_,h2⟩
   rw [List.drop_take,List.take_take,Nat.min_eq_left (by omega)]
   exact h1
 · cases hp
theorem CC.cell {cs : List Value} (h : CC w l cs) {i : Nat} {c : Chg} (hi : l[i]? = some c) : ∃ kv,cs[i * 4 + 0]? = some kv ∧ cs[i * 4 + 1]? = some (.int .i64 c.kind) ∧ cs[i * 4 + 2]? = some (u64 c.was) ∧ cs[i * 4 + 3]? = some (u64 c.is) ∧ Bs w kv c.key ∧ c.ok:=by
 obtain ⟨kv,h1,h2,h3⟩:=h.at_ i c hi
 have key : ∀ j,j < 4 → cs[i * 4 + j]? = (chC kv c)[j]?:=fun j hj => by
  rw [← h1,List.getElem?_take,if_pos hj,List.getElem?_drop]
 exact ⟨kv,key 0 (by omega),key 1 (by omega),key 2 (by omega),key 3 (by omega),h2,h3⟩
theorem CC.one (h : CC w l cells) : ∀ u ∈ cells,u.oneCell' = true:=by
 intro u hu
 obtain ⟨j,hj,rfl⟩:=List.mem_iff_getElem.1 hu
 have hj2 : j / 4 < l.length:=by have:=h.len; omega
 obtain ⟨kv,h1,h2,h3,h4,h5,-⟩:=h.cell (List.getElem?_eq_getElem hj2)
 have h0 : cells[j]? = some cells[j]:=List.getElem?_eq_getElem hj
 have hm : j % 4 = 0 ∨ j % 4 = 1 ∨ j % 4 = 2 ∨ j % 4 = 3:=by omega
 rcases hm with e | e | e | e
 · rw [show j / 4 * 4 + 0 = j by omega,h0] at h1
   obtain ⟨a,cap,rfl⟩:=h5.slice
   rw [Option.some.inj h1]; rfl
 · rw [show j / 4 * 4 + 1 = j by omega,h0] at h2
   rw [Option.some.inj h2]; rfl
 · rw [show j / 4 * 4 + 2 = j by omega,h0] at h3
   rw [Option.some.inj h3]; rfl
 · rw [show j / 4 * 4 + 3 = j by omega,h0] at h4
   rw [Option.some.inj h4]; rfl
theorem Cs.nil (w : World) : Cs w (.slice none 0 0) []:=⟨Q3,[],.inl rfl,Sl.nil,CC.nil w⟩
theorem Cs.Q4 (h : Cs w v l) (e : Ext No w w') : Cs w' v l:=let ⟨T,cells,hT,h1,h2⟩:=h; ⟨T,cells,hT,h1.Q4 e,h2.Q4 e⟩
theorem Cs.slice (h : Cs w v l) : ∃ a cap,v = .slice a l.length cap:=let ⟨_,_,_,⟨a,cap,e,_⟩,_⟩:=h; ⟨a,cap,e⟩
theorem Cs.R9 (h : Cs w v l) : v.oneCell' = true:=by obtain ⟨a,cap,rfl⟩:=h.slice; rfl
theorem Cs.len {K : Value → Prop} (h : Cs w v l) (k : K (.int .i64 l.length)) : Zq v K:=let ⟨_,_,_,h1,_⟩:=h; KN h1 k
theorem Cs.ok (h : Cs w v l) : ∀ c ∈ l,c.ok:=fun c hc => by
 obtain ⟨i,hi,rfl⟩:=List.mem_iff_getElem.1 hc
 obtain ⟨T,cells,hT,h1,h2⟩:=h
 obtain ⟨kv,-,-,h3⟩:=h2.at_ i l[i] (List.getElem?_eq_getElem hi)
 exact h3
theorem Cs.rd {K : Value → Prop} {kd : IntKind} {i : Int} (h : Cs w v l) (m : Nat) (hi : i = (m : Int)) (hm : m < l.length) (k : ∀ kv,Bs w kv l[m].key → K (.agg #[kv,.int .i64 l[m].kind,u64 l[m].was,u64 l[m].is])) : Zb v (.int kd i) 4 fun u => Z6 u fun a => Qo w a 4 K:=by
 obtain ⟨T,cells,hT,h1,h2⟩:=h
 obtain ⟨kv,h3,h4,-⟩:=h2.at_ m l[m] (List.getElem?_eq_getElem hm)
 refine h1.rdN m hi hm ?_
 rw [h3]
 exact k kv h4
theorem Cs.key {K : Value → Prop} {kd : IntKind} {i : Int} (h : Cs w v l) (m : Nat) (hi : i = (m : Int)) (hm : m < l.length) (k : ∀ kv,Bs w kv l[m].key → K kv) : Zb v (.int kd i) 4 fun u => X6 u 0 fun p => Z6 p fun a => QC w a K:=by
 obtain ⟨T,cells,hT,h1,h2⟩:=h
 obtain ⟨kv,h3,-,-,-,h4,-⟩:=h2.cell (List.getElem?_eq_getElem hm)
 exact h1.rdF m hi hm (by omega) h3 (k kv h4)
theorem Cs.kind {K : Value → Prop} {kd : IntKind} {i : Int} (h : Cs w v l) (m : Nat) (hi : i = (m : Int)) (hm : m < l.length) (k : K (.int .i64 l[m].kind)) : Zb v (.int kd i) 4 fun u => X6 u 1 fun p => Z6 p fun a => QC w a K:=by
 obtain ⟨T,cells,hT,h1,h2⟩:=h
 obtain ⟨kv,-,h3,-⟩:=h2.cell (List.getElem?_eq_getElem hm)
 exact h1.rdF m hi hm (by omega) h3 k
theorem Cs.was {K : Value → Prop} {kd : IntKind} {i : Int} (h : Cs w v l) (m : Nat) (hi : i = (m : Int)) (hm : m < l.length) (k : K (u64 l[m].was)) : Zb v (.int kd i) 4 fun u => X6 u 2 fun p => Z6 p fun a => QC w a K:=by
 obtain ⟨T,cells,hT,h1,h2⟩:=h
 obtain ⟨kv,-,-,h3,-⟩:=h2.cell (List.getElem?_eq_getElem hm)
 exact h1.rdF m hi hm (by omega) h3 k
theorem Cs.is {K : Value → Prop} {kd : IntKind} {i : Int} (h : Cs w v l) (m : Nat) (hi : i = (m : Int)) (hm : m < l.length) (k : K (u64 l[m].is)) : Zb v (.int kd i) 4 fun u => X6 u 3 fun p => Z6 p fun a => QC w a K:=by
 obtain ⟨T,cells,hT,h1,h2⟩:=h
 obtain ⟨kv,-,-,-,h3,-⟩:=h2.cell (List.getElem?_eq_getElem hm)
 exact h1.rdF m hi hm (by omega) h3 k
theorem Cs.drop {K : Value → Prop} {kd : IntKind} {i : Int} (h : Cs w v l) (n : Nat) (hi : i = (n : Int)) (hn : n ≤ l.length) (k : ∀ v',Cs w v' (l.drop n) → K v') : Yg 4 v (some (.int kd i)) none none K:=by
 obtain ⟨T,cells,hT,h1,h2⟩:=h
 exact h1.QBy n hi hn fun v' hv => k v' ⟨T,_,hT,by rw [List.length_drop]; exact hv,h2.drop n⟩
theorem Cs.take {K : Value → Prop} {kd : IntKind} {i : Int} (h : Cs w v l) (n : Nat) (hi : i = (n : Int)) (hn : n ≤ l.length) (k : ∀ v',Cs w v' (l.take n) → K v') : Yg 4 v none (some (.int kd i)) none K:=by
 obtain ⟨T,cells,hT,h1,h2⟩:=h
 exact h1.QBz n hi hn fun v' hv => k v' ⟨T,_,hT,by rw [List.length_take,Nat.min_eq_left hn]; exact hv,h2.take n⟩
theorem CO.nil (w : World) (B : Nat) (T : TypeId) : CO w B T (.slice none 0 0) []:=⟨[],Own.nil w B T 4,CC.nil w⟩
theorem CO.Q4 (h : CO w B T v l) (e : Ext No w w') : CO w' B T v l:=let ⟨cells,h1,h2⟩:=h; ⟨cells,h1.Q4 e,h2.Q4 e⟩
theorem CO.cs (h : CO w B T v l) (hT : CT T) : Cs w v l:=let ⟨cells,h1,h2⟩:=h; ⟨T,cells,hT,h1.sl.weak fun _ _ h => .inl h,h2⟩
theorem CO.nb (h : CO w B T v l) (hf : Floor.n ≤ B) (hT : T ≠ Qm) : NB w (fun b => v.ownBlock = some b):=fun b hb hlt => by
 obtain ⟨cells,h1,-⟩:=h
 rcases h1.2 with ⟨rfl,-⟩ | ⟨g,cap,cur,rfl,hg,hc,-⟩
 · cases hb
 · simp only [Value.ownBlock,Option.some.injEq] at hb
   subst hb
   exact ⟨by omega,cur.toList,T,⟨hc⟩,hT⟩
theorem CO.app {K : Value → World → Prop} {t ty : TypeId} {x : Value} {ys : List Value} {Q : Nat → TypeId → Prop} (hT : EI P t T 4 48 chZ) (hTu : T ≠ Qm) (hf : Floor.n ≤ B) (hB : B ≤ w.heap.size) (h : CO w B T v l) (hx : Sl w Q x 4 m.length ys) (hm : CC w m ys) (hn : l.length + m.length ≤ 1099511627)
  (k : ∀ v' w',CO w' B T v' (l ++ m) → (∀ b,v'.ownBlock = some b → v.ownBlock = some b ∨ w.heap.size ≤ b) → Ext (fun b => v.ownBlock = some b) w w' → (∀ w0 : World,Ext No w0 w → w0.heap.size ≤ B → Ext No w0 w') → K v' w') : Jv P (Builtin.append_ #[t,t] ty #[v,x]) w K:=by
 have hnb:=h.nb hf hTu
 obtain ⟨cells,h1,h2⟩:=h
 refine Vi hT h1 hB hx hm.one (by omega) (by omega) fun v' w' ho hE _ hb => k v' w' ⟨_,?_,(h2.app hm).ext hE hnb⟩ hb hE fun w0 e0 h0 => e0.own h1 h0 hE
 rw [List.length_append]; exact ho
end
end Go.Proofs.YtbnhggfiembejaaGreatDoor
end
section
namespace Go.Proofs.YtbnhggfiembejaaGreatDoor
open Go Go.RowKit X
set_option linter.unusedSimpArgs false
set_option linter.unusedVariables false
set_option linter.unusedSectionVars false
theorem Q9i {w : World} {t T : TypeId} {g : Nat} {x y z u a b c d : Value} {K : World → Prop} (hg : QZ w g [x,y,z,u] T) (hi : (P.info? t).map (·.size) = some 4) (h1 : a.oneCell' = true) (h2 : b.oneCell' = true) (h3 : c.oneCell' = true) (h4 : d.oneCell' = true)
  (k : ∀ w',QZ w' g [a,b,c,d] T → w'.heap.size = w.heap.size → Ext (· = g) w w' → K w') : Yn P (storeVar t ⟨g,0,none⟩ (.agg #[a,b,c,d])) w K:=by
 refine JW (vs:=[a,b,c,d]) hg hi (by simp) (fun v hv => ?_) fun w' hb hz he => k w' (by simpa using hb) hz he
 simp only [List.mem_cons,List.mem_nil_iff,or_false] at hv
 rcases hv with rfl | rfl | rfl | rfl <;> assumption
def cz (o : Option Chg) : Chg:=o.getD ⟨[],0,0,0⟩
theorem Qsb {l : List Chg} : Q6t l ↔ ∀ i (h : i + 1 < l.length),Xr l[i].key l[i + 1].key:=by
 have e : Q6t l ↔ Zp (l.map fun c => (c.key,0)):=by unfold Q6t Zp; rw [List.pairwise_map]
 rw [e]
 constructor
 · intro h i hi
   have:=List.pairwise_iff_getElem.1 h i (i + 1) (by simpa using (by omega : i < l.length)) (by simpa using hi) (by omega)
   simpa using this
 · intro h
   exact Q73 fun i hi => by simpa using h i (by simpa using hi)
variable [Floor]
def OC (w : World) (r : Value) (c : Chg) : Prop:=∃ kv,r = .agg #[kv,.int .i64 c.kind,u64 c.was,u64 c.is] ∧ Bs w kv c.key ∧ c.ok
section
variable {w w0 : World} {v va vb kv : Value} {l a b : List Chg} {k : Key} {c : Chg}
theorem QFg {T : TypeId} {b : Nat} {cs : List Value} (hb : QZ w b cs T) (hT : T ≠ Qm) (hf : Floor.n ≤ b) : NB w (· = b):=fun c hc _ => by
 have e : c = b:=hc
 subst e
 exact ⟨hf,_,_,hb,hT⟩
theorem Cs.var {kd : IntKind} {i : Int} {t T : TypeId} (h : Cs w v l) (m : Nat) (hi : i = (m : Int)) (hm : m < l.length) (ht : (P.info? t).map (·.size) = some 4) {K : Addr → World → Prop}
  (k : ∀ b w2 kv,QZ w2 b (chC kv l[m]) T → Ext No w w2 → w.heap.size ≤ b → Bs w kv l[m].key → K ⟨b,0,none⟩ w2) :
  Zb v (.int kd i) 4 fun u => Z6 u fun a => Qo w a 4 fun y => Qs w [.slice none 0 0,.int .i64 0,.int .u64 0,.int .u64 0] T fun b w1 => Yn P (storeVar t b y) w1 fun w2 => K b w2:=by
 refine h.rd m hi hm fun kv Wq => ?_
 refine Qz fun b w1 hb hblk hz he => ?_
 refine Q9i hblk ht Wq.R9 rfl rfl rfl fun w2 h2 hz2 he2 => ?_
 exact k b w2 kv h2 (he.Z0 he2 (by omega)) (by omega) Wq
theorem QGK {x : Option Nat} {u : Nat} (hx : ∀ y,x = some y → y = u) : Q6 P Qmn [.agg #[kv,.int .i64 c.kind,u64 c.was,u64 c.is],.int .u64 u,.bool x.isSome] w fun r w' => r = .int .i64 (Q6H c x : Nat) ∧ Ext No w w':=by
 refine QER ?_
 refine Qz fun cb w1 hcb hC hz he => ?_
 have hC : QZ w1 cb (chC kv c) KU:=hC
 refine hC.ld (o:=1) (v:=.int .i64 c.kind) rfl ?_
 refine Vu (fun h => ?_) fun h => ?_
 · cases x with
   | none => exact Qp rfl ⟨by simp [Q6H,h],he⟩
   | some y => exact Qr rfl ⟨by simp [Q6H,h],he⟩
 · cases x with
   | none => exact Qr rfl ⟨by simp [Q6H,h],he⟩
   | some y =>
     obtain rfl:=hx y rfl
     refine Qp rfl ?_
     refine hC.ld (o:=2) (v:=u64 c.was) rfl ?_
     refine Q5L (fun h2 => ⟨?_,he⟩) fun h2 => ⟨?_,he⟩
     · rw [show Q6H c (some y) = 3 from by simp only [Q6H]; rw [if_neg h,if_neg (fun e => h2 (by rw [e]))]]; rfl
     · rw [show Q6H c (some y) = 0 from by simp only [Q6H]; rw [if_neg h,if_pos (by omega)]]; rfl
theorem QFA {x y : Option Nat} {p q : Nat} (hk : Bs w kv k) (hx : ∀ z,x = some z → z = p) (hy : ∀ z,y = some z → z = q) (hp : p < 18446744073709551616) (hq : q < 18446744073709551616) (hfl : Floor.n ≤ w.heap.size) :
  Q6 P Qjn [kv,.int .u64 p,.bool x.isSome,.int .u64 q,.bool y.isSome] w fun r w' => OC w' r (cz (DR k x y)) ∧ Ext No w w':=by
 obtain ⟨ad,cp,rfl⟩:=hk.slice
 refine QEe ?_
 refine Qz fun cb w1 hcb hC hz he => ?_
 have hC : QZ w1 cb [.slice none 0 0,.int .i64 0,.int .u64 0,.int .u64 0] KU:=hC
 have fin : ∀ (c : Chg) (kv' : Value),Bs w kv' c.key → c.ok → Yn P (storeVar KU ⟨cb,0,none⟩ (.agg #[kv',.int .i64 c.kind,u64 c.was,u64 c.is])) w1 fun w2 => Qo w2 ⟨cb,0,none⟩ 4 fun v => OC w2 v c ∧ Ext No w w2:=fun c kv' hb hok => by
  refine Q9i hC (by kernel_rfl) hb.R9 rfl rfl rfl fun w2 hb2 hz2 he2 => ?_
  exact hb2.JH rfl ⟨⟨kv',rfl,(hb.Q4 he).ext he2 (QFg hC (by decide) (by omega)),hok⟩,he.Z0 he2 (by omega)⟩
 have z0 : (0 : Nat) < 18446744073709551616:=by omega
 refine xj (fun vs w' => vs = [.bool (decide (x.isSome = true ∧ y.isSome = true ∧ x ≠ y))] ∧ w' = w1) ?_ ?_
 · cases x with
   | none => exact Qp rfl ⟨by simp,rfl⟩
   | some a =>
     refine Qr rfl ?_
     cases y with
     | none => exact Qp rfl ⟨by simp,rfl⟩
     | some b =>
       obtain rfl:=hx a rfl
       obtain rfl:=hy b rfl
       refine Qr rfl ⟨?_,rfl⟩
       show [Value.bool (((a : Nat) : Int) != (b : Nat))] = _
       by_cases e : a = b
       · subst e; simp
       · simp [e]; omega
 rintro vs g w2 ⟨rfl,rfl⟩
 cases x with
 | none =>
   refine Qp (by simp) ?_
   refine xj (fun vs w' => vs = [.bool false] ∧ w' = w2) (Qp rfl ⟨rfl,rfl⟩) ?_
   rintro vs g w3 ⟨rfl,rfl⟩
   refine Qp rfl ?_
   cases y with
   | none =>
     refine xj (fun vs w' => vs = [.bool false] ∧ w' = w3) (Qp rfl ⟨rfl,rfl⟩) ?_
     rintro vs g w4 ⟨rfl,rfl⟩
     refine Qp rfl ?_
     exact fin ⟨[],0,0,0⟩ (.slice none 0 0) (Bs.nil w) ⟨z0,z0⟩
   | some b =>
     obtain rfl:=hy b rfl
     refine xj (fun vs w' => vs = [.bool true] ∧ w' = w3) (Qr rfl ⟨rfl,rfl⟩) ?_
     rintro vs g w4 ⟨rfl,rfl⟩
     refine Qr rfl ?_
     exact fin ⟨k,1,0,b⟩ _ hk ⟨z0,hq⟩
 | some a =>
   obtain rfl:=hx a rfl
   cases y with
   | none =>
     refine Qp (by simp) ?_
     refine xj (fun vs w' => vs = [.bool true] ∧ w' = w2) (Qr rfl ⟨rfl,rfl⟩) ?_
     rintro vs g w3 ⟨rfl,rfl⟩
     refine Qr rfl ?_
     exact fin ⟨k,2,a,0⟩ _ hk ⟨hp,z0⟩
   | some b =>
     obtain rfl:=hy b rfl
     by_cases e : a = b
     · subst e
       refine Qp (by simp) ?_
       refine xj (fun vs w' => vs = [.bool false] ∧ w' = w2) (Qr rfl ⟨rfl,rfl⟩) ?_
       rintro vs g w3 ⟨rfl,rfl⟩
       refine Qp rfl ?_
       refine xj (fun vs w' => vs = [.bool false] ∧ w' = w3) (Qr rfl ⟨rfl,rfl⟩) ?_
       rintro vs g w4 ⟨rfl,rfl⟩
       refine Qp rfl ?_
       rw [Qsa]
       exact fin ⟨[],0,0,0⟩ (.slice none 0 0) (Bs.nil w) ⟨z0,z0⟩
     · refine Qr (by simp [e]) ?_
       rw [QlY e]
       exact fin ⟨k,3,a,b⟩ _ hk ⟨hp,hq⟩
theorem QFC (hl : Cs w v l) (hk : Bs w kv k) (hkk : ∀ c ∈ l,c.key.length ≤ 1000000) (hll : l.length ≤ 100000) (hfl : Floor.n ≤ w.heap.size) : Q6 P Qjo [v,kv] w fun r w' => OC w' r (cz (J2 l k)) ∧ Ext No w w':=by
 refine QEg ?_
 refine Qz fun cb w1 hcb hC hz he => ?_
 have hC : QZ w1 cb [.slice none 0 0,.int .i64 0,.int .u64 0,.int .u64 0] KU:=hC
 refine JN (fun n vs w' => ∃ i : Nat,vs = [.int .i64 i] ∧ n = l.length - i ∧ i ≤ l.length ∧ (∀ c ∈ l.take i,c.key ≠ k) ∧ Ext No w1 w') l.length ⟨0,rfl,rfl,by omega,by simp,Ext.refl _ _⟩ ?_
 rintro n vs g w2 ⟨i,rfl,rfl,hi,hno,he2⟩
 unfold Qtz
 have hE2:=he.Q0 he2
 have hC2:=hC.ext he2 fun h => h
 have hsz:=hE2.size
 have QHF : J2 l k = J2 (l.drop i) k:=by
  have h1 : J2 (l.take i ++ l.drop i) k = (J2 (l.take i) k).or (J2 (l.drop i) k):=Qw6 _ _ _
  rw [List.take_append_drop,QDD.2 hno] at h1
  simpa using h1
 refine (hl.Q4 hE2).len ?_
 refine ZF (fun hlt => ?_) fun hge => ?_
 · have hil : i < l.length:=by omega
   refine (hl.Q4 hE2).key i rfl hil fun kv' Wq => ?_
   refine (Q6D Wq (hk.Q4 hE2) ?_).mono ?_
   · have:=hkk _ (List.getElem_mem hil); omega
   rintro _ w3 ⟨rfl,QE⟩
   have JD:=hE2.Q0 QE
   refine ZF (fun h => ?_) fun h => ?_
   · refine (hl.Q4 JD).rd i rfl hil fun kv2 Qpj => ?_
     have hC3:=hC2.ext QE fun h => h
     refine Q9i hC3 (by kernel_rfl) Qpj.R9 rfl rfl rfl fun w4 hb4 Ro Zl => ?_
     have hz3:=QE.size
     have e1 : J2 l k = some l[i]:=by
      rw [QHF,List.drop_eq_getElem_cons hil,J2,if_pos h]
     rw [e1]
     exact hb4.JH rfl ⟨⟨kv2,rfl,Qpj.ext Zl (QFg hC3 (by decide) (by omega)),hl.ok _ (List.getElem_mem hil)⟩,JD.Z0 Zl (by omega)⟩
   · refine xi (r:=((i + 1 : Nat) : Int)) (by rw [QQ (by omega)]; omega) ?_
     refine JP (l.length - (i + 1)) (by omega) ⟨i + 1,rfl,rfl,by omega,fun c hc => ?_,he2.Q0 QE⟩
     rw [← List.take_append_getElem hil] at hc
     rcases List.mem_append.1 hc with hc | hc
     · exact hno c hc
     · rw [List.mem_singleton.1 hc]; exact h
 · have e1 : J2 l k = none:=by
    rw [QHF,List.drop_eq_nil_of_le (by omega)]; rfl
   rw [e1]
   have z0 : (0 : Nat) < 18446744073709551616:=by omega
   refine Q9i (a:=.slice none 0 0) (b:=.int .i64 0) (c:=.int .u64 0) (d:=.int .u64 0) hC2 (by kernel_rfl) rfl rfl rfl rfl fun w4 hb4 Ro Zl => ?_
   exact hb4.JH rfl ⟨⟨_,rfl,Bs.nil _,⟨z0,z0⟩⟩,hE2.Z0 Zl (by omega)⟩
end
end Go.Proofs.YtbnhggfiembejaaGreatDoor
end
section
namespace Go.Proofs.YtbnhggfiembejaaGreatDoor
open Go Go.RowKit X
set_option linter.unusedSimpArgs false
set_option linter.unusedVariables false
set_option linter.unusedSectionVars false
theorem QG0 {a b : Kv} {i : Nat} (h : i < b.length) : Qgg a (b.take (i + 1)) = EB (Qgg a (b.take i)) b[i].1 0:=by
 rw [← List.take_append_getElem h,QG1]
theorem QDG {l : List Chg} {s : Kv} {i : Nat} (h : i < l.length) : (l.take (i + 1)).foldl (fun s c => EB s c.key 0) s = EB ((l.take i).foldl (fun s c => EB s c.key 0) s) l[i].key 0:=by
 rw [← List.take_append_getElem h,List.foldl_append]; rfl
theorem QFx {α β : Type} {f : α → Option β} {l : List α} {i : Nat} (h : i < l.length) : (l.take (i + 1)).filterMap f = (l.take i).filterMap f ++ (f l[i]).toList:=by
 rw [← List.take_append_getElem h,List.filterMap_append]
 cases hf : f l[i] with
 | none => rw [List.filterMap_cons_none hf]; rfl
 | some y => rw [List.filterMap_cons_some hf]; rfl
variable [Floor]
section
variable {w w0 : World} {v va vb kv : Value} {a b : Kv} {l m : List Chg} {k : Key} {c : Chg}
theorem OC.var {r : Value} {t T : TypeId} (h : OC w r c) (ht : (P.info? t).map (·.size) = some 4) {K : Addr → World → Prop}
  (k : ∀ b w2 kv,QZ w2 b (chC kv c) T → Ext No w w2 → w.heap.size ≤ b → Bs w kv c.key → c.ok → K ⟨b,0,none⟩ w2) :
  Qs w [.slice none 0 0,.int .i64 0,.int .u64 0,.int .u64 0] T fun b w1 => Yn P (storeVar t b r) w1 fun w2 => K b w2:=by
 obtain ⟨kv,rfl,Wq,hok⟩:=h
 refine Qz fun b w1 hb hblk hz he => ?_
 refine Q9i hblk ht Wq.R9 rfl rfl rfl fun w2 h2 hz2 he2 => ?_
 exact k b w2 kv h2 (he.Z0 he2 (by omega)) (by omega) Wq hok
theorem CO.snoc {B : Nat} {t ty T : TypeId} {K : Value → World → Prop} (hT : EI P t T 4 48 chZ) (hTu : T ≠ Qm) (hf : Floor.n ≤ B) (h : CO w B T v l) (h0 : Ext No w0 w) (hw : w0.heap.size ≤ B) (hB : B ≤ w.heap.size) (Wq : Bs w kv c.key) (hc : c.ok) (hn : l.length + 1 ≤ 1099511627)
  (k : ∀ v' w',CO w' B T v' (l ++ [c]) → Ext No w0 w' → B ≤ w'.heap.size → K v' w') :
  QN (Kc [.slice none 0 0,.int .i64 0,.int .u64 0,.int .u64 0] 1) [(0,4,.agg #[kv,.int .i64 c.kind,u64 c.was,u64 c.is])] fun cs => Qs w cs T fun a w1 => Jv P (Builtin.append_ #[t,t] ty #[v,.slice (some a) 1 1]) w1 K:=by
 obtain ⟨ad,cp,rfl⟩:=Wq.slice
 show Qs w [.slice ad c.key.length cp,.int .i64 c.kind,u64 c.was,u64 c.is] T _
 refine Qz fun b w1 hb hbl hz he => ?_
 have hsl : Sl w1 (tyQ T) (.slice (some ⟨b,0,none⟩) 1 1) 4 1 [.slice ad c.key.length cp,.int .i64 c.kind,u64 c.was,u64 c.is]:=hbl.sln rfl
 refine CO.app (m:=[c]) hT hTu hf (by omega) (h.Q4 he) hsl (CC.Q24 (Wq.Q4 he) hc) (by simpa using hn) fun v' w' hco _ hE hex => ?_
 have:=hE.size
 exact k v' w' hco (hex w0 (h0.Q0 he) hw) (by omega)
theorem QIB (ha : Ps w va a) (hb : Ps w vb b) (pa : Zp a) (hl : a.length + b.length ≤ 100000) (ka : ∀ p ∈ a,p.1.length ≤ 65535) (kb : ∀ p ∈ b,p.1.length ≤ 65535) :
  Q6 P Qge [va,vb] w fun r w' => Ps w' r (Qgg a b) ∧ Ext No w w':=by
 refine QDe ?_
 refine JN (fun n vs w' => ∃ (i : Nat) (o : Value),vs = [.int .i64 i,o] ∧ n = b.length - i ∧ i ≤ b.length ∧ Ps w' o (Qgg a (b.take i)) ∧ Ext No w w') b.length ⟨0,_,rfl,rfl,by omega,ha,Ext.refl _ _⟩ ?_
 rintro n vs g w1 ⟨i,o,rfl,rfl,hi,ho,he⟩
 unfold Qjg
 refine (hb.Q4 he).len ?_
 refine ZF (fun hlt => ?_) fun hge => ?_
 · have hil : i < b.length:=by omega
   refine (hb.Q4 he).key i rfl hil fun kv Wq => ?_
   have h1:=Qw1 (a:=a) (b:=b.take i)
   rw [List.length_take,Nat.min_eq_left hi] at h1
   refine (QnV (x:=0) ho Wq (by omega) (by omega) (fun p hp => ?_) (kb _ (List.getElem_mem hil))).mono ?_
   · rcases QEP hp with h | ⟨q,hq,e⟩
     · exact ka p h
     · rw [e]; exact kb q (List.mem_of_mem_take hq)
   rintro r w2 ⟨h2,he2⟩
   rw [← Qj2 _ (QDJ pa),← QG0 hil] at h2
   refine xi (r:=((i + 1 : Nat) : Int)) (by rw [QQ (by omega)]; omega) ?_
   exact JP (b.length - (i + 1)) (by omega) ⟨i + 1,_,rfl,rfl,by omega,h2,he.Q0 he2⟩
 · rw [List.take_of_length_le (by omega)] at ho
   exact ⟨ho,he⟩
theorem QEy {o : Option Nat} {l : Kv} {k : Key} (h : look l k = o) (hl : ∀ p ∈ l,p.2 < 18446744073709551616) : o.getD 0 < 18446744073709551616:=by
 cases o with
 | none => show (0 : Nat) < _; omega
 | some y => exact hl _ (Ez h)
theorem QFB (ha : Ps w va a) (hb : Ps w vb b) (pa : Zp a) (hl : a.length + b.length ≤ 100000) (ka : ∀ p ∈ a,p.1.length ≤ 65535) (kb : ∀ p ∈ b,p.1.length ≤ 65535) (hfl : Floor.n ≤ w.heap.size) :
  Q6 P Qss [va,vb] w fun r w' => Cs w' r (ofC a b) ∧ Ext No w w':=by
 refine QFk ?_
 refine (QIB ha hb pa hl ka kb).mono ?_
 rintro vt w1 ⟨ht,he1⟩
 have hz1:=he1.size
 have hL:=Qw1 (a:=a) (b:=b)
 refine JN (fun n vs w' => ∃ (i : Nat) (x1 x2 x3 x4 o : Value),vs = [.int .i64 i,x1,x2,x3,x4,o] ∧ n = (Qgg a b).length - i ∧ i ≤ (Qgg a b).length ∧ CO w' w1.heap.size KU o (((Qgg a b).take i).filterMap fun x => DR x.1 (look a x.1) (look b x.1)) ∧ Ext No w1 w') (Qgg a b).length ⟨0,_,_,_,_,_,rfl,rfl,by omega,CO.nil _ _ _,Ext.refl _ _⟩ ?_
 rintro n vs g w2 ⟨i,x1,x2,x3,x4,o,rfl,rfl,hi,ho,he⟩
 unfold Qwg
 refine (ht.Q4 he).len ?_
 refine ZF (fun hlt => ?_) fun hge => ?_
 · have hil : i < (Qgg a b).length:=by omega
   have hE:=he1.Q0 he
   have hz:=he.size
   refine xj (fun vs w' => ∃ x1 x2 x3 x4 o' : Value,vs = [x1,x2,x3,x4,o'] ∧ CO w' w1.heap.size KU o' (((Qgg a b).take (i + 1)).filterMap fun x => DR x.1 (look a x.1) (look b x.1)) ∧ Ext No w1 w') ?_ ?_
   · refine (ht.Q4 he).key i rfl hil fun kv Wq => ?_
     refine (Qec (ha.Q4 hE) Wq (by omega) ka).mono ?_
     rintro _ w3 ⟨rfl,QE⟩
     have JD:=hE.Q0 QE
     refine (ht.Q4 (he.Q0 QE)).key i rfl hil fun kv3 QEG => ?_
     refine (Qec (hb.Q4 JD) QEG (by omega) kb).mono ?_
     rintro _ w4 ⟨rfl,Zl⟩
     have U9:=JD.Q0 Zl
     have UZ:=he.Q0 (QE.Q0 Zl)
     have hz14:=UZ.size
     refine (ht.Q4 UZ).key i rfl hil fun kv4 QHi => ?_
     generalize hA : look a (Qgg a b)[i].1 = x
     generalize hB : look b (Qgg a b)[i].1 = y
     refine (QFA (x:=x) (y:=y) (p:=x.getD 0) (q:=y.getD 0) QHi (fun z hz => by rw [hz]; rfl) (fun z hz => by rw [hz]; rfl) (QEy hA ha.v64) (QEy hB hb.v64) (by omega)).mono ?_
     rintro r w5 ⟨hr,ZR⟩
     have Db:=UZ.Q0 ZR
     refine hr.var (T:=KU) (by kernel_rfl) fun bb w6 kv6 h6 Ke hbb QHh hok => ?_
     have Q1v:=Db.Q0 Ke
     have hz16:=Q1v.size
     refine h6.ld (o:=1) (v:=.int .i64 (cz (DR (Qgg a b)[i].1 x y)).kind) rfl ?_
     rw [QFx hil,hA,hB]
     have hco:=ho.Q4 (QE.Q0 (Zl.Q0 (ZR.Q0 Ke)))
     cases hT : DR (Qgg a b)[i].1 x y with
     | none =>
       refine Q5L (fun h => absurd rfl h) fun _ => ?_
       exact ⟨_,_,_,_,_,rfl,by simpa using hco,Q1v⟩
     | some d =>
       rw [hT] at h6 hok QHh
       refine Q5L (fun _ => ?_) fun h => absurd h (by have:=(QfF hT).1; show d.kind ≠ 0; omega)
       refine h6.JH rfl ?_
       have hlen : (((Qgg a b).take i).filterMap fun x => DR x.1 (look a x.1) (look b x.1)).length ≤ i:=Nat.le_trans (List.length_filterMap_le _ _) (by rw [List.length_take]; omega)
       refine CO.snoc (w0:=w1) (c:=d) QEd (by decide) (by omega) hco Q1v (Nat.le_refl _) (by omega) (QHh.Q4 Ke) hok (by omega) fun v' w7 h7 Yy _ => ?_
       exact ⟨_,_,_,_,_,rfl,h7,Yy⟩
   · rintro vs g w3 ⟨y1,y2,y3,y4,o',rfl,ho',QE⟩
     refine xi (r:=((i + 1 : Nat) : Int)) (by rw [QQ (by omega)]; omega) ?_
     exact JP ((Qgg a b).length - (i + 1)) (by omega) ⟨i + 1,_,_,_,_,_,rfl,rfl,by omega,ho',QE⟩
 · rw [List.take_of_length_le (by omega)] at ho
   exact ⟨ho.cs (.inr rfl),he1.Q0 he⟩
theorem QHx (hl : Cs w v l) (hll : l.length ≤ 100000) (hfl : Floor.n ≤ w.heap.size) : Q6 P Qsv [v] w fun r w' => Cs w' r (l.map Qcw) ∧ Ext No w w':=by
 refine QEj ?_
 refine JN (fun n vs w' => ∃ (i : Nat) (x1 o : Value),vs = [.int .i64 i,x1,o] ∧ n = l.length - i ∧ i ≤ l.length ∧ CO w' w.heap.size KU o ((l.take i).map Qcw) ∧ Ext No w w') l.length ⟨0,_,_,rfl,rfl,by omega,CO.nil _ _ _,Ext.refl _ _⟩ ?_
 rintro n vs g w1 ⟨i,x1,o,rfl,rfl,hi,ho,he⟩
 unfold Qu5
 refine (hl.Q4 he).len ?_
 refine ZF (fun hlt => ?_) fun hge => ?_
 · have hil : i < l.length:=by omega
   have hz:=he.size
   have hok:=hl.ok _ (List.getElem_mem hil)
   refine (hl.Q4 he).var i rfl hil (by kernel_rfl) fun bb w2 kv2 h2 he2 hb2 Qpj => ?_
   have hE:=he.Q0 he2
   have hz2:=hE.size
   refine h2.ld (o:=1) (v:=.int .i64 l[i].kind) rfl ?_
   refine xj (fun vs w' => vs = [.int .i64 (Qcw l[i]).kind] ∧ w' = w2) ?_ ?_
   · refine xj (fun vs w' => vs = [.bool (decide (l[i].kind = 1 ∨ l[i].kind = 2))] ∧ w' = w2) ?_ ?_
     · refine Vu (fun h => ⟨by simp [h],rfl⟩) fun h => ⟨?_,rfl⟩
       show [Value.bool (l[i].kind == 2)] = _
       by_cases h2 : l[i].kind = 2 <;> simp [h,h2]
     rintro vs g w3 ⟨rfl,rfl⟩
     refine ZF (fun h => ?_) fun h => ?_
     · refine xi (r:=3 - l[i].kind) (by rw [QQ (by omega)]) ⟨?_,rfl⟩
       rcases h with h | h <;> simp [Qcw,h]
     · refine ⟨?_,rfl⟩
       have h1 : ¬ l[i].kind = 1:=fun e => h (.inl e)
       have h2 : ¬ l[i].kind = 2:=fun e => h (.inr e)
       simp [Qcw,h1,h2]
   rintro vs g w3 ⟨rfl,rfl⟩
   refine h2.ld (o:=0) (v:=kv2) rfl ?_
   refine h2.ld (o:=3) (v:=u64 l[i].is) rfl ?_
   refine h2.ld (o:=2) (v:=u64 l[i].was) rfl ?_
   obtain ⟨ad,cp,rfl⟩:=Qpj.slice
   refine CO.snoc (w0:=w) (c:=Qcw l[i]) (kv:=.slice ad l[i].key.length cp) QEd (by decide) hfl (ho.Q4 he2) hE (Nat.le_refl _) (by omega) (Qpj.Q4 he2) ⟨hok.2,hok.1⟩ (by simp; omega) fun v' w7 h7 Yy _ => ?_
   refine xi (r:=((i + 1 : Nat) : Int)) (by rw [QQ (by omega)]; omega) ?_
   refine JP (l.length - (i + 1)) (by omega) ⟨i + 1,_,_,rfl,rfl,by omega,?_,Yy⟩
   rw [← List.take_append_getElem hil,List.map_append]
   exact h7
 · rw [List.take_of_length_le (by omega)] at ho
   exact ⟨ho.cs (.inr rfl),he⟩
theorem QHw (hl : Cs w va l) (hm : Cs w vb m) (hll : l.length + m.length ≤ 100000) (kl : ∀ c ∈ l,c.key.length ≤ 65535) (km : ∀ c ∈ m,c.key.length ≤ 65535) : Q6 P Qsm [va,vb] w fun r w' => Ps w' r (Q6l l m) ∧ Ext No w w':=by
 refine QEf ?_
 refine JN (fun n vs w' => ∃ (i : Nat) (o : Value),vs = [.int .i64 i,o] ∧ n = l.length - i ∧ i ≤ l.length ∧ Ps w' o ((l.take i).foldl (fun s c => EB s c.key 0) []) ∧ Ext No w w') l.length ⟨0,_,rfl,rfl,by omega,Ps.nil _,Ext.refl _ _⟩ ?_
 rintro n vs g w1 ⟨i,o,rfl,rfl,hi,ho,he⟩
 unfold QsH
 refine (hl.Q4 he).len ?_
 refine ZF (fun hlt => ?_) fun hge => ?_
 · have hil : i < l.length:=by omega
   refine (hl.Q4 he).key i rfl hil fun kv Wq => ?_
   have h1:=QhF (l.take i) (s:=[])
   rw [List.length_take,Nat.min_eq_left hi] at h1
   refine (QnV (x:=0) ho Wq (by omega) (by simp at h1; omega) (fun p hp => ?_) (kl _ (List.getElem_mem hil))).mono ?_
   · rcases QvY _ hp with h | ⟨q,hq,e⟩
     · cases h
     · rw [e]; exact kl q (List.mem_of_mem_take hq)
   rintro r w2 ⟨h2,he2⟩
   rw [← Qj2 _ (Qf9 _ List.Pairwise.nil).1,← QDG hil] at h2
   refine xi (r:=((i + 1 : Nat) : Int)) (by rw [QQ (by omega)]; omega) ?_
   exact JP (l.length - (i + 1)) (by omega) ⟨i + 1,_,rfl,rfl,by omega,h2,he.Q0 he2⟩
 · rw [List.take_of_length_le (by omega)] at ho
   have hz : ∀ s : Kv,s = l.foldl (fun s c => EB s c.key 0) [] → Zp s ∧ s.length ≤ l.length ∧ ∀ p ∈ s,p.1.length ≤ 65535:=fun s hs => by
    subst hs
    refine ⟨(Qf9 _ List.Pairwise.nil).1,by simpa using QhF l (s:=[]),fun p hp => ?_⟩
    rcases QvY _ hp with h | ⟨q,hq,e⟩
    · cases h
    · rw [e]; exact kl q hq
   unfold Q6l
   generalize hs : l.foldl (fun s c => EB s c.key 0) [] = s at ho ⊢
   obtain ⟨r1,r2,r3⟩:=hz s hs.symm
   refine JN (fun n vs w' => ∃ (i : Nat) (o : Value),vs = [.int .i64 i,o] ∧ n = m.length - i ∧ i ≤ m.length ∧ Ps w' o ((m.take i).foldl (fun s c => EB s c.key 0) s) ∧ Ext No w w') m.length ⟨0,_,rfl,rfl,by omega,ho,he⟩ ?_
   rintro n vs g w2 ⟨j,o2,rfl,rfl,hj,ho2,he2⟩
   unfold Qt5
   refine (hm.Q4 he2).len ?_
   refine ZF (fun hlt => ?_) fun hge => ?_
   · have hjl : j < m.length:=by omega
     refine (hm.Q4 he2).key j rfl hjl fun kv Wq => ?_
     have h1:=QhF (m.take j) (s:=s)
     rw [List.length_take,Nat.min_eq_left hj] at h1
     refine (QnV (x:=0) ho2 Wq (by omega) (by omega) (fun p hp => ?_) (km _ (List.getElem_mem hjl))).mono ?_
     · rcases QvY _ hp with h | ⟨q,hq,e⟩
       · exact r3 p h
       · rw [e]; exact km q (List.mem_of_mem_take hq)
     rintro r w3 ⟨h3,QE⟩
     rw [← Qj2 _ (Qf9 _ r1).1,← QDG hjl] at h3
     refine xi (r:=((j + 1 : Nat) : Int)) (by rw [QQ (by omega)]; omega) ?_
     exact JP (m.length - (j + 1)) (by omega) ⟨j + 1,_,rfl,rfl,by omega,h3,he2.Q0 QE⟩
   · rw [List.take_of_length_le (by omega)] at ho2
     exact ⟨ho2,he2⟩
end
end Go.Proofs.YtbnhggfiembejaaGreatDoor
end
section
namespace Go.Proofs.YtbnhggfiembejaaGreatDoor
open Go Go.RowKit X
set_option linter.unusedSimpArgs false
set_option linter.unusedVariables false
set_option linter.unusedSectionVars false
theorem QHt {a b : Chg} (h1 : a.key = b.key) (h2 : a.kind = b.kind) (h3 : a.was = b.was) (h4 : a.is = b.is) : a = b:=by cases a; cases b; simp_all
theorem QD7 {c : Chg} : c.then'.isSome = (c.kind != 2):=by unfold Chg.then'; split <;> simp [*]
theorem QEO {c : Chg} : c.before.isSome = (c.kind != 1):=by unfold Chg.before; split <;> simp [*]
theorem QE7 {c : Chg} {y : Nat} (h : c.then' = some y) : y = c.is:=by unfold Chg.then' at h; split at h; cases h; exact (Option.some.inj h).symm
theorem QFi {c : Chg} {y : Nat} (h : c.before = some y) : y = c.was:=by unfold Chg.before at h; split at h; cases h; exact (Option.some.inj h).symm
def QFj (a : Kv) (l : List Chg) : Option Nat:=(l.find? fun c => decide (Q6H c (look a c.key) ≠ 0)).map fun c => Q6H c (look a c.key)
def Qjx (a : Kv) (l : List Chg) : Nat × Kv:=if D8 l = 0 then (match QFj a l with | some e => (e,[]) | none => (0,QsG a l)) else (D8 l,[])
def thenS (a b : List Chg) : Nat × List Chg:=if D8 a = 0 then (if D8 b = 0 then ((goC a b (Q6l a b)).getD 0,if (goC a b (Q6l a b)).isSome then [] else QDR a b (Q6l a b)) else (D8 b,[])) else (D8 a,[])
theorem Qw8 {a : Kv} {l : List Chg} (h : ∀ c ∈ l,Q6H c (look a c.key) = 0) : QFj a l = none:=by
 unfold QFj
 rw [List.find?_eq_none.2 fun c hc => by simp [h c hc]]; rfl
theorem QE5 {a : Kv} {l : List Chg} {i : Nat} (hi : i < l.length) (h : ∀ c ∈ l.take i,Q6H c (look a c.key) = 0) (hn : Q6H l[i] (look a l[i].key) ≠ 0) : QFj a l = some (Q6H l[i] (look a l[i].key)):=by
 unfold QFj
 have e : l = l.take i ++ l[i] :: l.drop (i + 1):=by rw [List.getElem_cons_drop,List.take_append_drop]
 generalize l[i] = x at *
 rw [e,List.find?_append,List.find?_eq_none.2 (fun c hc => by simp [h c hc]),List.find?_cons_of_pos (by simpa using hn)]
 rfl
theorem QGD {a b : List Chg} {l : Kv} (h : ∀ x ∈ l,Qfd (J2 a x.1) (J2 b x.1) = 0) : goC a b l = none:=by
 unfold goC
 rw [List.find?_eq_none.2 fun c hc => by simp [h c hc]]; rfl
theorem QGC {a b : List Chg} {l : Kv} {i : Nat} (hi : i < l.length) (h : ∀ x ∈ l.take i,Qfd (J2 a x.1) (J2 b x.1) = 0) (hn : Qfd (J2 a l[i].1) (J2 b l[i].1) ≠ 0) : goC a b l = some (Qfd (J2 a l[i].1) (J2 b l[i].1)):=by
 unfold goC
 have e : l = l.take i ++ l[i] :: l.drop (i + 1):=by rw [List.getElem_cons_drop,List.take_append_drop]
 generalize l[i] = x at *
 rw [e,List.find?_append,List.find?_eq_none.2 (fun c hc => by simp [h c hc]),List.find?_cons_of_pos (by simpa using hn)]
 rfl
theorem Qcq {α : Type} {l : List α} {i : Nat} (hi : i < l.length) {c : α} (hc : c ∈ l.take (i + 1)) : c ∈ l.take i ∨ c = l[i]:=by
 rw [← List.take_append_getElem hi] at hc
 rcases List.mem_append.1 hc with h | h
 · exact .inl h
 · exact .inr (List.mem_singleton.1 h)
theorem QDd {a : Kv} {l : List Chg} {i : Nat} (h : i < l.length) : QsG a (l.take (i + 1)) = doC (QsG a (l.take i)) l[i]:=by
 rw [← List.take_append_getElem h]; unfold QsG; rw [List.foldl_append]; rfl
theorem QHs {m : Kv} {c : Chg} {p : Key × Nat} (h : p ∈ doC m c) : p ∈ m ∨ p.1 = c.key:=by
 unfold doC at h
 split at h
 · exact .inl (List.mem_filter.1 h).1
 · rcases Qdx h with rfl | h
   · exact .inr rfl
   · exact .inl h
theorem QDI {l : List Chg} : ∀ {m : Kv} {p : Key × Nat},p ∈ QsG m l → p ∈ m ∨ ∃ c ∈ l,p.1 = c.key:=by
 induction l with
 | nil => intro m p h; exact .inl h
 | cons c r ih =>
   intro m p h
   rcases ih (m:=doC m c) h with h | ⟨d,hd,e⟩
   · rcases QHs h with h | h
     · exact .inl h
     · exact .inr ⟨c,by simp,h⟩
   · exact .inr ⟨d,List.mem_cons_of_mem _ hd,e⟩
theorem Qw0 {l : List Chg} : ∀ {m : Kv},(QsG m l).length ≤ m.length + l.length:=by
 induction l with
 | nil => intro m; exact Nat.le_refl _
 | cons c r ih =>
   intro m
   have h1:=ih (m:=doC m c)
   have h2 : (doC m c).length ≤ m.length + 1:=by
    unfold doC
    split
    · have:=OZ c.key m; omega
    · exact Sg m c.key c.is
   show (QsG (doC m c) r).length ≤ _
   simp; omega
variable [Floor]
section
variable {w w0 : World} {v va vb kv : Value} {a b : Kv} {l m : List Chg} {k : Key} {c : Chg}
theorem Qpk (hl : Cs w va l) (hm : Cs w vb m) (hll : l.length ≤ 100000) (kl : ∀ c ∈ l,c.key.length ≤ 1000000) : Q6 P Q9j [va,vb] w fun r w' => r = .bool (decide (l = m)) ∧ Ext No w w':=by
 refine QEi ?_
 refine hl.len (hm.len ?_)
 refine Q5L (fun h => ⟨by rw [decide_eq_false fun e => h (by rw [e])],Ext.refl _ _⟩) fun hlen => ?_
 have hlen : l.length = m.length:=by omega
 refine JN (fun n vs w' => ∃ (i : Nat) (x : Value),vs = [.int .i64 i,x] ∧ n = l.length - i ∧ i ≤ l.length ∧ l.take i = m.take i ∧ Ext No w w') l.length ⟨0,_,rfl,rfl,by omega,rfl,Ext.refl _ _⟩ ?_
 rintro n vs g w1 ⟨i,x,rfl,rfl,hi,hs,he⟩
 unfold Qu4
 refine (hl.Q4 he).len ?_
 refine ZF (fun hlt => ?_) fun hge => ?_
 · have hil : i < l.length:=by omega
   have him : i < m.length:=by omega
   have hd:=he.drew
   refine xj (fun vs w' => vs = [.bool (decide (l[i] ≠ m[i]))] ∧ Ext No w w') ?_ ?_
   · refine (hl.Q4 hd).kind i rfl hil ((hm.Q4 hd).kind i rfl him ?_)
     refine Q5L (fun h => ⟨by rw [decide_eq_true (p:=l[i] ≠ m[i]) fun e => h (by rw [e])],hd⟩) fun e1 => ?_
     refine (hl.Q4 hd).was i rfl hil ((hm.Q4 hd).was i rfl him ?_)
     refine Q5L (fun h => ⟨by rw [decide_eq_true (p:=l[i] ≠ m[i]) fun e => h (by rw [e])],hd⟩) fun e2 => ?_
     refine (hl.Q4 hd).is i rfl hil ((hm.Q4 hd).is i rfl him ?_)
     refine Q5L (fun h => ⟨by rw [decide_eq_true (p:=l[i] ≠ m[i]) fun e => h (by rw [e])],hd⟩) fun e3 => ?_
     refine (hl.Q4 hd).key i rfl hil fun k1 h1 => (hm.Q4 hd).key i rfl him fun k2 h2 => ?_
     refine (Q6D h1 h2 (by have:=kl _ (List.getElem_mem hil); omega)).mono ?_
     rintro _ w3 ⟨rfl,QE⟩
     refine ⟨?_,hd.Q0 QE⟩
     show [Value.bool (!decide (l[i].key = m[i].key))] = _
     by_cases e : l[i].key = m[i].key
     · rw [decide_eq_true e,decide_eq_false (p:=l[i] ≠ m[i]) fun h => h (QHt e e1 (by omega) (by omega))]; rfl
     · rw [decide_eq_false e,decide_eq_true (p:=l[i] ≠ m[i]) fun h => e (by rw [h])]; rfl
   rintro vs g w3 ⟨rfl,QE⟩
   refine ZF (fun h => ⟨by rw [decide_eq_false fun e => h (by simp [e])],QE⟩) fun h => ?_
   refine xi (r:=((i + 1 : Nat) : Int)) (by rw [QQ (by omega)]; omega) ?_
   refine JP (l.length - (i + 1)) (by omega) ⟨i + 1,_,rfl,rfl,by omega,?_,QE⟩
   rw [← List.take_append_getElem hil,← List.take_append_getElem him,hs,Decidable.not_not.1 h]
 · rw [List.take_of_length_le (by omega),List.take_of_length_le (by omega)] at hs
   exact ⟨by rw [decide_eq_true hs],he⟩
theorem QAz (hl : Cs w v l) (hll : l.length ≤ 100000) : Q6 P Qah [v] w fun r w' => r = .int .i64 (D8 l : Nat) ∧ Ext No w w':=by
 refine QDS ?_
 refine JN (fun n vs w' => ∃ (i : Nat) (x : Value),vs = [.int .i64 i,x] ∧ n = l.length - i ∧ i ≤ l.length ∧ (∀ c ∈ l.take i,c.key.length ≤ 65535) ∧ Ext No w w') l.length ⟨0,_,rfl,rfl,by omega,by simp,Ext.refl _ _⟩ ?_
 rintro n vs g w1 ⟨i,x,rfl,rfl,hi,h1,he⟩
 unfold Qpn
 refine (hl.Q4 he).len ?_
 refine ZF (fun hlt => ?_) fun hge => ?_
 · have hil : i < l.length:=by omega
   refine (hl.Q4 he).key i rfl hil fun kv Wq => Wq.len ?_
   refine ZF (fun h => ⟨?_,he⟩) fun h => ?_
   · unfold D8; rw [if_pos ⟨l[i],List.getElem_mem hil,by omega⟩]; rfl
   · refine xi (r:=((i + 1 : Nat) : Int)) (by rw [QQ (by omega)]; omega) ?_
     exact JP (l.length - (i + 1)) (by omega) ⟨i + 1,_,rfl,rfl,by omega,fun c hc => by
      rcases Qcq hil hc with hc | rfl
      · exact h1 c hc
      · omega,he⟩
 rw [List.take_of_length_le (by omega)] at h1
 have n1 : ¬ ∃ c ∈ l,65535 < c.key.length:=by rintro ⟨c,hc,h⟩; have:=h1 c hc; omega
 clear hge hi
 refine JN (fun n vs w' => ∃ (i : Nat) (x : Value),vs = [.int .i64 i,x] ∧ n = l.length - i ∧ i ≤ l.length ∧ (∀ c ∈ l.take i,¬ (c.kind < 1 ∨ 3 < c.kind)) ∧ Ext No w w') l.length ⟨0,_,rfl,rfl,by omega,by simp,he⟩ ?_
 rintro n vs g w2 ⟨i,x,rfl,rfl,hi,h2,he⟩
 unfold QpE
 refine (hl.Q4 he).len ?_
 refine ZF (fun hlt => ?_) fun hge => ?_
 · have hil : i < l.length:=by omega
   refine xj (fun vs w' => vs = [.bool (decide (l[i].kind < 1 ∨ 3 < l[i].kind))] ∧ w' = w2) ?_ ?_
   · refine (hl.Q4 he).kind i rfl hil ?_
     refine ZF (fun h => ⟨by simp [h],rfl⟩) fun h => ?_
     refine (hl.Q4 he).kind i rfl hil ⟨?_,rfl⟩
     show [Value.bool (decide (l[i].kind > 3))] = _
     simp [h]
   rintro vs g w3 ⟨rfl,rfl⟩
   refine ZF (fun h => ⟨?_,he⟩) fun h => ?_
   · unfold D8; rw [if_neg n1,if_pos ⟨l[i],List.getElem_mem hil,h⟩]; rfl
   · refine xi (r:=((i + 1 : Nat) : Int)) (by rw [QQ (by omega)]; omega) ?_
     exact JP (l.length - (i + 1)) (by omega) ⟨i + 1,_,rfl,rfl,by omega,fun c hc => by
      rcases Qcq hil hc with hc | rfl
      · exact h2 c hc
      · exact h,he⟩
 rw [List.take_of_length_le (by omega)] at h2
 have n2 : ¬ ∃ c ∈ l,c.kind < 1 ∨ 3 < c.kind:=by rintro ⟨c,hc,h⟩; exact h2 c hc h
 clear hge hi
 refine JN (fun n vs w' => ∃ (i : Nat) (x : Value),vs = [.int .i64 i,x] ∧ n = l.length - i ∧ i ≤ l.length ∧ (∀ c ∈ l.take i,Q9g c = true) ∧ Ext No w w') l.length ⟨0,_,rfl,rfl,by omega,by simp,he⟩ ?_
 rintro n vs g w2 ⟨i,x,rfl,rfl,hi,h3,he⟩
 unfold QpG
 refine (hl.Q4 he).len ?_
 refine ZF (fun hlt => ?_) fun hge => ?_
 · have hil : i < l.length:=by omega
   have hk3:=h2 _ (List.getElem_mem hil)
   refine (hl.Q4 he).var i rfl hil (by kernel_rfl) fun bb w3 kv2 hb he2 hb2 Qpj => ?_
   have hE:=he.Q0 he2
   have ek : ∀ {K : Value → Prop},K (.int .i64 l[i].kind) → QC w3 ⟨bb,1,none⟩ K:=fun h => hb.ld (o:=1) rfl h
   have ew : ∀ {K : Value → Prop},K (u64 l[i].was) → QC w3 ⟨bb,2,none⟩ K:=fun h => hb.ld (o:=2) rfl h
   have ei : ∀ {K : Value → Prop},K (u64 l[i].is) → QC w3 ⟨bb,3,none⟩ K:=fun h => hb.ld (o:=3) rfl h
   refine xj (fun vs w' => vs = [.bool (!Q9g l[i])] ∧ w' = w3) ?_ ?_
   · refine ek ?_
     refine Vu (fun h1 => ?_) fun h1 => ?_
     · refine ew ?_
       refine Q5L (fun h => ⟨by unfold Q9g; rw [if_pos h1,decide_eq_false (by omega)]; rfl,rfl⟩) fun h => ?_
       have hf : Q9g l[i] = true:=by unfold Q9g; rw [if_pos h1,decide_eq_true (by omega)]
       refine ek ?_
       refine Vu (fun h2 => by omega) fun h2 => ek ?_
       refine Vu (fun h2 => by omega) fun h2 => ⟨by rw [hf]; rfl,rfl⟩
     · refine ek ?_
       refine Vu (fun h2 => ?_) fun h2 => ?_
       · refine ei ?_
         refine Q5L (fun h => ⟨by unfold Q9g; rw [if_neg h1,if_pos h2,decide_eq_false (by omega)]; rfl,rfl⟩) fun h => ?_
         have hf : Q9g l[i] = true:=by unfold Q9g; rw [if_neg h1,if_pos h2,decide_eq_true (by omega)]
         refine ek ?_
         refine Vu (fun h2 => by omega) fun h2 => ⟨by rw [hf]; rfl,rfl⟩
       · refine ek ?_
         refine Vu (fun h3 => ?_) fun h3 => by omega
         refine ew (ei ⟨?_,rfl⟩)
         show [Value.bool (((l[i].was : Nat) : Int) == (l[i].is : Nat))] = _
         unfold Q9g; rw [if_neg h1,if_neg h2]
         by_cases e : l[i].was = l[i].is
         · rw [e]; simp
         · have h5 : (((l[i].was : Nat) : Int) == (l[i].is : Nat)) = false:=by rw [beq_eq_false_iff_ne]; omega
           rw [h5,decide_eq_true e]; rfl
   rintro vs g w4 ⟨rfl,rfl⟩
   cases hf : Q9g l[i] with
   | false =>
     refine Qr rfl ⟨?_,hE⟩
     unfold D8; rw [if_neg n1,if_neg n2,if_pos ⟨l[i],List.getElem_mem hil,hf⟩]; rfl
   | true =>
     refine Qp rfl ?_
     refine xi (r:=((i + 1 : Nat) : Int)) (by rw [QQ (by omega)]; omega) ?_
     exact JP (l.length - (i + 1)) (by omega) ⟨i + 1,_,rfl,rfl,by omega,fun c hc => by
      rcases Qcq hil hc with hc | rfl
      · exact h3 c hc
      · exact hf,hE⟩
 rw [List.take_of_length_le (by omega)] at h3
 have n3 : ¬ ∃ c ∈ l,Q9g c = false:=by rintro ⟨c,hc,h⟩; rw [h3 c hc] at h; cases h
 clear hge hi
 refine JN (fun n vs w' => ∃ (i : Nat) (x : Value),vs = [.int .i64 i,x] ∧ n = l.length - i ∧ 1 ≤ i ∧ (∀ j (h : j + 1 < l.length),j + 1 < i → Xr l[j].key l[j + 1].key) ∧ Ext No w w') (l.length - 1) ⟨1,_,rfl,rfl,by omega,fun j _ h => by omega,he⟩ ?_
 rintro n vs g w2 ⟨i,x,rfl,rfl,hi,h4,he⟩
 unfold QpP
 refine (hl.Q4 he).len ?_
 refine ZF (fun hlt => ?_) fun hge => ?_
 · have hil : i < l.length:=by omega
   have QHj : i - 1 < l.length:=by omega
   refine xi (r:=((i - 1 : Nat) : Int)) (by rw [QQ (by omega)]; omega) ?_
   refine (hl.Q4 he.drew).key (i - 1) rfl QHj fun k1 hk1 => (hl.Q4 he.drew).key i rfl hil fun k2 hk2 => ?_
   refine (Q49 hk1 hk2 (by have:=h1 _ (List.getElem_mem QHj); omega)).mono ?_
   rintro _ w3 ⟨rfl,QE⟩
   have hE:=he.drew.Q0 QE
   have e1 : i - 1 + 1 = i:=by omega
   refine ZF (fun h => ⟨?_,hE⟩) fun h => ?_
   · unfold D8; rw [if_neg n1,if_neg n2,if_neg n3,if_neg fun hr => ?_]
     · rfl
     · have:=Qsb.1 hr (i - 1) (by omega)
       simp only [e1] at this
       exact Q2q.1 h this
   · refine xi (r:=((i + 1 : Nat) : Int)) (by rw [QQ (by omega)]; omega) ?_
     refine JP (l.length - (i + 1)) (by omega) ⟨i + 1,_,rfl,rfl,by omega,fun j hj hji => ?_,hE⟩
     by_cases e : j + 1 < i
     · exact h4 j hj e
     · have e2 : j = i - 1:=by omega
       subst e2
       simp only [e1]
       exact Decidable.byContradiction fun hn => h (Q2q.2 hn)
 · refine ⟨?_,he⟩
   unfold D8; rw [if_neg n1,if_neg n2,if_neg n3,if_pos (Qsb.2 fun j hj => h4 j hj (by omega))]; rfl
theorem QGL (ha : Ps w va a) (hl : Cs w v l) (pa : Zp a) (hll : a.length + l.length ≤ 100000) (ka : ∀ p ∈ a,p.1.length ≤ 65535) (hfl : Floor.n ≤ w.heap.size) :
  Q6 P Qpd [va,v] w fun r w' => ∃ o,r = .tuple #[o,.int .i64 ((Qjx a l).1 : Nat)] ∧ Ps w' o (Qjx a l).2 ∧ Ext No w w':=by
 refine QDT ?_
 refine (QAz hl (by omega)).mono ?_
 rintro _ w1 ⟨rfl,he1⟩
 refine Q5L (fun h => ?_) fun h => ?_
 · have h : ¬ D8 l = 0:=by omega
   unfold Qjx; rw [if_neg h]
   exact ⟨_,rfl,Ps.nil _,he1⟩
 have h : D8 l = 0:=by omega
 obtain ⟨kl,k3,-,hr⟩:=Q5U.1 h
 refine JN (fun n vs w' => ∃ (i : Nat) (x1 x2 x3 x4 x5 o : Value),vs = [.int .i64 i,x1,x2,x3,x4,x5,o] ∧ n = l.length - i ∧ i ≤ l.length ∧ (∀ c ∈ l.take i,Q6H c (look a c.key) = 0) ∧ Ps w' o (QsG a (l.take i)) ∧ Ext No w w') l.length ⟨0,_,_,_,_,_,_,rfl,rfl,by omega,by simp,ha.Q4 he1,he1⟩ ?_
 rintro n vs g w2 ⟨i,x1,x2,x3,x4,x5,o,rfl,rfl,hi,hf,ho,he⟩
 unfold Qq6
 refine (hl.Q4 he).len ?_
 refine ZF (fun hlt => ?_) fun hge => ?_
 · have hil : i < l.length:=by omega
   have hz:=he.size
   refine xj (fun vs w' => ∃ x1 x2 x3 x4 x5 o : Value,vs = [x1,x2,x3,x4,x5,o] ∧ Q6H l[i] (look a l[i].key) = 0 ∧ Ps w' o (QsG a (l.take (i + 1))) ∧ Ext No w w') ?_ ?_
   · refine (hl.Q4 he).key i rfl hil fun kv Wq => ?_
     refine (Qec (ha.Q4 he) Wq (by omega) ka).mono ?_
     rintro _ w3 ⟨rfl,QE⟩
     have JD:=he.Q0 QE
     refine (hl.Q4 JD).rd i rfl hil fun kv3 QEG => ?_
     refine (QGK (x:=look a l[i].key) (u:=(look a l[i].key).getD 0) fun y hy => by rw [hy]; rfl).mono ?_
     rintro _ w4 ⟨rfl,Zl⟩
     have U9:=JD.Q0 Zl
     refine Q5L (fun h => ?_) fun h => ?_
     · have h : Q6H l[i] (look a l[i].key) ≠ 0:=by omega
       unfold Qjx; rw [if_pos ‹D8 l = 0›,QE5 hil hf h]
       exact ⟨_,rfl,Ps.nil _,U9⟩
     have h : Q6H l[i] (look a l[i].key) = 0:=by omega
     have hap:=Qw0 (l:=l.take i) (m:=a)
     rw [List.length_take,Nat.min_eq_left hi] at hap
     have hkk : ∀ p ∈ QsG a (l.take i),p.1.length ≤ 65535:=fun p hp => by
      rcases QDI hp with h | ⟨c,hc,e⟩
      · exact ka p h
      · rw [e]; exact kl c (List.mem_of_mem_take hc)
     refine (hl.Q4 U9).kind i rfl hil ?_
     have ho4:=ho.Q4 (QE.Q0 Zl)
     refine Vu (fun h2 => ?_) fun h2 => ?_
     · refine (hl.Q4 U9).key i rfl hil fun kv5 QIk => ?_
       refine (QnU ho4 QIk (by omega) hkk).mono ?_
       rintro _ w5 ⟨out,rfl,hso,ZR⟩
       refine ⟨_,_,_,_,_,_,rfl,h,?_,U9.Q0 ZR⟩
       rw [QDd hil]; unfold doC; rw [if_pos h2]
       exact hso.ps ZR (.inr rfl)
     · have hd:=U9.drew
       refine (hl.Q4 hd).key i rfl hil fun kv5 QIk => ?_
       refine (hl.Q4 hd).is i rfl hil ?_
       refine (QnV (x:=l[i].is) (ho4.Q4 (Ext.refl _ _).drew) QIk (hl.ok _ (List.getElem_mem hil)).2 (by omega) hkk (kl _ (List.getElem_mem hil))).mono ?_
       rintro r w5 ⟨hp,ZR⟩
       refine ⟨_,_,_,_,_,_,rfl,h,?_,hd.Q0 ZR⟩
       rw [QDd hil]; unfold doC; rw [if_neg h2,Qj2 _ (Qsw pa)]
       exact hp
   · rintro vs g w3 ⟨y1,y2,y3,y4,y5,o',rfl,hfi,ho',QE⟩
     refine xi (r:=((i + 1 : Nat) : Int)) (by rw [QQ (by omega)]; omega) ?_
     exact JP (l.length - (i + 1)) (by omega) ⟨i + 1,_,_,_,_,_,_,rfl,rfl,by omega,fun c hc => by
      rcases Qcq hil hc with hc | rfl
      · exact hf c hc
      · exact hfi,ho',QE⟩
 · rw [List.take_of_length_le (by omega)] at hf ho
   unfold Qjx; rw [if_pos h,Qw8 hf]
   exact ⟨_,rfl,ho,he⟩
end
end Go.Proofs.YtbnhggfiembejaaGreatDoor
end
section
namespace Go.Proofs.YtbnhggfiembejaaGreatDoor
open Go Go.RowKit X
set_option linter.unusedSimpArgs false
set_option linter.unusedVariables false
set_option linter.unusedSectionVars false
theorem QFY {a b : List Chg} {l : Kv} {i : Nat} (h : i < l.length) : QDR a b (l.take (i + 1)) = QDR a b (l.take i) ++ (Qn7 l[i].1 (J2 a l[i].1) (J2 b l[i].1)).toList:=QFx h
theorem QEJ {a b : List Chg} {l : Kv} : (QDR a b l).length ≤ l.length:=List.length_filterMap_le _ _
variable [Floor]
section
variable {w w0 : World} {v va vb kv : Value} {l m : List Chg} {k : Key} {c : Chg}
theorem QHv (ha : Cs w va l) (hb : Cs w vb m) (hll : l.length + m.length ≤ 100000) (hfl : Floor.n ≤ w.heap.size) :
  Q6 P Qsn [va,vb] w fun r w' => ∃ o,r = .tuple #[o,.int .i64 ((thenS l m).1 : Nat)] ∧ Cs w' o (thenS l m).2 ∧ Ext No w w':=by
 refine QEh ?_
 refine (QAz ha (by omega)).mono ?_
 rintro _ w1 ⟨rfl,he1⟩
 refine Q5L (fun h => ?_) fun h => ?_
 · have h : ¬ D8 l = 0:=by omega
   unfold thenS; rw [if_neg h]
   exact ⟨_,rfl,Cs.nil _,he1⟩
 have hA : D8 l = 0:=by omega
 refine (QAz (hb.Q4 he1) (by omega)).mono ?_
 rintro _ w2 ⟨rfl,he2⟩
 have hE2:=he1.Q0 he2
 refine Q5L (fun h => ?_) fun h => ?_
 · have h : ¬ D8 m = 0:=by omega
   unfold thenS; rw [if_pos hA,if_neg h]
   exact ⟨_,rfl,Cs.nil _,hE2⟩
 have hB : D8 m = 0:=by omega
 obtain ⟨ka,k3a,-,hra⟩:=Q5U.1 hA
 obtain ⟨kb,k3b,-,hrb⟩:=Q5U.1 hB
 refine (QHw (ha.Q4 hE2) (hb.Q4 hE2) hll ka kb).mono ?_
 rintro vt w3 ⟨ht,QE⟩
 have JD:=hE2.Q0 QE
 have hz3:=JD.size
 have hL:=QAt l m
 have hS : ∀ e L,(goC l m (Q6l l m)) = some e → L = [] → thenS l m = (e,L):=fun e L h1 h2 => by unfold thenS; rw [if_pos hA,if_pos hB,h1,h2]; rfl
 refine JN (fun n vs w' => ∃ (i : Nat) (x1 x2 x3 x4 o : Value),vs = [.int .i64 i,x1,x2,x3,x4,o] ∧ n = (Q6l l m).length - i ∧ i ≤ (Q6l l m).length ∧ (∀ x ∈ (Q6l l m).take i,Qfd (J2 l x.1) (J2 m x.1) = 0) ∧ CO w' w3.heap.size KU o (QDR l m ((Q6l l m).take i)) ∧ Ext No w3 w') (Q6l l m).length ⟨0,_,_,_,_,_,rfl,rfl,by omega,by simp,CO.nil _ _ _,Ext.refl _ _⟩ ?_
 rintro n vs g w4 ⟨i,x1,x2,x3,x4,o,rfl,rfl,hi,hf,ho,he⟩
 unfold Qu2
 refine (ht.Q4 he).len ?_
 refine ZF (fun hlt => ?_) fun hge => ?_
 · have hil : i < (Q6l l m).length:=by omega
   have hE:=JD.Q0 he
   have hz:=he.size
   refine xj (fun vs w' => ∃ x1 x2 x3 x4 o' : Value,vs = [x1,x2,x3,x4,o'] ∧ Qfd (J2 l (Q6l l m)[i].1) (J2 m (Q6l l m)[i].1) = 0 ∧ CO w' w3.heap.size KU o' (QDR l m ((Q6l l m).take (i + 1))) ∧ Ext No w3 w') ?_ ?_
   · refine (ht.Q4 he).key i rfl hil fun kv Wq => ?_
     refine (QFC (ha.Q4 hE) Wq (fun c hc => by have:=ka c hc; omega) (by omega) (by omega)).mono ?_
     rintro r1 w5 ⟨hr1,ZR⟩
     have WX:=hE.Q0 ZR
     have hz5:=ZR.size
     refine (QFC (hb.Q4 WX) (Wq.Q4 ZR) (fun c hc => by have:=kb c hc; omega) (by omega) (by omega)).mono ?_
     rintro r2 w6 ⟨hr2,Ke⟩
     have QHl:=ZR.Q0 Ke
     have hz6:=Ke.size
     have QHh:=Wq.Q4 QHl
     have bad0 : Qfd (J2 l (Q6l l m)[i].1) (J2 m (Q6l l m)[i].1) ≠ 0 → thenS l m = (Qfd (J2 l (Q6l l m)[i].1) (J2 m (Q6l l m)[i].1),[]):=fun hb => hS _ _ (QGC hil hf hb) rfl
     rw [QFY hil]
     have kx : ∀ c,J2 l (Q6l l m)[i].1 = some c → 1 ≤ c.kind ∧ c.kind ≤ 3:=fun c h => k3a c (Qcr h).1
     have ky : ∀ c,J2 m (Q6l l m)[i].1 = some c → 1 ≤ c.kind ∧ c.kind ≤ 3:=fun c h => k3b c (Qcr h).1
     have hlen : (QDR l m ((Q6l l m).take i)).length ≤ i:=Nat.le_trans QEJ (by rw [List.length_take]; omega)
     generalize (Q6l l m)[i].1 = k at *
     generalize J2 l k = x at *
     generalize J2 m k = y at *
     have ok1 : (cz x).ok:=by obtain ⟨_,-,-,h⟩:=hr1; exact h
     have ok2 : (cz y).ok:=by obtain ⟨_,-,-,h⟩:=hr2; exact h
     obtain ⟨kv1,rfl,QGs,-⟩:=hr1
     obtain ⟨kv2,rfl,Qpj,-⟩:=hr2
     have QGs:=QGs.Q4 Ke
     have kx0 : (cz x).kind = 0 ↔ x = none:=by
      cases x with
      | none => exact ⟨fun _ => rfl,fun _ => rfl⟩
      | some c => exact ⟨fun h => by have:=(kx c rfl).1; have : c.kind = 0:=h; omega,fun h => by cases h⟩
     refine Qz fun p w7 hp hP hz7 Yy => Qz fun q w8 hq hQ hz8 KJ => ?_
     have hP : QZ w7 p [.slice none 0 0,.int .i64 0,.int .u64 0,.int .u64 0] KU:=hP
     have hQ : QZ w8 q [.slice none 0 0,.int .i64 0,.int .u64 0,.int .u64 0] KU:=hQ
     refine Q9i (hP.ext KJ fun h => h) (by kernel_rfl) QGs.R9 rfl rfl rfl fun w9 hP hz9 Ym => ?_
     refine Q9i (hQ.ext Ym fun h => by have h : q = p:=h; omega) (by kernel_rfl) Qpj.R9 rfl rfl rfl fun Dn hQ QyM J9 => ?_
     have hP:=hP.ext J9 fun h => by have h : p = q:=h; omega
     have E9:=Yy.Q0 KJ
     have OA : Ext No w6 w9:=E9.Z0 Ym (by omega)
     have Dq : Ext No w6 Dn:=OA.Z0 J9 (by omega)
     refine hP.JH rfl ?_
     refine Qz fun cc AL hcc hC QyL K9 => ?_
     have hC : QZ AL cc [.slice none 0 0,.int .i64 0,.int .u64 0,.int .u64 0] KU:=hC
     refine Q9i hC (by kernel_rfl) QGs.R9 rfl rfl rfl fun Rw hC QyK JX => ?_
     have Sm : Ext No w6 Rw:=(Dq.Q0 K9).Z0 JX (by omega)
     have hP:=(hP.ext K9 fun h => h).ext JX fun h => by have h : p = cc:=h; omega
     have hQ:=(hQ.ext K9 fun h => h).ext JX fun h => by have h : q = cc:=h; omega
     refine xj (fun vs w' => vs = [] ∧ ∃ kvc d,d = (if (cz x).kind = 0 then cz y else cz x) ∧ QZ w' cc (chC kvc d) KU ∧ Bs w' kvc d.key ∧ d.ok ∧ QZ w' p (chC kv1 (cz x)) KU ∧ QZ w' q (chC kv2 (cz y)) KU ∧ Ext No w6 w' ∧ w'.heap.size = Rw.heap.size) ?_ ?_
     · refine hP.ld (o:=1) (v:=.int .i64 (cz x).kind) rfl ?_
       refine Vu (fun h => ?_) fun h => ⟨rfl,kv1,cz x,by rw [if_neg h],hC,QGs.Q4 Sm,ok1,hP,hQ,Sm,rfl⟩
       refine hQ.JH rfl ?_
       refine Q9i hC (by kernel_rfl) Qpj.R9 rfl rfl rfl fun w13 hC3 QyJ XK => ?_
       have Qqk : Ext No w6 w13:=Sm.Z0 XK (by omega)
       exact ⟨rfl,kv2,cz y,by rw [if_pos h],hC3,Qpj.Q4 Qqk,ok2,hP.ext XK (fun h => by have h : p = cc:=h; omega),hQ.ext XK (fun h => by have h : q = cc:=h; omega),Qqk,QyJ⟩
     clear hP hQ hC
     rintro vs g w13 ⟨rfl,kvc,d,hd,hC,QFT,hdo,hP,hQ,Qqk,QyJ⟩
     refine xj (fun vs w' => ∃ (x1 x2 x3 : Value) (kvc : Value),vs = [x1,x2,x3] ∧ Qfd x y = 0 ∧ QZ w' cc (chC kvc (cz (Qn7 k x y))) KU ∧ Bs w' kvc (cz (Qn7 k x y)).key ∧ (cz (Qn7 k x y)).ok ∧ Ext No w6 w') ?_ ?_
     · refine xj (fun vs w' => vs = [.bool (x.isSome && y.isSome)] ∧ w' = w13) ?_ ?_
       · refine hP.ld (o:=1) (v:=.int .i64 (cz x).kind) rfl ?_
         refine Q5L (fun h => ?_) fun h => ?_
         · refine hQ.ld (o:=1) (v:=.int .i64 (cz y).kind) rfl ⟨?_,rfl⟩
           show [Value.bool ((cz y).kind != 0)] = _
           cases x with
           | none => exact absurd rfl h
           | some x =>
             cases y with
             | none => rfl
             | some y => have:=(ky y rfl).1; rw [show ((cz (some y)).kind != 0) = true from by show (y.kind != 0) = true; simp; omega]; rfl
         · rw [kx0.1 h]; exact ⟨rfl,rfl⟩
       rintro vs g w14 ⟨rfl,rfl⟩
       cases x with
       | none =>
         refine Qp rfl ?_
         have e : d = cz (Qn7 k none y):=by rw [hd,Qpi]; rfl
         rw [← e]
         exact ⟨_,_,_,kvc,rfl,Qjv,hC,QFT,hdo,Qqk⟩
       | some x =>
         have k1:=kx x rfl
         have e0 : d = x:=by rw [hd]; exact if_neg (by show ¬ x.kind = 0; omega)
         subst e0
         cases y with
         | none =>
           refine Qp rfl ?_
           exact ⟨_,_,_,kvc,rfl,Qnd,hC,QFT,hdo,Qqk⟩
         | some y =>
           refine Qr rfl ?_
           refine hQ.JH rfl ?_
           refine hP.ld (o:=3) (v:=u64 d.is) rfl ?_
           refine hP.ld (o:=1) (v:=.int .i64 d.kind) rfl ?_
           have hfit:=QGK (w:=w14) (kv:=kv2) (c:=y) (x:=d.then') (u:=d.is) fun y => QE7
           rw [QD7] at hfit
           refine hfit.mono ?_
           rintro _ w15 ⟨rfl,Db⟩
           have QIt:=Qqk.Q0 Db
           refine Q5L (fun h => ?_) fun h => ?_
           · have h : Q6H y d.then' ≠ 0:=by omega
             rw [bad0 h]
             exact ⟨_,rfl,Cs.nil _,(hE.Q0 QHl).Q0 QIt⟩
           have hb0 : Qfd (some d) (some y) = 0:=by show Q6H y d.then' = 0; omega
           have hP5:=hP.ext Db fun h => h
           have hQ5:=hQ.ext Db fun h => h
           have hC5:=hC.ext Db fun h => h
           refine hP5.ld (o:=2) (v:=u64 d.was) rfl ?_
           refine hP5.ld (o:=1) (v:=.int .i64 d.kind) rfl ?_
           refine hQ5.ld (o:=3) (v:=u64 y.is) rfl ?_
           refine hQ5.ld (o:=1) (v:=.int .i64 y.kind) rfl ?_
           have QJb:=Db.size
           have hturn:=QFA (w:=w15) (x:=d.before) (y:=y.then') (p:=d.was) (q:=y.is) (QHh.Q4 QIt) (fun z => QFi) (fun z => QE7) ok1.1 ok2.2 (by omega)
           rw [QD7,QEO] at hturn
           refine hturn.mono ?_
           rintro _ w16 ⟨⟨kv3,rfl,QEG,ok3⟩,Q1v⟩
           refine Q9i (hC5.ext Q1v fun h => h) (by kernel_rfl) QEG.R9 rfl rfl rfl fun w17 hC7 hz17 Q7A => ?_
           exact ⟨_,_,_,kv3,rfl,hb0,hC7,QEG.ext Q7A (QFg (hC5.ext Q1v fun h => h) (by decide) (by omega)),ok3,(QIt.Q0 Q1v).Z0 Q7A (by omega)⟩
     clear hP hQ hC QFT hd hdo
     rintro vs g w14 ⟨y1,y2,y3,kvc,rfl,hb0,hC,QFT,hco,QJI⟩
     refine hC.ld (o:=1) (v:=.int .i64 (cz (Qn7 k x y)).kind) rfl ?_
     have hEE:=he.Q0 (QHl.Q0 QJI)
     have hoo:=ho.Q4 (QHl.Q0 QJI)
     have hzz:=hEE.size
     cases hj : Qn7 k x y with
     | none =>
       refine Q5L (fun h => absurd rfl h) fun _ => ?_
       exact ⟨_,_,_,_,_,rfl,hb0,by simpa using hoo,hEE⟩
     | some e =>
       rw [hj] at hC QFT hco
       have hk1 : e.kind ≠ 0:=by
        cases x with
        | none => rw [Qpi] at hj; have:=(ky e hj).1; omega
        | some x =>
          cases y with
          | none => rw [QEF] at hj; have:=(kx e hj).1; omega
          | some y => have:=(QfF (show DR k x.before y.then' = some e from hj)).1; omega
       refine Q5L (fun _ => ?_) fun h => absurd h hk1
       refine hC.JH rfl ?_
       refine CO.snoc (w0:=w3) (c:=e) QEd (by decide) (by omega) hoo hEE (Nat.le_refl _) (by omega) QFT hco (by omega) fun v' w7 h7 Yy _ => ?_
       exact ⟨_,_,_,_,_,rfl,hb0,h7,Yy⟩
   · rintro vs g w5 ⟨y1,y2,y3,y4,o',rfl,hb0,ho',ZR⟩
     refine xi (r:=((i + 1 : Nat) : Int)) (by rw [QQ (by omega)]; omega) ?_
     exact JP ((Q6l l m).length - (i + 1)) (by omega) ⟨i + 1,_,_,_,_,_,rfl,rfl,by omega,fun c hc => by
      rcases Qcq hil hc with hc | rfl
      · exact hf c hc
      · exact hb0,ho',ZR⟩
 · rw [List.take_of_length_le (by omega)] at hf ho
   unfold thenS; rw [if_pos hA,if_pos hB,QGD hf]
   exact ⟨_,rfl,ho.cs (.inr rfl),JD.Q0 he⟩
end
end Go.Proofs.YtbnhggfiembejaaGreatDoor
end
section
namespace Go.Proofs.YtbnhggfiembejaaGreatDoor
open Go Go.RowKit X
set_option linter.unusedSimpArgs false
set_option linter.unusedVariables false
set_option linter.unusedSectionVars false
theorem QHd {a b : Key} (h : ¬ Xr a b) : Uv b a ≤ 0:=by unfold Xr at h; rw [Qdu a b]; omega
theorem QAn {way p : Key} : ¬ Xr (way ++ p) way:=fun h => by
 have : Xr (way ++ p) (way ++ []):=by rw [List.append_nil]; exact h
 rw [D7] at this
 cases p with
 | nil => exact Ep this
 | cons c r => exact absurd (show ((1 : Int) < 0) from this) (by decide)
theorem Qz6 {k way p : Key} (h : Xr k way) : Xr k (way ++ p):=by
 rcases Qba k (way ++ p) with h1 | h1 | h1
 · exact h1
 · rw [h1] at h; exact absurd h QAn
 · exact absurd (Az h1 h) QAn
theorem QDa {k way p : Key} (h : Xr k (way ++ p)) : Xr k way ∨ ∃ r,k = way ++ r ∧ Xr r p:=by
 by_cases h1 : Xr k way
 · exact .inl h1
 · right
   obtain ⟨r,rfl⟩:=QlB (p:=way) (a:=[]) (x:=k) (z:=p) (by rw [List.append_nil]; exact QHd h1) (Qmi (.inl h))
   exact ⟨r,rfl,D7 way |>.1 h⟩
theorem QEa {r : Key} {c : UInt8} : Xr r [c] ↔ r = [] ∨ ∃ d s,d.toNat < c.toNat ∧ r = d :: s:=by
 cases r with
 | nil => exact ⟨fun _ => .inl rfl,fun _ => by show ((-1 : Int) < 0); decide⟩
 | cons d s =>
   have key : Xr (d :: s) [c] ↔ d < c:=by
    unfold Xr
    rw [Wp]
    by_cases h1 : d < c
    · rw [if_pos h1]; exact ⟨fun _ => h1,fun _ => by decide⟩
    · rw [if_neg h1]
      by_cases h2 : c < d
      · rw [if_pos h2]; exact ⟨fun h => absurd h (by decide),fun h => absurd h h1⟩
      · rw [if_neg h2]
        refine ⟨fun h => ?_,fun h => absurd h h1⟩
        cases s with
        | nil => exact absurd h (by decide)
        | cons e s => exact absurd (show ((1 : Int) < 0) from h) (by decide)
   rw [key]
   constructor
   · intro h; exact .inr ⟨d,s,UInt8.lt_iff_toNat_lt.1 h,rfl⟩
   · rintro (h | ⟨d',s',h,e⟩)
     · cases h
     · injection e with e1 e2; rw [e1]; exact UInt8.lt_iff_toNat_lt.2 h
def QvT (G : Key → Option Chg) (acc : List Chg) (S : Key → Prop) : Prop:=Q6t acc ∧ ∀ k,(S k → J2 acc k = G k) ∧ (¬ S k → J2 acc k = none)
section
variable {G : Key → Option Chg} {acc D : List Chg} {S S' : Key → Prop} {way part : Key}
theorem QvT.iff (h : QvT G acc S) (hs : ∀ k,G k ≠ none → (S k ↔ S' k)) : QvT G acc S':=by
 refine ⟨h.1,fun k => ?_⟩
 by_cases hG : G k = none
 · have e : J2 acc k = none:=by
    by_cases hk : S k
    · rw [(h.2 k).1 hk,hG]
    · exact (h.2 k).2 hk
   exact ⟨fun _ => by rw [e,hG],fun _ => e⟩
 · rw [← hs k hG]; exact h.2 k
theorem QvT.snoc (h : QvT G acc S) {c : Chg} (hc : G c.key = some c) (hlt : ∀ k,S k → Xr k c.key) : QvT G (acc ++ [c]) (fun k => S k ∨ k = c.key):=by
 refine ⟨List.pairwise_append.2 ⟨h.1,by simp,fun a ha b hb => ?_⟩,fun k => ?_⟩
 · rw [List.mem_singleton.1 hb]
   have h1:=h.1.lk ha
   by_cases hk : S a.key
   · exact hlt _ hk
   · rw [(h.2 a.key).2 hk] at h1; cases h1
 · rw [Qw6]
   refine ⟨fun hk => ?_,fun hk => ?_⟩
   · rcases hk with hk | rfl
     · rw [(h.2 k).1 hk,J2,if_neg fun e => Ep (e ▸ hlt k hk)]
       cases G k <;> rfl
     · have hn : ¬ S c.key:=fun hs => Ep (hlt _ hs)
       rw [(h.2 c.key).2 hn,J2,if_pos rfl,hc]; rfl
   · have h1 : ¬ S k:=fun hs => hk (.inl hs)
     have h2 : c.key ≠ k:=fun e => hk (.inr e.symm)
     rw [(h.2 k).2 h1,J2,if_neg h2]; rfl
theorem QE9 {p : Chg → Bool} {q : Key → Bool} (hp : ∀ c,p c = q c.key) : ∀ (l : List Chg) (k : Key),J2 (l.filter p) k = if q k then J2 l k else none:=by
 intro l k
 induction l with
 | nil => simp [J2]
 | cons c r ih =>
   rw [List.filter_cons]
   by_cases e : c.key = k
   · subst e
     rw [J2,if_pos rfl]
     rw [← hp c] at ih ⊢
     by_cases h : p c
     · rw [if_pos h,if_pos h,J2,if_pos rfl]
     · rw [if_neg h,if_neg h,ih,if_neg h]
   · rw [J2,if_neg e]
     by_cases h : p c
     · rw [if_pos h,J2,if_neg e,ih]
     · rw [if_neg h,ih]
theorem QvT.len (h : QvT G acc S) (hD : Q6t D) (hG : ∀ k,J2 D k = G k) : acc.length ≤ D.length:=by
 classical
 have e : acc = D.filter fun c => decide (S c.key):=by
  refine h.1.ext (List.Pairwise.filter _ hD) fun k => ?_
  rw [QE9 (q:=fun k => decide (S k)) (fun c => rfl),hG]
  by_cases hk : S k
  · rw [(h.2 k).1 hk,if_pos (decide_eq_true hk)]
  · rw [(h.2 k).2 hk,if_neg (by simp [hk])]
 rw [e]; exact List.length_filter_le _ _
theorem QvT.all (h : QvT G acc S) (hs : ∀ k,S k) (hD : Q6t D) (hG : ∀ k,J2 D k = G k) : acc = D :=
 h.1.ext hD fun k => by rw [(h.2 k).1 (hs k),hG]
theorem QvT.past (h : QvT G acc (fun k => Xr k way)) (hn : ∀ r,¬ part <+: r → G (way ++ r) = none) : QvT G acc (fun k => Xr k (way ++ part)):=by
 refine h.iff fun k hk => ⟨fun h => Qz6 h,fun h => ?_⟩
 rcases QDa h with h1 | ⟨r,rfl,h1⟩
 · exact h1
 · refine absurd (hn r fun hp => ?_) hk
   obtain ⟨s,rfl⟩:=hp
   exact QAn h1
end
inductive QmC where
 | all (t : T)
 | one (c : UInt8) (t : T) (o : Nat)
def QmC.val : QmC → Option Nat
 | .all t => t.val
 | .one .. => none
def QmC.Q3A : QmC → UInt8 → T
 | .all t,c => t.kid c
 | .one d t _,c => if c = d then t else .nil
def QmC.Qu8 : QmC → UInt8 → Nat
 | .all _,_ => 0
 | .one d _ o,c => if c = d then o else 0
def QmC.get (s : QmC) : Key → Option Nat
 | [] => s.val
 | c :: r => (W9 (s.Qu8 c) (s.Q3A c).er).get r
def QmC.cells : QmC → List Value
 | .all t => [t.v,.bool false,.int .u8 0,.pointer none,.int .i64 0]
 | .one c t o => [.pointer none,.bool true,bv c,t.v,.int .i64 o]
abbrev QmC.v (s : QmC) : Value:=.agg s.cells.toArray
structure SdR (e : E) (part : Key) (s : QmC) : Prop where
 yes : ∀ r,e.get (part ++ r) = s.get r
 no : ∀ r,¬ part <+: r → e.get r = none
theorem E.QFw (p q : Key) (v : Option Nat) (k : UInt8 → E) (r : Key) : (E.node (p ++ q) v k).get (p ++ r) = (E.node q v k).get r:=by
 rw [E.get,E.get]
 by_cases h : q <+: r
 · obtain ⟨s,rfl⟩:=h
   rw [if_pos ⟨s,by simp⟩,if_pos (List.prefix_append _ _),List.drop_left,← List.append_assoc,List.drop_left]
 · rw [if_neg fun h2 => h ((List.prefix_append_right_inj p).1 h2),if_neg h]
theorem SdR.nil (part : Key) (o : Nat) : SdR (W9 o T.nil.er) part (.all .nil):=by
 refine ⟨fun r => ?_,fun r _ => rfl⟩
 cases r <;> rfl
section
variable {t : T} {o : Nat} {part q : Key} {x : UInt8}
theorem SdR.all (ht : t ≠ .nil) (h : t.part.drop o = part) : SdR (W9 o t.er) part (.all t):=by
 cases t with
 | nil => exact absurd rfl ht
 | node a ow tp tv ks kids =>
   have h : tp.drop o = part:=h
   refine ⟨fun r => ?_,fun r hr => ?_⟩
   · show (E.node (tp.drop o) tv fun c => (kids c).er).get (part ++ r) = _
     rw [h,E.VX]
     cases r with
     | nil => rfl
     | cons c s => show (kids c).er.get s = (W9 0 (kids c).er).get s; generalize (kids c).er = e; cases e <;> rfl
   · show (E.node (tp.drop o) tv fun c => (kids c).er).get r = none
     rw [h,E.get,if_neg hr]
theorem SdR.one (ht : t ≠ .nil) (h : t.part.drop o = part ++ x :: q) : SdR (W9 o t.er) part (.one x t (o + part.length + 1)):=by
 cases t with
 | nil => exact absurd rfl ht
 | node a ow tp tv ks kids =>
   have h : tp.drop o = part ++ x :: q:=h
   have h2 : tp.drop (o + part.length + 1) = q:=by
    rw [← List.drop_drop,← List.drop_drop,h,List.drop_left]; rfl
   refine ⟨fun r => ?_,fun r hr => ?_⟩
   · show (E.node (tp.drop o) tv fun c => (kids c).er).get (part ++ r) = _
     rw [h,E.QFw]
     cases r with
     | nil => rw [E.get,if_neg (by simp)]; rfl
     | cons c s =>
       show _ = (W9 (if c = x then o + part.length + 1 else 0) (if c = x then T.node a ow tp tv ks kids else .nil).er).get s
       by_cases e : c = x
       · subst e
         rw [if_pos rfl,if_pos rfl]
         show _ = (E.node (tp.drop (o + part.length + 1)) tv fun c => (kids c).er).get s
         rw [h2]
         exact E.QFw [c] q tv _ s
       · rw [if_neg e,if_neg e,E.get,if_neg fun h => e (List.cons_prefix_cons.1 h).1.symm]; rfl
   · show (E.node (tp.drop o) tv fun c => (kids c).er).get r = none
     rw [h,E.get,if_neg fun hp => hr (List.IsPrefix.trans (List.prefix_append _ _) hp)]
end
def mu (t : T) (o : Nat) : Nat:=match t with | .nil => 0 | .node .. => t.er.long + 1 - o
structure QKh (s : QmC) (i z : Nat) (t : T) (o : Nat) (b : Bool) : Prop where
 lt : z ≤ 255
 yes : b = true → ∃ c : UInt8,z = c.toNat ∧ i ≤ z ∧ s.Q3A c ≠ .nil ∧ t = s.Q3A c ∧ o = s.Qu8 c ∧ ∀ d : UInt8,i ≤ d.toNat → d.toNat < z → s.Q3A d = .nil
 no : b = false → ∀ d : UInt8,i ≤ d.toNat → s.Q3A d = .nil
theorem QmC.get_nil {s : QmC} {c : UInt8} {r : Key} (h : s.Q3A c = .nil) : s.get (c :: r) = none:=by
 show (W9 _ (s.Q3A c).er).get r = none
 rw [h]; rfl
end Go.Proofs.YtbnhggfiembejaaGreatDoor
end
section
namespace Go.Proofs.YtbnhggfiembejaaGreatDoor
open Go Go.RowKit X
set_option linter.unusedSimpArgs false
set_option linter.unusedVariables false
set_option linter.unusedSectionVars false
variable [Floor]
section
variable {w w0 : World} {v va vb kv : Value} {a b : Kv} {l m : List Chg} {k : Key} {c : Chg} {t : T} {o n : Nat}
abbrev chV (kv : Value) (c : Chg) : Value:=.agg #[kv,.int .i64 c.kind,u64 c.was,u64 c.is]
theorem QIC : Q6 P QdD [chV kv c] w fun r w' => r = .bool (Q9g c) ∧ Ext No w w':=by
 refine Qwc ?_
 refine Qz fun cb w1 hcb hC hz he => ?_
 have hC : QZ w1 cb (chC kv c) Q3:=hC
 refine hC.ld (o:=1) (v:=.int .i64 c.kind) rfl ?_
 refine Vu (fun h1 => ?_) fun h1 => ?_
 · refine hC.ld (o:=2) (v:=u64 c.was) rfl ⟨?_,he⟩
   show Value.bool (((c.was : Nat) : Int) == 0) = _
   unfold Q9g; rw [if_pos h1]
   by_cases e : c.was = 0
   · rw [e]; simp
   · rw [decide_eq_false e,beq_eq_false_iff_ne.2 (by omega)]
 · refine Vu (fun h2 => ?_) fun h2 => ?_
   · refine hC.ld (o:=3) (v:=u64 c.is) rfl ⟨?_,he⟩
     show Value.bool (((c.is : Nat) : Int) == 0) = _
     unfold Q9g; rw [if_neg h1,if_pos h2]
     by_cases e : c.is = 0
     · rw [e]; simp
     · rw [decide_eq_false e,beq_eq_false_iff_ne.2 (by omega)]
   · refine hC.ld (o:=2) (v:=u64 c.was) rfl ?_
     refine hC.ld (o:=3) (v:=u64 c.is) rfl ⟨?_,he⟩
     show Value.bool (((c.was : Nat) : Int) != (c.is : Nat)) = _
     unfold Q9g; rw [if_neg h1,if_neg h2]
     by_cases e : c.was = c.is
     · rw [e]; simp
     · rw [decide_eq_true e]; congr 1; simp; omega
theorem QGM {x : Option Nat} {u : Nat} (hx : ∀ y,x = some y → y = u) : Q6 P Q9d [chV kv c,.int .u64 u,.bool x.isSome] w fun r w' => r = .int .i64 (Q6H c x : Nat) ∧ Ext No w w':=by
 refine Qwb ?_
 refine Qz fun cb w1 hcb hC hz he => ?_
 have hC : QZ w1 cb (chC kv c) Q3:=hC
 have ek : ∀ {K : Value → Prop},K (.int .i64 c.kind) → QC w1 ⟨cb,1,none⟩ K:=fun h => hC.ld (o:=1) rfl h
 refine xj (fun vs w' => vs = [.bool (decide (c.kind = 1) && x.isSome)] ∧ w' = w1) ?_ ?_
 · refine ek ?_
   refine Vu (fun h => ⟨by rw [decide_eq_true h]; rfl,rfl⟩) fun h => ⟨by rw [decide_eq_false h]; rfl,rfl⟩
 rintro vs g w2 ⟨rfl,rfl⟩
 by_cases h1 : c.kind = 1
 · cases x with
   | some y => exact Qr (by simp [h1]) ⟨by simp [Q6H,h1],he⟩
   | none =>
     refine Qp (by simp) ?_
     refine xj (fun vs w' => vs = [.bool false] ∧ w' = w2) (ek (Q5L (fun h => absurd h1 h) fun h => ⟨rfl,rfl⟩)) ?_
     rintro vs g w3 ⟨rfl,rfl⟩
     refine Qp rfl ?_
     refine xj (fun vs w' => vs = [.bool false] ∧ w' = w3) (ek (Q5L (fun h => absurd h1 h) fun h => ⟨rfl,rfl⟩)) ?_
     rintro vs g w4 ⟨rfl,rfl⟩
     exact Qp rfl ⟨by simp [Q6H,h1],he⟩
 · refine Qp (by simp [h1]) ?_
   refine xj (fun vs w' => vs = [.bool (!x.isSome)] ∧ w' = w2) (ek (Q5L (fun h => ⟨rfl,rfl⟩) fun h => absurd h h1)) ?_
   rintro vs g w3 ⟨rfl,rfl⟩
   cases x with
   | none => exact Qr rfl ⟨by simp [Q6H,h1],he⟩
   | some y =>
     obtain rfl:=hx y rfl
     refine Qp rfl ?_
     refine xj (fun vs w' => vs = [.bool (decide (y ≠ c.was))] ∧ w' = w3) (ek (Q5L (fun h => hC.ld (o:=2) (v:=u64 c.was) rfl ⟨?_,rfl⟩) fun h => absurd h h1)) ?_
     · show [Value.bool (((y : Nat) : Int) != (c.was : Nat))] = _
       by_cases e : y = c.was
       · rw [e]; simp
       · rw [decide_eq_true e]; congr 2; simp; omega
     rintro vs g w4 ⟨rfl,rfl⟩
     refine ZF (fun h => ⟨?_,he⟩) fun h => ⟨?_,he⟩
     · rw [show Q6H c (some y) = 3 from by simp only [Q6H]; rw [if_neg h1,if_neg h]]; rfl
     · rw [show Q6H c (some y) = 0 from by simp only [Q6H]; rw [if_neg h1,if_pos (Decidable.not_not.1 h)]]; rfl
set_option maxRecDepth 100000 in
theorem QDH {F : Nat} {p : Chg → Bool} (hF : Q4c P F = true) (hs : ∀ (w : World) kv c,Q6 P F [chV kv c] w fun r w' => r = .bool (p c) ∧ Ext No w w') (hl : Cs w v l) (hll : l.length ≤ 100000) :
  Q6 P Q5b [v,.func (.func F) #[] #[]] w fun r w' => r = .bool (l.any p) ∧ Ext No w w':=by
 refine Qj4 ?_
 have hI : Q6 P Q99 [v,.func (.func F) #[] #[]] w fun r w' => ∃ z : Int,r = .int .i64 z ∧ (l.any p = decide (z ≥ 0)) ∧ Ext No w w':=by
  refine Qlg ?_
  refine hl.len ?_
  refine JN (fun n vs w' => ∃ (i : Nat) (x y : Value),vs = [.int .i64 i,x,y] ∧ n = l.length - i ∧ i ≤ l.length ∧ (∀ c ∈ l.take i,p c = false) ∧ Ext No w w') l.length ⟨0,_,_,rfl,rfl,by omega,by simp,Ext.refl _ _⟩ ?_
  rintro n vs g w1 ⟨i,x,y,rfl,rfl,hi,hno,he⟩
  unfold Q9O
  refine ZF (fun hlt => ?_) fun hge => ?_
  · have hil : i < l.length:=by omega
    refine (hl.Q4 he).rd i rfl hil fun kv Wq => ?_
    refine MF ?_
    refine XT hF ?_
    refine (hs w1 kv l[i]).mono ?_
    rintro _ w2 ⟨rfl,he2⟩
    have hE:=he.Q0 he2
    cases hp : p l[i] with
    | true =>
      refine Qr rfl ⟨i,rfl,?_,hE⟩
      rw [List.any_eq_true.2 ⟨l[i],List.getElem_mem hil,hp⟩,decide_eq_true (by omega)]
    | false =>
      refine Qp rfl ?_
      refine xi (r:=((i + 1 : Nat) : Int)) (by rw [QQ (by omega)]; omega) ?_
      exact JP (l.length - (i + 1)) (by omega) ⟨i + 1,_,_,rfl,rfl,by omega,fun c hc => by
       rcases Qcq hil hc with hc | rfl
       · exact hno c hc
       · exact hp,hE⟩
  · rw [List.take_of_length_le (by omega)] at hno
    refine ⟨-1,rfl,?_,he⟩
    rw [decide_eq_false (by omega),List.any_eq_false]
    exact fun c hc => by rw [hno c hc]; simp
 refine hI.mono ?_
 rintro _ w1 ⟨z,rfl,hz,he⟩
 rw [hz]
 exact ⟨rfl,he⟩
theorem QHA (w : World) (kv : Value) (c : Chg) : Q6 P QiO [chV kv c] w fun r w' => r = .bool (decide (c.kind < 1 ∨ 3 < c.kind)) ∧ Ext No w w':=by
 refine QDq ?_
 refine Qz fun cb w1 hcb hC hz he => ?_
 have hC : QZ w1 cb (chC kv c) Q3:=hC
 refine xj (fun vs w' => vs = [.bool (decide (c.kind < 1 ∨ 3 < c.kind))] ∧ w' = w1) ?_ ?_
 · refine hC.ld (o:=1) (v:=.int .i64 c.kind) rfl ?_
   refine ZF (fun h => ⟨by simp [h],rfl⟩) fun h => ?_
   refine hC.ld (o:=1) (v:=.int .i64 c.kind) rfl ⟨?_,rfl⟩
   show [Value.bool (decide (c.kind > 3))] = _
   simp [h]
 rintro vs g w2 ⟨rfl,rfl⟩
 exact ⟨rfl,he⟩
theorem QHz (w : World) (kv : Value) (c : Chg) : Q6 P QiA [chV kv c] w fun r w' => r = .bool (!Q9g c) ∧ Ext No w w':=by
 refine QDp ?_
 refine Qz fun cb w1 hcb hC hz he => ?_
 have hC : QZ w1 cb (chC kv c) Q3:=hC
 refine hC.JH rfl ?_
 refine (QIC (kv:=kv) (c:=c)).mono ?_
 rintro _ w2 ⟨rfl,he2⟩
 exact ⟨rfl,he.Q0 he2⟩
set_option maxRecDepth 100000 in
theorem Qke (hl : Cs w v l) (hll : l.length ≤ 100000) : Q6 P Q5a [v] w fun r w' => r = .int .i64 (D8 l : Nat) ∧ Ext No w w':=by
 refine QDZ ?_
 refine hl.len ?_
 refine JN (fun n vs w' => ∃ (i : Nat) (x y : Value),vs = [.int .i64 i,x,y] ∧ n = l.length - i ∧ i ≤ l.length ∧ (∀ c ∈ l.take i,c.key.length ≤ 65535) ∧ Ext No w w') l.length ⟨0,_,_,rfl,rfl,by omega,by simp,Ext.refl _ _⟩ ?_
 rintro n vs g w1 ⟨i,x,y,rfl,rfl,hi,h1,he⟩
 unfold Qql
 refine ZF (fun hlt => ?_) fun hge => ?_
 · have hil : i < l.length:=by omega
   refine (hl.Q4 he).var i rfl hil (by kernel_rfl) fun bb w2 kv hb he2 hb2 Wq => ?_
   refine hb.ld (o:=0) (v:=kv) rfl ?_
   refine (Qi6 (Wq.Q4 he2)).mono ?_
   rintro _ w3 ⟨rfl,rfl⟩
   have hE:=he.Q0 he2
   refine Q5L (fun h => ⟨?_,hE⟩) fun h => ?_
   · have hn : ¬ l[i].key.length ≤ 65535:=fun e => h (by rw [if_pos e])
     rw [if_neg hn]; unfold D8; rw [if_pos ⟨l[i],List.getElem_mem hil,by omega⟩]; rfl
   · have hn : l[i].key.length ≤ 65535:=Decidable.byContradiction fun e => by rw [if_neg e] at h; cases h
     refine xi (r:=((i + 1 : Nat) : Int)) (by rw [QQ (by omega)]; omega) ?_
     exact JP (l.length - (i + 1)) (by omega) ⟨i + 1,_,_,rfl,rfl,by omega,fun c hc => by
      rcases Qcq hil hc with hc | rfl
      · exact h1 c hc
      · omega,hE⟩
 rw [List.take_of_length_le (by omega)] at h1
 have n1 : ¬ ∃ c ∈ l,65535 < c.key.length:=by rintro ⟨c,hc,h⟩; have:=h1 c hc; omega
 clear hge hi
 refine (QDH (F:=QiO) (by kernel_rfl) QHA (hl.Q4 he) hll).mono ?_
 rintro _ w2 ⟨rfl,he2⟩
 have he:=he.Q0 he2
 cases h2 : l.any fun c => decide (c.kind < 1 ∨ 3 < c.kind) with
 | true =>
   refine Qr rfl ⟨?_,he⟩
   obtain ⟨c,hc,h⟩:=List.any_eq_true.1 h2
   unfold D8; rw [if_neg n1,if_pos ⟨c,hc,of_decide_eq_true h⟩]; rfl
 | false =>
 refine Qp rfl ?_
 have n2 : ¬ ∃ c ∈ l,c.kind < 1 ∨ 3 < c.kind:=by
  rintro ⟨c,hc,h⟩
  exact absurd (decide_eq_true h) (List.any_eq_false.1 h2 c hc)
 refine (QDH (F:=QiA) (by kernel_rfl) QHz (hl.Q4 he) hll).mono ?_
 rintro _ w3 ⟨rfl,QE⟩
 have he:=he.Q0 QE
 cases h3 : l.any fun c => !Q9g c with
 | true =>
   refine Qr rfl ⟨?_,he⟩
   obtain ⟨c,hc,h⟩:=List.any_eq_true.1 h3
   unfold D8; rw [if_neg n1,if_neg n2,if_pos ⟨c,hc,by simpa using h⟩]; rfl
 | false =>
 refine Qp rfl ?_
 have n3 : ¬ ∃ c ∈ l,Q9g c = false:=by
  rintro ⟨c,hc,h⟩
  have:=List.any_eq_false.1 h3 c hc
  rw [h] at this; simp at this
 refine JN (fun n vs w' => ∃ (i : Nat) (x : Value),vs = [.int .i64 i,x] ∧ n = l.length - i ∧ 1 ≤ i ∧ (∀ j (h : j + 1 < l.length),j + 1 < i → Xr l[j].key l[j + 1].key) ∧ Ext No w w') (l.length - 1) ⟨1,_,rfl,rfl,by omega,fun j _ h => by omega,he⟩ ?_
 rintro n vs g w2 ⟨i,x,rfl,rfl,hi,h4,he⟩
 unfold Qra
 refine (hl.Q4 he).len ?_
 refine ZF (fun hlt => ?_) fun hge => ?_
 · have hil : i < l.length:=by omega
   have QHj : i - 1 < l.length:=by omega
   refine xi (r:=((i - 1 : Nat) : Int)) (by rw [QQ (by omega)]; omega) ?_
   refine (hl.Q4 he.drew).key (i - 1) rfl QHj fun k1 hk1 => (hl.Q4 he.drew).key i rfl hil fun k2 hk2 => ?_
   refine (Qie hk1 hk2).mono ?_
   rintro _ w3 ⟨rfl,rfl⟩
   have hE:=he.drew
   have e1 : i - 1 + 1 = i:=by omega
   refine ZF (fun h => ⟨?_,hE⟩) fun h => ?_
   · unfold D8; rw [if_neg n1,if_neg n2,if_neg n3,if_neg fun hr => ?_]
     · rfl
     · have:=Qsb.1 hr (i - 1) (by omega)
       simp only [e1] at this
       exact Q2q.1 h this
   · refine xi (r:=((i + 1 : Nat) : Int)) (by rw [QQ (by omega)]; omega) ?_
     refine JP (l.length - (i + 1)) (by omega) ⟨i + 1,_,rfl,rfl,by omega,fun j hj hji => ?_,hE⟩
     by_cases e : j + 1 < i
     · exact h4 j hj e
     · have e2 : j = i - 1:=by omega
       subst e2
       simp only [e1]
       exact Decidable.byContradiction fun hn => h (Q2q.2 hn)
 · refine ⟨?_,he⟩
   unfold D8; rw [if_neg n1,if_neg n2,if_neg n3,if_pos (Qsb.2 fun j hj => h4 j hj (by omega))]; rfl
theorem QGN (hct : Ct w t a) (hl : Cs w v l) (hll : l.length ≤ 100000) (ho : o < 18446744073709551616) (hfl : Floor.n ≤ w.heap.size) :
  Q6 P Qpf [t.v,v,.int .u64 o] w fun r w' => r = .int .i64 ((if o = 0 then 1 else (Qjx a l).1 : Nat)) ∧ Ext No w w':=by
 refine QDX ?_
 refine Vu (fun h => ⟨by rw [if_pos (by omega)]; rfl,Ext.refl _ _⟩) fun h => ?_
 rw [if_neg (by omega)]
 refine (Qke hl hll).mono ?_
 rintro _ w1 ⟨rfl,he1⟩
 refine Q5L (fun h => ?_) fun h => ?_
 · have h : ¬ D8 l = 0:=by omega
   unfold Qjx; rw [if_neg h]
   exact ⟨rfl,he1⟩
 have h : D8 l = 0:=by omega
 obtain ⟨kl,k3,-,hr⟩:=Q5U.1 h
 refine hl.len ?_
 refine JN (fun n vs w' => ∃ (i : Nat) (x1 x2 x3 x4 : Value),vs = [.int .i64 i,x1,x2,x3,x4] ∧ n = l.length - i ∧ i ≤ l.length ∧ (∀ c ∈ l.take i,Q6H c (look a c.key) = 0) ∧ Ext No w w') l.length ⟨0,_,_,_,_,rfl,rfl,by omega,by simp,he1⟩ ?_
 rintro n vs g w2 ⟨i,x1,x2,x3,x4,rfl,rfl,hi,hf,he⟩
 unfold Qqe
 refine ZF (fun hlt => ?_) fun hge => ?_
 · have hil : i < l.length:=by omega
   have hz:=he.size
   have hkl:=kl _ (List.getElem_mem hil)
   refine (hl.Q4 he).var i rfl hil (by kernel_rfl) fun bb w3 kv hb QE hb2 Wq => ?_
   have JD:=he.Q0 QE
   have hz3:=JD.size
   refine hb.ld (o:=0) (v:=kv) rfl ?_
   refine (QsV (by omega) (hct.tree.Q4 JD) (Wq.Q4 QE) (by omega)).mono ?_
   rintro _ w4 ⟨rfl,Zl⟩
   have e : t.get l[i].key = look a l[i].key:=hct.can.get _
   rw [e]
   refine (hb.ext Zl fun h => h).JH rfl ?_
   refine (QGM (kv:=kv) (c:=l[i]) (x:=look a l[i].key) (u:=(look a l[i].key).getD 0) fun y hy => by rw [hy]; rfl).mono ?_
   rintro _ w5 ⟨rfl,ZR⟩
   have WX:=(JD.Q0 Zl).Q0 ZR
   refine Q5L (fun h => ?_) fun h => ?_
   · have h : Q6H l[i] (look a l[i].key) ≠ 0:=by omega
     unfold Qjx; rw [if_pos ‹D8 l = 0›,QE5 hil hf h]
     exact ⟨rfl,WX⟩
   have h : Q6H l[i] (look a l[i].key) = 0:=by omega
   refine xi (r:=((i + 1 : Nat) : Int)) (by rw [QQ (by omega)]; omega) ?_
   exact JP (l.length - (i + 1)) (by omega) ⟨i + 1,_,_,_,_,rfl,rfl,by omega,fun c hc => by
    rcases Qcq hil hc with hc | rfl
    · exact hf c hc
    · exact h,WX⟩
 · rw [List.take_of_length_le (by omega)] at hf
   unfold Qjx; rw [if_pos h,Qw8 hf]
   exact ⟨rfl,he⟩
structure ApR (w w' : World) (o : Nat) (t : T) (a : Kv) (l : List Chg) (t' : T) (e : Nat) : Prop where
 val : e = if o = 0 then 1 else (Qjx a l).1
 bad : e ≠ 0 → t' = .nil
 good : e = 0 → Ct w' t' (Qjx a l).2
 own : ∀ q : Nat → Prop,q o → t.OwQ q → t'.OwQ q
 ext : Ext No w w'
theorem QE4 {a : Kv} {l : List Chg} (h : (Qjx a l).1 = 0) : D8 l = 0 ∧ (Qjx a l).2 = QsG a l:=by
 by_cases h0 : D8 l = 0
 · refine ⟨h0,?_⟩
   cases he : QFj a l with
   | none => unfold Qjx; rw [if_pos h0,he]
   | some e =>
     unfold Qjx at h
     rw [if_pos h0,he] at h
     unfold QFj at he
     obtain ⟨c,h1,h2⟩:=Option.map_eq_some_iff.1 he
     have:=List.find?_some h1
     simp at this
     exact absurd (h2.trans h) this
 · unfold Qjx at h
   rw [if_neg h0] at h
   exact absurd h h0
theorem QhK (hct : Ct w t a) (hpa : Pr a) (hq : t.OwQ (· ≠ o)) (hl : Cs w v l) (hll : a.length + l.length ≤ 100000) (ho : o < 18446744073709551616) (hw : Lw w) :
  Q6 P Q0H [t.v,v,.int .u64 o,.pointer none] w fun r w' => ∃ t' e,r = .tuple #[t'.v,.int .i64 (e : Nat)] ∧ ApR w w' o t a l t' e:=by
 refine QE0 ?_
 refine (QGN hct hl (by omega) ho hw.fl).mono ?_
 rintro _ w1 ⟨rfl,he1⟩
 refine Q5L (fun h => ?_) fun h => ?_
 · refine ⟨.nil,_,rfl,rfl,fun _ => rfl,fun e => absurd e (by omega),fun q _ _ => trivial,he1⟩
 have h : (if o = 0 then 1 else (Qjx a l).1) = 0:=by omega
 have h0 : o ≠ 0:=fun e => by rw [if_pos e] at h; cases h
 have ha:=h
 rw [if_neg h0] at ha
 obtain ⟨hc,hS⟩:=QE4 ha
 obtain ⟨kl,k3,-,hr⟩:=Q5U.1 hc
 refine hl.len ?_
 refine JN (fun n vs w' => ∃ (i : Nat) (t' : T),vs = [.int .i64 i,t'.v] ∧ n = l.length - i ∧ i ≤ l.length ∧ Ct w' t' (QsG a (l.take i)) ∧ t'.Sep o ∧ (∀ b,t'.Bt o b → w1.heap.size ≤ b) ∧ (∀ q : Nat → Prop,q o → t.OwQ q → t'.OwQ q) ∧ Ext No w1 w') l.length
  ⟨0,t,rfl,rfl,by omega,hct.Q4 he1,hq.free.sep,fun b hb => (hq.free.foot b hb).elim,fun q _ h => h,Ext.refl _ _⟩ ?_
 rintro n vs g w2 ⟨i,t',rfl,rfl,hi,QAi,hsep,QA0,hown,he⟩
 unfold QrP
 have hE:=he1.Q0 he
 refine ZF (fun hlt => ?_) fun hge => ?_
 · have hil : i < l.length:=by omega
   have hkl:=kl _ (List.getElem_mem hil)
   have hap:=Qw0 (l:=l.take i) (m:=a)
   rw [List.length_take,Nat.min_eq_left hi] at hap
   have Qj9 : Pr (QsG a (l.take i)):=⟨Qsw hpa.rises,fun p hp => by
    rcases QDI hp with h | ⟨c,hc,e⟩
    · exact hpa.keys p h
    · rw [e]; exact kl c (List.mem_of_mem_take hc),by omega⟩
   refine xj (fun vs w' => ∃ t' : T,vs = [t'.v] ∧ Ct w' t' (QsG a (l.take (i + 1))) ∧ t'.Sep o ∧ (∀ b,t'.Bt o b → w1.heap.size ≤ b) ∧ (∀ q : Nat → Prop,q o → t.OwQ q → t'.OwQ q) ∧ Ext No w1 w') ?_ ?_
   · refine (hl.Q4 hE).var i rfl hil (by kernel_rfl) fun bb w3 kv hb QE hb2 Wq => ?_
     have JD:=hE.Q0 QE
     have hw3:=hw.Q4 JD
     have Qje:=QAi.Q4 QE
     have QEG:=Wq.Q4 QE
     have hz3:=(he.Q0 QE).size
     rw [QDd hil]
     refine hb.ld (o:=1) (v:=.int .i64 l[i].kind) rfl ?_
     refine Vu (fun h2 => ?_) fun h2 => ?_
     · refine hb.ld (o:=0) (v:=kv) rfl ?_
       refine (QBP (o:=o) (mt:=none) (n:=0) Qje.tree hsep Qje.can.fine Qje.QR (Qje.long Qj9) hw3.Ra h0 QEG hkl).mono ?_
       rintro _ w4 ⟨t4,n4,rfl,hD,-,-,-⟩
       unfold doC; rw [if_pos h2]
       refine ⟨t4,rfl,Qje.del hD,hD.res.sep,fun b hb => (hD.res.foot b hb).elim (QA0 b) fun h => by omega,fun q h1 h2 => hD.own q h1 (hown q h1 h2),(he.Q0 QE).trans hD.res.ext fun b hb h => ?_⟩
       rcases h with h | h
       · cases h
       · have:=QA0 b h; omega
     · refine hb.ld (o:=0) (v:=kv) rfl ?_
       refine hb.ld (o:=3) (v:=u64 l[i].is) rfl ?_
       refine (QBK (o:=o) (mt:=none) (n:=0) Qje.tree hsep Qje.can.fine Qje.QR hw3.Ra h0 (hl.ok _ (List.getElem_mem hil)).2 QEG hkl).mono ?_
       rintro _ w4 ⟨t4,n4,rfl,hP,-⟩
       unfold doC; rw [if_neg h2]
       refine ⟨t4,rfl,Qje.put Qj9.rises hP,hP.res.sep,fun b hb => (hP.res.foot b hb).elim (QA0 b) fun h => by omega,fun q h1 h2 => hP.own q h1 (hown q h1 h2),(he.Q0 QE).trans hP.res.ext fun b hb h => ?_⟩
       rcases h with h | h
       · cases h
       · have:=QA0 b h; omega
   · rintro vs g w3 ⟨t4,rfl,r1,r2,r3,r4,r5⟩
     refine xi (r:=((i + 1 : Nat) : Int)) (by rw [QQ (by omega)]; omega) ?_
     exact JP (l.length - (i + 1)) (by omega) ⟨i + 1,t4,rfl,rfl,by omega,r1,r2,r3,r4,r5⟩
 · rw [List.take_of_length_le (by omega)] at QAi
   exact ⟨t',0,rfl,h.symm,fun h => absurd rfl h,fun _ => by rw [hS]; exact QAi,hown,hE⟩
end
end Go.Proofs.YtbnhggfiembejaaGreatDoor
end
section
namespace Go.Proofs.YtbnhggfiembejaaGreatDoor
open Go Go.RowKit X
set_option linter.unusedSimpArgs false
set_option linter.unusedVariables false
set_option linter.unusedSectionVars false
variable [Floor]
section
variable {w w0 : World} {v va vb kv : Value} {l m : List Chg} {k : Key} {c : Chg} {B : Nat} {T : TypeId} {cs : List Value}
theorem CC.setAt (h : CC w l cs) {m : Nat} (hm : m < l.length) {c' : Chg} {o : Nat} {x : Value} (ho : o < 4) (hok : c'.ok) (hx : ∀ kv,Bs w kv l[m].key → ∃ kv',(chC kv l[m]).set o x = chC kv' c' ∧ Bs w kv' c'.key) : CC w (l.set m c') (cs.set (m * 4 + o) x):=by
 refine ⟨by simp [h.len],fun i p hp => ?_⟩
 rw [List.getElem?_set] at hp
 rw [List.drop_set]
 split at hp
 · rename_i e
   subst e
   rw [← Option.some.inj hp,if_neg (by omega),show m * 4 + o - m * 4 = o by omega,List.take_set]
   obtain ⟨kv,h1,h2,h3⟩:=h.at_ m l[m] (List.getElem?_eq_getElem hm)
   obtain ⟨kv',h4,h5⟩:=hx kv h2
   exact ⟨kv',by rw [h1,h4],h5,hok⟩
 · rename_i e
   obtain ⟨kv,h1,h2⟩:=h.at_ i p hp
   refine ⟨kv,?_,h2⟩
   split
   · exact h1
   · rw [List.take_set,List.set_eq_of_length_le (by rw [List.length_take]; omega)]
     exact h1
theorem CO.st {K : World → Prop} {kd : IntKind} {i : Int} (hTu : T ≠ Qm) (hf : Floor.n ≤ B) (h : CO w B T v l) {m : Nat} (hi : i = (m : Int)) (hm : m < l.length) {c' : Chg} {o : Nat} {x : Value} (ho : o < 4) (hok : c'.ok) (h1 : x.oneCell' = true) (hx : ∀ kv,Bs w kv l[m].key → ∃ kv',(chC kv l[m]).set o x = chC kv' c' ∧ Bs w kv' c'.key)
  (k : ∀ w1,CO w1 B T v (l.set m c') → w1.heap.size = w.heap.size → Ext (fun b => v.ownBlock = some b) w w1 → K w1) :
  Zb v (.int kd i) 4 fun u => X6 u o fun p => Z6 p fun a => Uw w a x K:=by
 have hnb:=h.nb hf hTu
 obtain ⟨cells,h2,h3⟩:=h
 refine Go.Proofs.YtbnhggfiembejaaGreatDoor.Own.st h2 m o hi hm ho h1 fun w1 h4 hz he => k w1 ⟨_,?_,(h3.setAt hm ho hok hx).ext he hnb⟩ hz he
 rw [List.length_set]; exact h4
theorem CO.ge (h : CO w B T v l) {b : Nat} (hb : v.ownBlock = some b) : B ≤ b ∧ b < w.heap.size:=let ⟨_,h1,_⟩:=h; h1.ge hb
theorem QEL (hk : Bs w kv k) (hkl : k.length ≤ 140737488355328) : Q6 P Q9c [kv] w fun v w' => Bs w' v k ∧ Ext No w w':=by
 refine Qwa ?_
 obtain ⟨ad,cap,rfl⟩:=hk.slice
 cases ad with
 | none =>
   have : k = []:=by
    obtain ⟨ad,cap',h,hl,hc,hx⟩:=hk
    simp only [Value.slice.injEq] at h
    obtain ⟨rfl,-,rfl⟩:=h
    exact List.eq_nil_of_length_eq_zero (by have : cap = 0:=hx; omega)
   subst this
   exact ⟨Bs.nil w,Ext.refl _ _⟩
 | some ad =>
   refine Qz fun b w1 hb hblk hsz he => ?_
   refine Vi Uq (B:=w.heap.size) (n:=0) (xs:=[]) (m:=k.length) ⟨rfl,.inr ⟨b,0,_,rfl,by omega,hblk.h,by omega,by decide,rfl,rfl⟩⟩ (by omega) (hk.Q4 he) hk.one (by omega) (by omega) fun v' w' ho h1 _ _ => ?_
   refine ⟨Bs.of (by simpa using ho.sl),he.Z0 (b:=b) (h1.mono fun c _ h => ?_) (by omega)⟩
   simp only [Value.ownBlock,Option.some.injEq] at h
   exact h.symm
theorem QGR (hl : Cs w v l) (hll : l.length ≤ 100000) (hfl : Floor.n ≤ w.heap.size) : Q6 P Qbm [v] w fun r w' => CO w' w.heap.size Q3 r l ∧ Ext No w w':=by
 refine Qvn ?_
 obtain ⟨ad,cap,rfl⟩:=hl.slice
 cases ad with
 | none =>
   have : l = []:=by
    obtain ⟨T,cells,hT,⟨ad,cap',h,hl,hc,hx⟩,h2⟩:=hl
    simp only [Value.slice.injEq] at h
    obtain ⟨rfl,-,rfl⟩:=h
    exact List.eq_nil_of_length_eq_zero (by have : cap = 0:=hx; omega)
   subst this
   exact ⟨CO.nil w _ _,Ext.refl _ _⟩
 | some ad =>
   refine Qz fun b w1 hb hblk hsz he => ?_
   obtain ⟨T,cells,hT,h1,h2⟩:=hl.Q4 he
   have h0 : CO w1 w.heap.size Q3 (.slice (some ⟨b,0,none⟩) 0 0) []:=⟨[],⟨rfl,.inr ⟨b,0,_,rfl,by omega,hblk.h,Nat.le_refl _,by decide,rfl,rfl⟩⟩,CC.nil _⟩
   refine CO.app (l:=[]) (m:=l) Qkd (by decide) hfl (by omega) h0 h1 h2 (by show 0 + l.length ≤ _; omega) fun v' w' h3 _ _ hex => ?_
   exact ⟨by simpa using h3,hex w he (Nat.le_refl _)⟩
theorem QDu (hl : Cs w v l) (hll : l.length ≤ 100000) (hkl : ∀ c ∈ l,c.key.length ≤ 1000000) (hfl : Floor.n ≤ w.heap.size) : Q6 P Qcp [v] w fun r w' => Cs w' r (l.map Qcw) ∧ Ext No w w':=by
 refine QEq ?_
 refine (QGR hl hll hfl).mono ?_
 rintro v1 w1 ⟨h1,he1⟩
 refine (h1.cs (.inl rfl)).len ?_
 refine JN (fun n vs w' => ∃ (i : Nat) (x1 x2 x3 : Value) (L : List Chg),vs = [.int .i64 i,x1,x2,x3] ∧ n = l.length - i ∧ i ≤ l.length ∧ CO w' w.heap.size Q3 v1 L ∧ L.length = l.length ∧ (∀ j,L[j]? = if j < i then (l[j]?).map Qcw else l[j]?) ∧ Ext No w w') l.length
  ⟨0,_,_,_,l,rfl,rfl,by omega,h1,rfl,fun j => by simp,he1⟩ ?_
 rintro n vs g w2 ⟨i,x1,x2,x3,L,rfl,rfl,hi,hL,hLl,hLj,he⟩
 unfold Qvh
 refine ZF (fun hlt => ?_) fun hge => ?_
 · have hil : i < l.length:=by omega
   have hiL : i < L.length:=by omega
   have eLi : L[i] = l[i]:=by
    have:=hLj i
    rw [if_neg (by omega),List.getElem?_eq_getElem hiL,List.getElem?_eq_getElem hil] at this
    exact Option.some.inj this
   have hok:=hl.ok _ (List.getElem_mem hil)
   have hz:=he.size
   refine xj (fun vs w' => ∃ (x1 x2 x3 : Value),vs = [.int .i64 i,x2,x3] ∧ CO w' w.heap.size Q3 v1 (L.set i (Qcw l[i])) ∧ Ext No w w') ?_ ?_
   · refine (hL.cs (.inl rfl)).var i rfl hiL (by kernel_rfl) fun bb w3 kv hb QE hb2 Wq => ?_
     rw [eLi] at hb Wq
     have JD:=he.Q0 QE
     refine hb.ld (o:=0) (v:=kv) rfl ?_
     refine (QEL (Wq.Q4 QE) (by have:=hkl _ (List.getElem_mem hil); omega)).mono ?_
     rintro kv4 w4 ⟨QHi,Zl⟩
     have U9:=JD.Q0 Zl
     have hb4:=hb.ext Zl fun h => h
     have hL4:=hL.Q4 (QE.Q0 Zl)
     have hne : ∀ {w' : World},CO w' w.heap.size Q3 v1 L → w2.heap.size ≤ bb → ¬ (v1.ownBlock = some bb):=fun _ _ hv => by have:=(hL.ge hv).2; omega
     have hne:=hne hL hb2
     have hup : ∀ {wa wb wc : World},Ext No wa wb → wa = w → Ext (fun b => v1.ownBlock = some b) wb wc → Ext No wa wc:=fun h e h2 => by
      subst e
      exact h.trans h2 fun b hb hv => by have:=(hL.ge hv).1; omega
     refine CO.st (c':=l[i]) (by decide) hfl hL4 rfl hiL (by omega) hok QHi.R9 (fun kv' Q0g => ⟨kv4,by rw [eLi]; rfl,QHi⟩) fun w5 hL5 hz5 ZR => ?_
     have hb5:=hb4.ext ZR hne
     have WX:=hup U9 rfl ZR
     have QIn:=hb5.drew
     refine QIn.ld (o:=3) (v:=u64 l[i].is) rfl ?_
     refine QIn.ld (o:=2) (v:=u64 l[i].was) rfl ?_
     have hL5d : CO w5.drew w.heap.size Q3 v1 (L.set i l[i]):=hL5.Q4 (Ext.refl _ _).drew
     refine CO.st (c':=⟨l[i].key,l[i].kind,l[i].is,l[i].is⟩) (by decide) hfl hL5d rfl (by rw [List.length_set]; exact hiL) (by omega) ⟨hok.2,hok.2⟩ rfl (fun kv' Q0g => ⟨kv',by simp,by simpa using Q0g⟩) fun w6 hL6 hz6 Ke => ?_
     rw [List.set_set] at hL6
     have hb6:=QIn.ext Ke hne
     have MC:=hup WX.drew rfl Ke
     refine ⟨Qkh hb6 rfl,?_⟩
     refine CO.st (c':=⟨l[i].key,l[i].kind,l[i].is,l[i].was⟩) (by decide) hfl hL6 rfl (by rw [List.length_set]; exact hiL) (by omega) ⟨hok.2,hok.1⟩ rfl (fun kv' Q0g => ⟨kv',by simp,by simpa using Q0g⟩) fun w7 hL7 hz7 Yy => ?_
     rw [List.set_set] at hL7
     have hb7:=hb6.ext Yy hne
     have BA:=hup MC rfl Yy
     refine hb7.ld (o:=1) (v:=.int .i64 l[i].kind) rfl ?_
     refine Vu (fun h1 => ?_) fun h1 => ?_
     · refine CO.st (c':=Qcw l[i]) (by decide) hfl hL7 rfl (by rw [List.length_set]; exact hiL) (by omega) ⟨hok.2,hok.1⟩ rfl (fun kv' Q0g => ⟨kv',by simp [Qcw,h1],by simpa [Qcw] using Q0g⟩) fun w8 hL8 hz8 KJ => ?_
       rw [List.set_set] at hL8
       exact ⟨.bool true,_,_,rfl,hL8,hup BA rfl KJ⟩
     · refine Vu (fun h2 => ?_) fun h2 => ?_
       · refine CO.st (c':=Qcw l[i]) (by decide) hfl hL7 rfl (by rw [List.length_set]; exact hiL) (by omega) ⟨hok.2,hok.1⟩ rfl (fun kv' Q0g => ⟨kv',by simp [Qcw,h1,h2],by simpa [Qcw] using Q0g⟩) fun w8 hL8 hz8 KJ => ?_
         rw [List.set_set] at hL8
         exact ⟨.bool true,_,_,rfl,hL8,hup BA rfl KJ⟩
       · refine ⟨.bool true,_,_,rfl,?_,BA⟩
         rw [show Qcw l[i] = ⟨l[i].key,l[i].kind,l[i].is,l[i].was⟩ from by unfold Qcw; rw [if_neg h1,if_neg h2]]
         exact hL7
   · rintro vs g w3 ⟨y1,y2,y3,rfl,hL3,QE⟩
     refine xi (r:=((i + 1 : Nat) : Int)) (by rw [QQ (by omega)]; omega) ?_
     refine JP (l.length - (i + 1)) (by omega) ⟨i + 1,_,_,_,_,rfl,rfl,by omega,hL3,by rw [List.length_set]; exact hLl,fun j => ?_,QE⟩
     rw [List.getElem?_set]
     by_cases e : i = j
     · subst e
       rw [if_pos rfl,if_pos hiL,if_pos (by omega),List.getElem?_eq_getElem hil]; rfl
     · rw [if_neg e,hLj j]
       by_cases e2 : j < i
       · rw [if_pos e2,if_pos (by omega)]
       · rw [if_neg e2,if_neg (by omega)]
 · have e : L = l.map Qcw:=by
    apply List.ext_getElem?
    intro j
    rw [hLj j,List.getElem?_map]
    by_cases e : j < i
    · rw [if_pos e]
    · rw [if_neg e,List.getElem?_eq_none (by omega)]; rfl
   rw [← e]
   exact ⟨hL.cs (.inl rfl),he⟩
theorem QGP (h : CO w B Q3 v l) (h0 : Ext No w0 w) (hw0 : w0.heap.size ≤ B) (hll : l.length ≤ 1000000) (hkl : ∀ c ∈ l,c.key.length ≤ 1000000) (hfl : Floor.n ≤ B) : Q6 P Qpg [v] w fun r w' => Cs w' r l ∧ Ext No w0 w':=by
 refine QDY ?_
 refine (h.cs (.inl rfl)).len ?_
 refine JN (fun n vs w' => ∃ (i : Nat) (x : Value),vs = [.int .i64 i,x] ∧ n = l.length - i ∧ i ≤ l.length ∧ CO w' B Q3 v l ∧ Ext No w0 w') l.length ⟨0,_,rfl,rfl,by omega,h,h0⟩ ?_
 rintro n vs g w1 ⟨i,x,rfl,rfl,hi,h1,he⟩
 unfold Qqg
 refine ZF (fun hlt => ?_) fun hge => ⟨h1.cs (.inl rfl),he⟩
 have hil : i < l.length:=by omega
 refine (h1.cs (.inl rfl)).key i rfl hil fun kv Wq => ?_
 refine (QEL Wq (by have:=hkl _ (List.getElem_mem hil); omega)).mono ?_
 rintro kv2 w2 ⟨Qpj,he2⟩
 refine CO.st (c':=l[i]) (by decide) hfl (h1.Q4 he2) rfl hil (by omega) ((h1.cs (.inl rfl)).ok _ (List.getElem_mem hil)) Qpj.R9 (fun kv' Q0g => ⟨kv2,rfl,Qpj⟩) fun w3 h3 hz3 QE => ?_
 rw [List.set_getElem_self] at h3
 refine xi (r:=((i + 1 : Nat) : Int)) (by rw [QQ (by omega)]; omega) ?_
 exact JP (l.length - (i + 1)) (by omega) ⟨i + 1,_,rfl,rfl,by omega,h3,(he.Q0 he2).trans QE fun b hb hv => by have:=(h1.ge hv).1; omega⟩
end
end Go.Proofs.YtbnhggfiembejaaGreatDoor
end
section
namespace Go.Proofs.YtbnhggfiembejaaGreatDoor
open Go Go.RowKit X
set_option linter.unusedSimpArgs false
set_option linter.unusedVariables false
set_option linter.unusedSectionVars false
def Chg.gd (c : Chg) : Prop:=c.key.length ≤ 65535 ∧ (1 ≤ c.kind ∧ c.kind ≤ 3) ∧ Q9g c = true
def QDm (x y ne : Bool) : Int:=if x && y && ne then 3 else if x && !y then 2 else if y && !x then 1 else 0
def QD9 (a b : Chg) : Chg:=⟨a.key,QDm (a.kind != 1) (b.kind != 2) ((a.was : Int) != b.is),a.was,b.is⟩
theorem QFM {a b : Chg} (ha : a.gd) (hb : b.gd) : match DR a.key a.before b.then' with | some d => QD9 a b = d | none => (QD9 a b).kind = 0:=by
 obtain ⟨-,⟨a1,a2⟩,a3⟩:=ha
 obtain ⟨-,⟨b1,b2⟩,b3⟩:=hb
 unfold QD9 Chg.before Chg.then'
 by_cases h1 : a.kind = 1
 · have hw : a.was = 0:=by unfold Q9g at a3; rw [if_pos h1] at a3; exact of_decide_eq_true a3
   rw [if_pos h1]
   by_cases h2 : b.kind = 2
   · rw [if_pos h2]
     show QDm _ _ _ = 0
     simp [QDm,h1,h2]
   · rw [if_neg h2]
     show Chg.mk _ _ _ _ = _
     simp [QDm,h1,h2,hw]
 · rw [if_neg h1]
   by_cases h2 : b.kind = 2
   · rw [if_pos h2]
     have hw : b.is = 0:=by unfold Q9g at b3; rw [if_neg (by omega),if_pos h2] at b3; exact of_decide_eq_true b3
     show Chg.mk _ _ _ _ = _
     simp [QDm,h1,h2,hw]
   · rw [if_neg h2]
     by_cases e : a.was = b.is
     · rw [e,Qsa]
       show QDm _ _ _ = 0
       simp [QDm,h1,h2]
     · rw [QlY e]
       show Chg.mk _ _ _ _ = _
       have e2 : ((a.was : Int) != b.is) = true:=by simp; omega
       rw [e2]
       simp [QDm,h1,h2]
theorem QDA {l m : List Chg} {r : Nat × List Chg} : QAm l (QAm m r) = QAm (l ++ m) r:=by
 unfold QAm
 by_cases h : r.1 = 0 <;> simp [h]
theorem QFJ {n : Nat} {a b : List Chg} (h : a = [] ∨ b = []) : Q98 n a b = (0,a ++ b):=by
 cases n with
 | zero => rfl
 | succ n =>
   rcases h with rfl | rfl
   · cases b <;> rfl
   · cases a with
     | nil => rfl
     | cons x a => rw [List.append_nil]; rfl
theorem QDz {l : List Chg} {r : Nat × List Chg} : (QAm l r).1 ≠ 0 → (QAm l r).2 = []:=fun h => if_neg h
theorem QFK : ∀ {n : Nat} {a b : List Chg},(Q98 n a b).1 ≠ 0 → (Q98 n a b).2 = []:=by
 intro n a b h
 cases n with
 | zero => exact absurd rfl h
 | succ n =>
   cases a with
   | nil => exact absurd rfl h
   | cons x a =>
     cases b with
     | nil => exact absurd rfl h
     | cons y b =>
       rw [Q98]
       rw [Q98] at h
       by_cases h1 : Xr x.key y.key
       · rw [if_pos h1] at h ⊢; exact QDz h
       · rw [if_neg h1] at h ⊢
         by_cases h2 : Xr y.key x.key
         · rw [if_pos h2] at h ⊢; exact QDz h
         · rw [if_neg h2] at h ⊢
           by_cases h3 : Q6H y x.then' = 0
           · rw [if_pos h3] at h ⊢; exact QDz h
           · rw [if_neg h3]
theorem QGi {r : Nat × List Chg} (h : r.1 ≠ 0 → r.2 = []) : QAm [] r = r:=by
 unfold QAm
 split
 · rfl
 · rename_i h0; rw [← h h0]
variable [Floor]
section
variable {w w0 : World} {v va vb kv kva kvb : Value} {l m : List Chg} {k : Key} {a b c : Chg} {B : Nat} {T : TypeId} {cs : List Value}
theorem QGO (hA : Bs w kva a.key) (hao : a.ok) (hbo : b.ok) (hfl : Floor.n ≤ w.heap.size) :
  Q6 P Qmp [chV kva a,chV kvb b] w fun r w' => Ext No w w' ∧ ((Q6H b a.then' = 0 ∧ r = .tuple #[chV kva (QD9 a b),.int .i64 0]) ∨ (Q6H b a.then' ≠ 0 ∧ r = .tuple #[chZ,.int .i64 (Q6H b a.then' : Nat)])):=by
 obtain ⟨ad,cp,rfl⟩:=hA.slice
 refine QET ?_
 refine Qz fun p w1 hp hP hz1 he1 => Qz fun q w2 hq hQ hz2 he2 => Qz fun rr w3 hr hR hz3 QE => ?_
 have hP : QZ w1 p (chC (.slice ad a.key.length cp) a) Q3:=hP
 have hQ : QZ w2 q (chC kvb b) Q3:=hQ
 have hR : QZ w3 rr [.slice none 0 0,.int .i64 0,.int .u64 0,.int .u64 0] Q3:=hR
 have hP:=(hP.ext he2 fun h => h).ext QE fun h => h
 have hQ:=hQ.ext QE fun h => h
 have JD:=(he1.Q0 he2).Q0 QE
 refine hQ.JH rfl ?_
 refine hP.ld (o:=3) (v:=u64 a.is) rfl ?_
 refine hP.ld (o:=1) (v:=.int .i64 a.kind) rfl ?_
 have hfit:=QGM (w:=w3) (kv:=kvb) (c:=b) (x:=a.then') (u:=a.is) fun y => QE7
 rw [QD7] at hfit
 refine hfit.mono ?_
 rintro _ w4 ⟨rfl,Zl⟩
 have U9:=JD.Q0 Zl
 have hP:=hP.ext Zl fun h => h
 have hQ:=hQ.ext Zl fun h => h
 have hR:=hR.ext Zl fun h => h
 refine Q5L (fun h => ?_) fun h => ?_
 · show Yn P (storeVar Q3 ⟨rr,0,none⟩ (.agg #[.slice none 0 0,.int .i64 0,.int .u64 0,.int .u64 0])) w4 _
   refine Q9i hR (by kernel_rfl) rfl rfl rfl rfl fun w5 hR5 hz5 ZR => ?_
   refine hR5.JH rfl ?_
   exact ⟨U9.Z0 ZR (by omega),.inr ⟨by omega,rfl⟩⟩
 have h0 : Q6H b a.then' = 0:=by omega
 refine hP.ld (o:=0) (v:=.slice ad a.key.length cp) rfl ?_
 refine hP.ld (o:=2) (v:=u64 a.was) rfl ?_
 refine hQ.ld (o:=3) (v:=u64 b.is) rfl ?_
 show Qs w4 [.slice none 0 0,.int .i64 0,.int .u64 0,.int .u64 0] Q3 fun IG Kr => Yn P (storeVar Q3 IG (.agg #[.slice ad a.key.length cp,.int .i64 0,u64 a.was,u64 b.is])) Kr _
 refine Qz fun cc w5 hcc hC hz5 ZR => ?_
 have hC : QZ w5 cc [.slice none 0 0,.int .i64 0,.int .u64 0,.int .u64 0] Q3:=hC
 refine Q9i hC (by kernel_rfl) rfl rfl rfl rfl fun w6 hC hz6 Ke => ?_
 have Ro:=U9.size
 have hz34:=Zl.size
 have MC : Ext No w w6:=(U9.Q0 ZR).Z0 Ke (by omega)
 have ne : ∀ z,z < cc → ¬ z = cc:=fun z h e => by omega
 have hP:=((hP.ext ZR fun h => h).ext Ke (ne p (by omega))).drew
 have hQ:=((hQ.ext ZR fun h => h).ext Ke (ne q (by omega))).drew
 have hR:=((hR.ext ZR fun h => h).ext Ke (ne rr (by omega))).drew
 have hC:=hC.drew
 have MC:=MC.drew
 refine hP.ld (o:=1) (v:=.int .i64 a.kind) rfl ?_
 refine hQ.ld (o:=1) (v:=.int .i64 b.kind) rfl ?_
 refine ⟨Qkh hQ rfl,?_⟩
 have hz6d : w6.drew.heap.size = w6.heap.size:=rfl
 refine xj (fun vs w' => ∃ x1 x2 x3 : Value,vs = [x1,x2,x3] ∧ QZ w' cc (chC (.slice ad a.key.length cp) (QD9 a b)) Q3 ∧ QZ w' rr [.slice none 0 0,.int .i64 0,.int .u64 0,.int .u64 0] Q3 ∧ Ext No w w') ?_ ?_
 · unfold QD9
   generalize (a.kind != 1) = x
   generalize (b.kind != 2) = y
   refine xj (fun vs w' => vs = [.bool (x && y && ((a.was : Int) != b.is))] ∧ w' = w6.drew) ?_ ?_
   · cases x with
     | false => exact Qp rfl ⟨rfl,rfl⟩
     | true =>
       refine Qr rfl ?_
       cases y with
       | false => exact Qp rfl ⟨rfl,rfl⟩
       | true =>
         refine Qr rfl ?_
         refine hC.ld (o:=2) (v:=u64 a.was) rfl ?_
         exact hC.ld (o:=3) (v:=u64 b.is) rfl ⟨rfl,rfl⟩
   rintro vs g w7 ⟨rfl,rfl⟩
   generalize ((a.was : Int) != b.is) = z
   cases h3 : (x && y && z) with
   | true =>
     refine Qr rfl ?_
     refine hC.st (o:=1) (by simp) rfl fun w8 hb8 hz8 KJ => ?_
     exact ⟨_,_,_,rfl,by simpa [QDm,h3] using hb8,hR.ext KJ (ne rr (by omega)),MC.Z0 KJ (by omega)⟩
   | false =>
     refine Qp rfl ?_
     refine xj (fun vs w' => vs = [.bool (x && !y)] ∧ w' = w6.drew) ?_ ?_
     · cases x with
       | false => exact Qp rfl ⟨rfl,rfl⟩
       | true => exact Qr rfl ⟨rfl,rfl⟩
     rintro vs g w7 ⟨rfl,rfl⟩
     cases h2 : (x && !y) with
     | true =>
       refine Qr rfl ?_
       refine hC.st (o:=1) (by simp) rfl fun w8 hb8 hz8 KJ => ?_
       exact ⟨_,_,_,rfl,by simpa [QDm,h3,h2] using hb8,hR.ext KJ (ne rr (by omega)),MC.Z0 KJ (by omega)⟩
     | false =>
       refine Qp rfl ?_
       refine xj (fun vs w' => vs = [.bool (y && !x)] ∧ w' = w6.drew) ?_ ?_
       · cases y with
         | false => exact Qp rfl ⟨rfl,rfl⟩
         | true => exact Qr rfl ⟨rfl,rfl⟩
       rintro vs g w7 ⟨rfl,rfl⟩
       cases h1 : (y && !x) with
       | true =>
         refine Qr rfl ?_
         refine hC.st (o:=1) (by simp) rfl fun w8 hb8 hz8 KJ => ?_
         exact ⟨_,_,_,rfl,by simpa [QDm,h3,h2,h1] using hb8,hR.ext KJ (ne rr (by omega)),MC.Z0 KJ (by omega)⟩
       | false =>
         refine Qp rfl ?_
         exact ⟨_,_,_,rfl,by simpa [QDm,h3,h2,h1] using hC,hR,MC⟩
 rintro vs g w7 ⟨x1,x2,x3,rfl,hC,hR,BA⟩
 refine hC.JH rfl ?_
 refine Q9i hR (by kernel_rfl) rfl rfl rfl rfl fun w8 Re hz8 KJ => ?_
 refine Re.JH rfl ?_
 exact ⟨BA.Z0 KJ (by omega),.inl ⟨h0,rfl⟩⟩
theorem Cs.rdK {K : Value → Value → Prop} {kd : IntKind} {i : Int} (h : Cs w v l) (m : Nat) (hi : i = (m : Int)) (hm : m < l.length) (k : ∀ p kv,Bs w kv l[m].key → (∀ w',Ext No w w' → Za w' p (chV kv l[m])) → K p (chV kv l[m])) : Zb v (.int kd i) 4 fun u => Z6 u fun a => Qo w a 4 fun x => K u x:=by
 obtain ⟨T,cells,hT,h1,h2⟩:=h
 obtain ⟨kv,h3,h4,-⟩:=h2.at_ m l[m] (List.getElem?_eq_getElem hm)
 refine h1.QJ0 m hi hm fun p hp => ?_
 rw [h3] at hp ⊢
 exact k p kv h4 fun w' e => hp w' (h1.Q4 e)
structure ThI (w2 w' : World) (l m : List Chg) (va vb vo : Value) (a b acc : List Chg) (N : Nat) : Prop where
 le : a.length + b.length ≤ N
 ca : Cs w2 va a
 cb : Cs w2 vb b
 co : CO w' w2.heap.size Q3 vo acc
 len : acc.length + a.length + b.length ≤ l.length + m.length
 eq : Q98 (l.length + m.length) l m = QAm acc (Q98 N a b)
 ga : ∀ c ∈ a,c.gd
 gb : ∀ c ∈ b,c.gd
 gc : ∀ c ∈ acc,c.key.length ≤ 65535
 ext : Ext No w2 w'
theorem QDt (ha : Cs w va l) (hb : Cs w vb m) (hll : l.length + m.length ≤ 100000) (hfl : Floor.n ≤ w.heap.size) :
  Q6 P Q7t [va,vb] w fun r w' => ∃ o e L,r = .tuple #[o,.int .i64 (e : Nat)] ∧ Cs w' o L ∧ Ext No w w' ∧ (e,L) = (if D8 l = 0 then if D8 m = 0 then Q98 (l.length + m.length) l m else (D8 m,[]) else (D8 l,[])):=by
 refine QEo ?_
 refine (Qke ha (by omega)).mono ?_
 rintro _ w1 ⟨rfl,he1⟩
 refine Q5L (fun h => ?_) fun h => ?_
 · exact ⟨_,_,_,rfl,Cs.nil _,he1,by rw [if_neg (by omega)]⟩
 have hA : D8 l = 0:=by omega
 refine (Qke (hb.Q4 he1) (by omega)).mono ?_
 rintro _ w2 ⟨rfl,he2⟩
 have hE2:=he1.Q0 he2
 have hz2:=hE2.size
 refine Q5L (fun h => ?_) fun h => ?_
 · exact ⟨_,_,_,rfl,Cs.nil _,hE2,by rw [if_pos hA,if_neg (by omega)]⟩
 have hB : D8 m = 0:=by omega
 rw [if_pos hA,if_pos hB]
 obtain ⟨ka,k3a,fa,hra⟩:=Q5U.1 hA
 obtain ⟨kb,k3b,fb,hrb⟩:=Q5U.1 hB
 refine JN (fun n vs w' => ∃ (vA x2 vB vo x4 x5 x6 x7 : Value) (A B acc : List Chg) (N : Nat),vs = [vA,vB,x2,vo,x4,x5,x6,x7] ∧ n = A.length + B.length ∧ ThI w2 w' l m vA vB vo A B acc N) (l.length + m.length)
  ⟨_,_,_,_,_,_,_,_,l,m,[],l.length + m.length,rfl,rfl,⟨Nat.le_refl _,ha.Q4 hE2,hb.Q4 hE2,CO.nil _ _ _,by simp,(QGi QFK).symm,fun c hc => ⟨ka c hc,k3a c hc,fa c hc⟩,fun c hc => ⟨kb c hc,k3b c hc,fb c hc⟩,by simp,Ext.refl _ _⟩⟩ ?_
 rintro n vs g w3 ⟨vA,x2,vB,vo,x4,x5,x6,x7,A,B,acc,N,rfl,rfl,hI⟩
 unfold QuO
 have hz3:=hI.ext.size
 have hlen:=hI.len
 refine xj (fun vs w' => vs = [.bool (decide (A ≠ [] ∧ B ≠ []))] ∧ w' = w3) ?_ ?_
 · refine (hI.ca.Q4 hI.ext).len ?_
   refine ZF (fun h => ?_) fun h => ?_
   · refine (hI.cb.Q4 hI.ext).len ⟨?_,rfl⟩
     have hAn : A ≠ []:=fun e => by rw [e] at h; simp at h
     show [Value.bool (decide ((B.length : Int) > 0))] = _
     cases B with
     | nil => simp
     | cons y B => rw [decide_eq_true (by simp),decide_eq_true ⟨hAn,by simp⟩]
   · have hAn : A = []:=List.eq_nil_of_length_eq_zero (by omega)
     exact ⟨by rw [hAn]; simp,rfl⟩
 rintro vs g w4 ⟨rfl,rfl⟩
 refine ZF (fun hne => ?_) fun hne => ?_
 · cases A with
   | nil => exact absurd rfl hne.1
   | cons x A =>
   cases B with
   | nil => exact absurd rfl hne.2
   | cons y B =>
   obtain ⟨le,ca,cb,co,len,eq,ga,gb,gc,ext⟩:=hI
   simp only [List.length_cons] at le len hlen
   obtain ⟨N,rfl⟩ : ∃ N',N = N' + 1:=⟨N - 1,by omega⟩
   have gx:=ga x (by simp)
   have gy:=gb y (by simp)
   have okx:=ca.ok x (by simp)
   have oky:=cb.ok y (by simp)
   have ga' : ∀ c ∈ A,c.gd:=fun c hc => ga c (List.mem_cons_of_mem _ hc)
   have gb' : ∀ c ∈ B,c.gd:=fun c hc => gb c (List.mem_cons_of_mem _ hc)
   rw [Q98] at eq
   have hd:=ext.drew
   refine (ca.Q4 hd).key 0 rfl (by simp) fun k1 hk1 => (cb.Q4 hd).key 0 rfl (by simp) fun k2 hk2 => ?_
   refine (Qie hk1 hk2).mono ?_
   rintro _ w5 ⟨rfl,rfl⟩
   have hdd:=hd.drew
   have cod:=co.Q4 (((Ext.refl No w4).drew).drew)
   refine Vu (fun hc => ?_) fun hc1 => ?_
   · have hk : Xr x.key y.key:=by show Uv x.key y.key < 0; rw [show Uv x.key y.key = -1 from hc]; omega
     rw [if_pos hk] at eq
     refine (ca.Q4 hdd).rd 0 rfl (by simp) fun kv Wq => ?_
     refine ca.drop 1 rfl (by simp) fun vA' hA' => ?_
     refine CO.snoc (w0:=w2) (c:=x) Qkd (by decide) (by omega) cod hdd (Nat.le_refl _) (by exact hz3) Wq okx (by omega) fun vo' w6 h6 Ke hz6 => ?_
     exact JP (A.length + (y :: B).length) (by simp) ⟨_,_,_,_,_,_,_,_,A,y :: B,acc ++ [x],N,rfl,rfl,⟨by simp; omega,hA',cb,h6,by simp; omega,by rw [eq,QDA],ga',gb,fun c hc => by
      rcases List.mem_append.1 hc with hc | hc
      · exact gc c hc
      · rw [List.mem_singleton.1 hc]; exact gx.1,Ke⟩⟩
   have hk : ¬ Xr x.key y.key:=fun h => hc1 (by
    have h : Uv x.key y.key < 0:=h
    show Uv x.key y.key = -1
    rcases Qmk x.key y.key with e | e | e <;> omega)
   rw [if_neg hk] at eq
   refine Vu (fun hc => ?_) fun hc2 => ?_
   · have hk : Xr y.key x.key:=by show Uv y.key x.key < 0; rw [Qdu x.key y.key,show Uv x.key y.key = 1 from hc]; omega
     rw [if_pos hk] at eq
     refine (cb.Q4 hdd).rd 0 rfl (by simp) fun kv Wq => ?_
     refine cb.drop 1 rfl (by simp) fun vB' hB' => ?_
     refine CO.snoc (w0:=w2) (c:=y) Qkd (by decide) (by omega) cod hdd (Nat.le_refl _) (by exact hz3) Wq oky (by omega) fun vo' w6 h6 Ke hz6 => ?_
     exact JP ((x :: A).length + B.length) (by simp) ⟨_,_,_,_,_,_,_,_,x :: A,B,acc ++ [y],N,rfl,rfl,⟨by simp; omega,ca,hB',h6,by simp; omega,by rw [eq,QDA],ga,gb',fun c hc => by
      rcases List.mem_append.1 hc with hc | hc
      · exact gc c hc
      · rw [List.mem_singleton.1 hc]; exact gy.1,Ke⟩⟩
   have hk2 : ¬ Xr y.key x.key:=fun h => hc2 (by
    have h : Uv y.key x.key < 0:=h
    rw [Qdu x.key y.key] at h
    show Uv x.key y.key = 1
    rcases Qmk x.key y.key with e | e | e <;> omega)
   rw [if_neg hk2] at eq
   have htn:=QFM gx gy
   have okc : (QD9 x y).ok:=⟨okx.1,oky.2⟩
   refine (ca.Q4 hdd).rdK 0 rfl (by simp) fun p kv Wq hkp => ?_
   refine (cb.Q4 hdd).rdK 0 rfl (by simp) fun q kv2 Qpj hkq => ?_
   have fin : ∀ (w7 : World) (x2 x4 x5 x6 x7 vo' : Value),Q6H y x.then' = 0 → CO w7 w2.heap.size Q3 vo' (acc ++ (DR x.key x.before y.then').toList) → Ext No w2 w7 → Yg 4 vA (some (.int .i64 1)) none none fun v1 => Yg 4 vB (some (.int .i64 1)) none none fun v2 => JC (fun n vs w' => ∃ (vA x2 vB vo x4 x5 x6 x7 : Value) (A B acc : List Chg) (N : Nat),vs = [vA,vB,x2,vo,x4,x5,x6,x7] ∧ n = A.length + B.length ∧ ThI w2 w' l m vA vB vo A B acc N) ((x :: A).length + (y :: B).length) [v1,v2,x2,vo',x4,x5,x6,x7] w7.drew:=fun w7 x2 x4 x5 x6 x7 vo' hf h7 Yy => by
    refine ca.drop 1 rfl (by simp) fun vA' hA' => ?_
    refine cb.drop 1 rfl (by simp) fun vB' hB' => ?_
    rw [if_pos hf] at eq
    exact JP (A.length + B.length) (by simp; omega) ⟨_,_,_,_,_,_,_,_,A,B,_,N,rfl,rfl,⟨by omega,hA',hB',h7.Q4 (Ext.refl _ _).drew,by
     cases DR x.key x.before y.then' <;> simp <;> omega,by rw [eq,QDA],ga',gb',fun c hc => by
     rcases List.mem_append.1 hc with hc | hc
     · exact gc c hc
     · have : DR x.key x.before y.then' = some c:=by simpa using hc
       rw [Qco this]; exact gx.1,Yy.drew⟩⟩
   have app : ∀ (w7 : World) (rr : Nat) (kv : Value),Q6H y x.then' = 0 → QZ w7 rr (chC kv (QD9 x y)) Q3 → Bs w7 kv x.key → CO w7 w2.heap.size Q3 vo acc → Ext No w2 w7 → (∀ (J : List Value → World → Prop),(∀ vo' w',CO w' w2.heap.size Q3 vo' (acc ++ (DR x.key x.before y.then').toList) → Ext No w2 w' → J [vo'] w') →
     QC w7 ⟨rr,1,none⟩ fun Xg => Ad Xg (.int .i64 0) fun UD => Ql UD (Qo w7 ⟨rr,0,none⟩ 4 fun Ue => QN (Kc [(.slice none 0 0),(.int .i64 0),(.int .u64 0),(.int .u64 0)] 1) [(0,4,Ue)] fun QGT => Qs w7 QGT Q3 fun QeB Q0y => Jv P (Builtin.append_ #[60,60] 60 #[vo,(.slice (some QeB) 1 1)]) Q0y fun Ud Q0x => J [Ud] Q0x) (J [vo] w7)):=fun w7 rr kv hf hR Wq h7 Yy J hJ => by
    have hz7:=Yy.size
    refine hR.ld (o:=1) (v:=.int .i64 (QD9 x y).kind) rfl ?_
    cases ht : DR x.key x.before y.then' with
    | none =>
      rw [ht] at htn hJ
      refine Q5L (fun h => absurd htn h) fun _ => hJ _ _ (by simpa using h7) Yy
    | some d =>
      rw [ht] at htn hJ
      have hd1:=(QfF ht).1
      have htn : QD9 x y = d:=htn
      refine Q5L (fun _ => ?_) fun h => by rw [htn] at h; omega
      refine hR.JH rfl ?_
      refine CO.snoc (w0:=w2) (c:=QD9 x y) Qkd (by decide) (by omega) h7 Yy (Nat.le_refl _) hz7 Wq okc (by omega) fun vo' w8 h8 KJ _ => ?_
      refine hJ _ _ ?_ KJ
      rw [← htn]; exact h8
   have bad : Q6H y x.then' ≠ 0 → (Q6H y x.then',[]) = Q98 (l.length + m.length) l m:=fun hf => by
    rw [if_neg hf] at eq
    rw [eq]
    unfold QAm
    rw [if_neg hf]
   refine ⟨?_,?_⟩
   · refine (QGO (b:=y) Wq okx oky (by have : w4.drew.drew.heap.size = w4.heap.size:=rfl; omega)).mono ?_
     rintro _ w6 ⟨Ke,hr⟩
     have MC:=hdd.Q0 Ke
     have hz6:=MC.size
     rcases hr with ⟨hf,rfl⟩ | ⟨hf,rfl⟩
     · have hoc : OC w6 (chV kv (QD9 x y)) (QD9 x y):=⟨kv,rfl,Wq.Q4 Ke,okc⟩
       refine hoc.var (T:=Q3) (by kernel_rfl) fun rr w7 kv7 hR Yy hrr hkv7 _ => ?_
       refine Q5L (fun h => absurd rfl h) fun _ => ?_
       refine xj (fun vs w' => ∃ vo',vs = [vo'] ∧ CO w' w2.heap.size Q3 vo' (acc ++ (DR x.key x.before y.then').toList) ∧ Ext No w2 w') ?_ ?_
       · exact app w7 rr kv7 hf hR (hkv7.Q4 Yy) (cod.Q4 (Ke.Q0 Yy)) (MC.Q0 Yy) (fun vs w' => ∃ vo',vs = [vo'] ∧ CO w' w2.heap.size Q3 vo' (acc ++ (DR x.key x.before y.then').toList) ∧ Ext No w2 w') fun vo' w' h1 h2 => ⟨_,rfl,h1,h2⟩
       rintro vs g w8 ⟨vo',rfl,h8,KJ⟩
       exact fin w8 _ _ _ _ _ _ hf h8 KJ
     · refine Qz fun rr w7 hrr hR hz7 Yy => ?_
       have hR : QZ w7 rr [.slice none 0 0,.int .i64 0,.int .u64 0,.int .u64 0] Q3:=hR
       refine Q9i hR (by kernel_rfl) rfl rfl rfl rfl fun w8 Re hz8 KJ => ?_
       refine Q5L (fun _ => ?_) fun h => absurd h (by omega)
       exact ⟨_,_,_,rfl,Cs.nil _,(hE2.Q0 ((MC.Q0 Yy).Z0 KJ (by omega))),bad hf⟩
   · refine Qz fun rr w6 hrr hR hz6 Ke => ?_
     have hR : QZ w6 rr [.slice none 0 0,.int .i64 0,.int .u64 0,.int .u64 0] Q3:=hR
     refine ⟨hkq _ Ke,hkp _ Ke,?_⟩
     have MC:=hdd.Q0 Ke
     have hzz6:=MC.size
     refine (QGO (b:=y) (Wq.Q4 Ke) okx oky (by omega)).mono ?_
     rintro _ w7 ⟨Yy,hr⟩
     have BA:=MC.Q0 Yy
     have hR7:=hR.ext Yy fun h => h
     have hz7:=Yy.size
     rcases hr with ⟨hf,rfl⟩ | ⟨hf,rfl⟩
     · refine Q9i hR7 (by kernel_rfl) Wq.R9 rfl rfl rfl fun w8 Re hz8 KJ => ?_
       have E9:=BA.Z0 KJ (by have : w4.drew.drew.heap.size = w4.heap.size:=rfl; omega)
       have h68 : Ext No w4.drew.drew w8:=(Ke.Q0 Yy).Z0 KJ (by omega)
       refine Q5L (fun h => absurd rfl h) fun _ => ?_
       refine xj (fun vs w' => ∃ vo',vs = [vo'] ∧ CO w' w2.heap.size Q3 vo' (acc ++ (DR x.key x.before y.then').toList) ∧ Ext No w2 w') ?_ ?_
       · exact app w8 rr kv hf Re (Wq.Q4 h68) (cod.Q4 h68) E9 (fun vs w' => ∃ vo',vs = [vo'] ∧ CO w' w2.heap.size Q3 vo' (acc ++ (DR x.key x.before y.then').toList) ∧ Ext No w2 w') fun vo' w' h1 h2 => ⟨_,rfl,h1,h2⟩
       rintro vs g w9 ⟨vo',rfl,h9,Ym⟩
       exact fin w9 _ _ _ _ _ _ hf h9 Ym
     · refine Q9i hR7 (by kernel_rfl) rfl rfl rfl rfl fun w8 Re hz8 KJ => ?_
       refine Q5L (fun _ => ?_) fun h => absurd h (by omega)
       exact ⟨_,_,_,rfl,Cs.nil _,(hE2.Q0 (BA.Z0 KJ (by have : w4.drew.drew.heap.size = w4.heap.size:=rfl; omega))),bad hf⟩
 · have hE : A = [] ∨ B = []:=by
    cases A with
    | nil => exact .inl rfl
    | cons x A =>
      cases B with
      | nil => exact .inr rfl
      | cons y B => exact absurd ⟨by simp,by simp⟩ hne
   have eq:=hI.eq
   rw [QFJ hE] at eq
   have eq : Q98 (l.length + m.length) l m = (0,acc ++ A ++ B):=by rw [eq]; unfold QAm; simp
   obtain ⟨T1,cells1,hT1,s1,s2⟩:=hI.ca.Q4 hI.ext
   refine CO.app (m:=A) Qkd (by decide) (by omega) hz3 hI.co s1 s2 (by omega) fun v5 w5 h5 _ _ hex5 => ?_
   have ZR:=hex5 w2 hI.ext (Nat.le_refl _)
   have hz5:=ZR.size
   obtain ⟨T2,cells2,hT2,s3,s4⟩:=hI.cb.Q4 ZR
   refine CO.app (m:=B) Qkd (by decide) (by omega) hz5 h5 s3 s4 (by simp; omega) fun v6 w6 h6 _ _ hex6 => ?_
   have Ke:=hex6 w2 ZR (Nat.le_refl _)
   refine (QGP h6 Ke (Nat.le_refl _) (by simp; omega) (fun c hc => ?_) (by omega)).mono ?_
   · rcases List.mem_append.1 hc with hc | hc
     · rcases List.mem_append.1 hc with hc | hc
       · have:=hI.gc c hc; omega
       · have:=(hI.ga c hc).1; omega
     · have:=(hI.gb c hc).1; omega
   rintro v7 w7 ⟨h7,Yy⟩
   exact ⟨_,0,_,rfl,h7,hE2.Q0 Yy,eq.symm⟩
end
end Go.Proofs.YtbnhggfiembejaaGreatDoor
end
section
namespace Go.Proofs.YtbnhggfiembejaaGreatDoor
open Go Go.RowKit X
set_option linter.unusedSimpArgs false
set_option linter.unusedVariables false
set_option linter.unusedSectionVars false
theorem QGd {a : Option Addr} {K : List Value → Prop} (k : K [.pointer a,.int .i64 0]) : QN [.pointer none,.int .i64 0] [(0,1,.pointer a)] K:=k
theorem QI2 {w : World} {b o n : Nat} {cs vs : List Value} {T : TypeId} (h : QZ w b cs T) (hv : ∀ i,i < vs.length → cs[o + i]? = vs[i]?) : Za w (.pointer (some ((⟨b,0,none⟩ : Addr).add o))) (.agg vs.toArray):=by
 show ∀ i,i < vs.toArray.size → w.cell? (((⟨b,0,none⟩ : Addr).add o).add i) = vs.toArray[i]?
 intro i hi
 rw [Addr.add_lit,Addr.add_lit,h.cell,Nat.zero_add,hv i (by simpa using hi)]
 simp
theorem QFo {t : T} (h : t.ptr = none) : t = .nil:=by
 cases t with
 | nil => rfl
 | node => cases h
theorem QIa (t : T) : t.v.oneCell' = true:=by cases t <;> rfl
variable [Floor]
section
variable {w w0 : World} {v va vb kv : Value} {a b t : T} {oa ob o n m i : Nat} {k way : Key} {s x y : QmC}
theorem QDs (ht : Tree w a) (ho : o ≤ a.part.length) : Q6 P Q6x [plV a o] w fun r w' => Bs w' r (a.part.drop o) ∧ Ext No w w':=by
 refine QA6 ?_
 refine Qz fun eb w1 heb hE hz he => ?_
 have hE : QZ w1 eb [a.v,.int .i64 o] KI:=hE
 have hd:=Ext.drew (Ext.refl No w1)
 refine hE.drew.ld (v:=a.v) rfl ?_
 refine hE.drew.ld (v:=.int .i64 o) rfl ?_
 refine (XA ((ht.Q4 he).Q4 hd)).mono ?_
 rintro pv w2 ⟨hpv,he2⟩
 have hE2:=hE.drew.ext he2 fun h => h
 refine ⟨Qkh hE2 rfl,?_⟩
 exact hpv.drop o rfl ho fun v' hv' => ⟨hv',(he.Q0 hd).Q0 he2⟩
theorem QHy (h : o + m + 1 ≤ 1000000) : Q6 P Q1i [plV a o,.int .i64 m] w fun r w' => r = plV a (o + m + 1) ∧ Ext No w w':=by
 refine Qzw ?_
 refine Qz fun p w1 hp hP hz1 he1 => Qz fun q w2 hq hQ hz2 he2 => ?_
 have hP : QZ w1 p [a.v,.int .i64 o] KI:=hP
 have hQ : QZ w2 q [.pointer none,.int .i64 0] KI:=hQ
 have hP:=hP.ext he2 fun h => h
 refine hP.ld (o:=0) (v:=a.v) rfl ?_
 refine hP.ld (o:=1) (v:=.int .i64 o) rfl ?_
 refine xi (r:=((o + m : Nat) : Int)) (by rw [QQ (by omega)]; omega) ?_
 refine xi (r:=((o + m + 1 : Nat) : Int)) (by rw [QQ (by omega)]; omega) ?_
 refine KD hQ (by kernel_rfl) (QIa a) rfl fun w3 hQ3 hz3 QE => ?_
 exact hQ3.JH rfl ⟨rfl,(he1.Q0 he2).Z0 QE (by omega)⟩
theorem QFz (ht : ∀ t,s = .all t → Tree w t) (hl : ∀ c t o,s = .one c t o → t ≠ .nil) (hi : i ≤ 256) : Q6 P Qbn [s.v,.int .i64 i] w fun r w' => (∃ z t o b,r = .tuple #[.int .i64 (z : Nat),plV t o,.bool b] ∧ QKh s i z t o b) ∧ Ext No w w':=by
 refine QAH ?_
 cases s with
 | one c t o =>
   refine Qz fun p w1 hp hP hz1 he1 => Qz fun q w2 hq hQ hz2 he2 => ?_
   have hP : QZ w1 p [.pointer none,.bool true,bv c,t.v,.int .i64 o] KR:=hP
   have hQ : QZ w2 q [.pointer none,.int .i64 0] KI:=hQ
   have hP:=hP.ext he2 fun h => h
   refine hP.ld (o:=1) (v:=.bool true) rfl ?_
   refine Qr rfl ?_
   have hPd:=hP.drew
   refine hPd.ld (o:=2) (v:=bv c) rfl ?_
   have hc:=MV c
   refine xi (r:=(c.toNat : Int)) (QQ (by omega)) ?_
   refine hPd.ldN (o:=3) (n:=2) (by simp) ?_
   refine hPd.ld (o:=2) (v:=bv c) rfl ?_
   refine xi (r:=(c.toNat : Int)) (QQ (by omega)) ?_
   refine ⟨Qkh hPd rfl,?_⟩
   refine ⟨QI2 (n:=0) (vs:=[t.v,.int .i64 o]) hPd fun i hi => by
    have : i = 0 ∨ i = 1:=by simp at hi; omega
    rcases this with rfl | rfl <;> rfl,?_⟩
   refine KD (a:=t.v) (b:=.int .i64 o) hQ.drew (by kernel_rfl) rfl rfl fun w3 hQ3 hz3 QE => ?_
   have hP3:=hPd.ext QE fun e => by have e : p = q:=e; omega
   refine ⟨Qkh hP3 rfl,?_⟩
   refine hQ3.JH rfl ?_
   refine ⟨⟨c.toNat,t,o,decide (i ≤ c.toNat),?_,?_⟩,((he1.Q0 he2).drew).Z0 QE (by omega)⟩
   · congr 4
     by_cases h : i ≤ c.toNat
     · rw [decide_eq_true h,decide_eq_true (by omega)]
     · rw [decide_eq_false h,decide_eq_false (by omega)]
   · refine ⟨by omega,fun h => ⟨c,rfl,of_decide_eq_true h,?_,?_,?_,fun d _ hd => ?_⟩,fun h d hd => ?_⟩
     · show (if c = c then t else .nil) ≠ .nil
       rw [if_pos rfl]; exact hl c t o rfl
     · show t = if c = c then t else .nil
       rw [if_pos rfl]
     · show o = if c = c then o else 0
       rw [if_pos rfl]
     · show (if d = c then t else .nil) = .nil
       rw [if_neg fun e => by rw [e] at hd; omega]
     · have:=of_decide_eq_false h
       show (if d = c then t else .nil) = .nil
       rw [if_neg fun e => by rw [e] at hd; omega]
 | all t =>
   have ht:=ht t rfl
   refine Qz fun p w1 hp hP hz1 he1 => Qz fun q w2 hq hQ hz2 he2 => ?_
   have hP : QZ w1 p [t.v,.bool false,.int .u8 0,.pointer none,.int .i64 0] KR:=hP
   have hQ : QZ w2 q [.pointer none,.int .i64 0] KI:=hQ
   have hP:=hP.ext he2 fun h => h
   refine hP.ld (o:=1) (v:=.bool false) rfl ?_
   refine Qp rfl ?_
   refine hP.ld (o:=0) (v:=t.v) rfl ?_
   have hE2:=he1.Q0 he2
   refine (WS (ht.Q4 hE2) hi).mono ?_
   rintro _ w3 ⟨rfl,QE⟩
   have JD:=hE2.Q0 QE
   have hz3:=QE.size
   have hQ3:=hQ.ext QE fun h => h
   unfold Vx
   cases hn : Wd (ptrs t.kid) i with
   | none =>
     have hno:=BG.1 hn
     refine xi (r:=((0 : Nat) : Int)) (QQ (by omega)) ?_
     refine QGd ?_
     refine Y4 T.nil ?_
     refine KD (a:=T.nil.v) (b:=.int .i64 (0 : Nat)) hQ3 (by kernel_rfl) rfl rfl fun w4 hQ4 Ro Zl => ?_
     refine hQ4.JH rfl ?_
     refine ⟨⟨0,.nil,0,false,rfl,⟨by omega,fun h => (by cases h),fun _ d hd => ?_⟩⟩,JD.Z0 Zl (by omega)⟩
     exact QFo (hno d hd)
   | some c =>
     obtain ⟨h1,h2,h3⟩:=OM.1 hn
     have hc:=MV c
     refine xi (r:=(c.toNat : Int)) (QQ (by omega)) ?_
     have hne : t.kid c ≠ .nil:=fun e => by unfold ptrs at h1; rw [e] at h1; cases h1
     refine QGd ?_
     refine WZ (t:=t.kid c) hne ?_
     refine KD (a:=(t.kid c).v) (b:=.int .i64 (0 : Nat)) hQ3 (by kernel_rfl) rfl rfl fun w4 hQ4 Ro Zl => ?_
     refine hQ4.JH rfl ?_
     exact ⟨⟨c.toNat,t.kid c,0,true,rfl,⟨by omega,fun _ => ⟨c,rfl,h2,hne,rfl,rfl,fun d hd1 hd2 => QFo (h3 d hd1 hd2)⟩,fun h => by cases h⟩⟩,JD.Z0 Zl (by omega)⟩
theorem QGQ (hk : Bs w kv way) (hkl : way.length ≤ 140737488355328) (hx : ∀ t,x = .all t → Tree w t) (hy : ∀ t,y = .all t → Tree w t) (hfl : Floor.n ≤ w.heap.size) :
  Q6 P Qkb [kv,x.v,y.v] w fun r w' => Ext No w w' ∧ ∃ kv' c b,r = .tuple #[chV kv' c,.bool b] ∧ Own w' w.heap.size Qm 1 kv' way.length (way.map bv) ∧ (match DR way x.val y.val with | some d => b = true ∧ c = d | none => b = false):=by
 have hX : ∃ u,x.cells[0]? = some u.v ∧ x.cells.length = 5 ∧ u.val = x.val ∧ Tree w u:=by
  cases x with
  | all t => exact ⟨t,rfl,rfl,rfl,hx t rfl⟩
  | one c t o => exact ⟨.nil,rfl,rfl,rfl,trivial⟩
 have hY : ∃ u,y.cells[0]? = some u.v ∧ y.cells.length = 5 ∧ u.val = y.val ∧ Tree w u:=by
  cases y with
  | all t => exact ⟨t,rfl,rfl,rfl,hy t rfl⟩
  | one c t o => exact ⟨.nil,rfl,rfl,rfl,trivial⟩
 obtain ⟨u,x0,xl,xv,xt⟩:=hX
 obtain ⟨u',y0,yl,yv,yt⟩:=hY
 refine QDL ?_
 refine Qz fun p w1 hp hP hz1 he1 => Qz fun q w2 hq hQ hz2 he2 => Qz fun rr w3 hr hR hz3 QE => ?_
 have hP : QZ w1 p x.cells KR:=hP
 have hQ : QZ w2 q y.cells KR:=hQ
 have hR : QZ w3 rr [.slice none 0 0,.int .i64 0,.int .u64 0,.int .u64 0] Q3:=hR
 have JD:=(he1.Q0 he2).Q0 QE
 refine ((hP.ext he2 fun h => h).ext QE fun h => h).ld (o:=0) (v:=u.v) x0 ?_
 refine (Cj (xt.Q4 JD)).mono ?_
 rintro _ w4 ⟨rfl,rfl⟩
 refine (hQ.ext QE fun h => h).ld (o:=0) (v:=u'.v) y0 ?_
 refine (Cj (yt.Q4 JD)).mono ?_
 rintro _ w5 ⟨rfl,rfl⟩
 rw [xv,yv]
 refine (Qov (hk.Q4 JD) hkl).mono ?_
 rintro kv' w6 ⟨Q0g,Ke⟩
 have Q0g:=Q0g.mono JD.size
 have MC:=JD.Q0 Ke
 have hz6:=Ke.size
 have hR6:=hR.ext Ke fun h => h
 generalize x.val = a at *
 generalize y.val = b at *
 obtain ⟨ad,cp,rfl⟩:=(Bs.of Q0g.sl).slice
 show Qs w6 [.slice none 0 0,.int .i64 0,.int .u64 0,.int .u64 0] Q3 fun Di YB => Yn P (storeVar Q3 Di (.agg #[.slice ad way.length cp,.int .i64 0,u64 (a.getD 0),u64 (b.getD 0)])) YB _
 refine Qz fun cc w7 hcc hC hz7 Yy => ?_
 have hC : QZ w7 cc [.slice none 0 0,.int .i64 0,.int .u64 0,.int .u64 0] Q3:=hC
 refine Q9i hC (by kernel_rfl) rfl rfl rfl rfl fun w8 hC hz8 KJ => ?_
 have E9 : Ext No w w8:=(MC.Q0 Yy).Z0 KJ (by omega)
 have Re:=(hR6.ext Yy fun h => h).ext KJ fun e => by have e : rr = cc:=e; omega
 refine xj (fun vs w' => ∃ (x1 x2 x3 : Value) (kd : Int),vs = [x1,x2,x3] ∧ QZ w' cc (chC (.slice ad way.length cp) ⟨way,kd,a.getD 0,b.getD 0⟩) Q3 ∧ QZ w' rr [.slice none 0 0,.int .i64 0,.int .u64 0,.int .u64 0] Q3 ∧ Ext No w w' ∧ w'.heap.size = w8.heap.size ∧ Ext (· = cc) w8 w' ∧ (match DR way a b with | some d => kd = d.kind | none => kd = 0)) ?_ ?_
 · refine xj (fun vs w' => vs = [.bool (decide (a.isSome = true ∧ b.isSome = true ∧ a ≠ b))] ∧ w' = w8) ?_ ?_
   · cases a with
     | none => exact Qp rfl ⟨by simp,rfl⟩
     | some z =>
       refine Qr rfl ?_
       cases b with
       | none => exact Qp rfl ⟨by simp,rfl⟩
       | some z' =>
         refine Qr rfl ⟨?_,rfl⟩
         show [Value.bool (((z : Nat) : Int) != (z' : Nat))] = _
         by_cases e : z = z'
         · subst e; simp
         · simp [e]; omega
   rintro vs g w9 ⟨rfl,rfl⟩
   have st : ∀ (n : Int) (J : List Value → World → Prop),(∀ w',QZ w' cc (chC (.slice ad way.length cp) ⟨way,n,a.getD 0,b.getD 0⟩) Q3 → QZ w' rr [.slice none 0 0,.int .i64 0,.int .u64 0,.int .u64 0] Q3 → Ext No w w' → w'.heap.size = w9.heap.size → Ext (· = cc) w9 w' → ∀ vs,J vs w') → ∀ vs,Uw w9 ((⟨cc,0,none⟩ : Addr).add 1) (.int .i64 n) fun w' => J vs w':=fun n J hJ vs => by
    refine hC.st (o:=1) (by simp) rfl fun Dn hC2 QyM J9 => ?_
    exact hJ Dn (by simpa using hC2) (Re.ext J9 fun e => by have e : rr = cc:=e; omega) (E9.Z0 J9 (by omega)) QyM J9 vs
   cases a with
   | none =>
     refine Qp (by simp) ?_
     refine xj (fun vs w' => vs = [.bool false] ∧ w' = w9) (Qp rfl ⟨rfl,rfl⟩) ?_
     rintro vs g Dn ⟨rfl,rfl⟩
     refine Qp rfl ?_
     cases b with
     | none =>
       refine xj (fun vs w' => vs = [.bool false] ∧ w' = Dn) (Qp rfl ⟨rfl,rfl⟩) ?_
       rintro vs g AL ⟨rfl,rfl⟩
       refine Qp rfl ?_
       exact ⟨_,_,_,0,rfl,hC,Re,E9,rfl,Ext.refl _ _,rfl⟩
     | some z' =>
       refine xj (fun vs w' => vs = [.bool true] ∧ w' = Dn) (Qr rfl ⟨rfl,rfl⟩) ?_
       rintro vs g AL ⟨rfl,rfl⟩
       refine Qr rfl ?_
       refine hC.st (o:=1) (by simp) rfl fun Rw hC2 QyM J9 => ?_
       exact ⟨_,_,_,1,rfl,by simpa using hC2,Re.ext J9 (fun e => by have e : rr = cc:=e; omega),E9.Z0 J9 (by omega),QyM,J9,rfl⟩
   | some z =>
     cases b with
     | none =>
       refine Qp (by simp) ?_
       refine xj (fun vs w' => vs = [.bool true] ∧ w' = w9) (Qr rfl ⟨rfl,rfl⟩) ?_
       rintro vs g Dn ⟨rfl,rfl⟩
       refine Qr rfl ?_
       refine hC.st (o:=1) (by simp) rfl fun Rw hC2 QyM J9 => ?_
       exact ⟨_,_,_,2,rfl,by simpa using hC2,Re.ext J9 (fun e => by have e : rr = cc:=e; omega),E9.Z0 J9 (by omega),QyM,J9,rfl⟩
     | some z' =>
       by_cases e : z = z'
       · subst e
         refine Qp (by simp) ?_
         refine xj (fun vs w' => vs = [.bool false] ∧ w' = w9) (Qr rfl ⟨rfl,rfl⟩) ?_
         rintro vs g Dn ⟨rfl,rfl⟩
         refine Qp rfl ?_
         refine xj (fun vs w' => vs = [.bool false] ∧ w' = Dn) (Qr rfl ⟨rfl,rfl⟩) ?_
         rintro vs g AL ⟨rfl,rfl⟩
         refine Qp rfl ?_
         exact ⟨_,_,_,0,rfl,hC,Re,E9,rfl,Ext.refl _ _,by rw [Qsa]⟩
       · refine Qr (by simp [e]) ?_
         refine hC.st (o:=1) (by simp) rfl fun Rw hC2 QyM J9 => ?_
         exact ⟨_,_,_,3,rfl,by simpa using hC2,Re.ext J9 (fun e => by have e : rr = cc:=e; omega),E9.Z0 J9 (by omega),QyM,J9,by rw [QlY e]⟩
 rintro vs g w9 ⟨x1,x2,x3,kd,rfl,hC9,hR9,OA,hz9,Ym,hkd⟩
 have QJo : Own w9 w.heap.size Qm 1 (.slice ad way.length cp) way.length (way.map bv):=by
  have h7:=Q0g.Q4 Yy
  have h8:=h7.ext KJ fun b hb e => Own.neK h7 ‹QZ w7 cc _ _› (by decide) (by rw [hb,show b = cc from e])
  exact h8.ext Ym fun b hb e => Own.neK h8 hC (by decide) (by rw [hb,show b = cc from e])
 have hd9:=hC9.drew
 refine hd9.JH rfl ?_
 refine hd9.ld (o:=1) (v:=.int .i64 kd) rfl ?_
 refine Q9i hR9.drew (by kernel_rfl) rfl rfl rfl rfl fun Dn Qvc QyM J9 => ?_
 refine ⟨Qkh (hd9.ext J9 fun e => by have e : cc = rr:=e; omega) rfl,?_⟩
 refine Qvc.JH rfl ?_
 have Dq : Ext No w Dn:=OA.drew.Z0 J9 (by omega)
 refine ⟨Dq,_,⟨way,kd,a.getD 0,b.getD 0⟩,kd != 0,rfl,QJo.drew.ext J9 fun b hb e => Own.neK QJo.drew hR9.drew (by decide) (by rw [hb,show b = rr from e]),?_⟩
 cases a with
 | none =>
   cases b with
   | none => show (kd != 0) = false; rw [show kd = 0 from hkd]; rfl
   | some z' => have hkd : kd = 1:=hkd; subst hkd; exact ⟨rfl,rfl⟩
 | some z =>
   cases b with
   | none => have hkd : kd = 2:=hkd; subst hkd; exact ⟨rfl,rfl⟩
   | some z' =>
     by_cases e : z = z'
     · subst e
       rw [Qsa] at hkd ⊢
       show (kd != 0) = false; rw [show kd = 0 from hkd]; rfl
     · rw [QlY e] at hkd ⊢
       have hkd : kd = 3:=hkd; subst hkd; exact ⟨rfl,rfl⟩
end
end Go.Proofs.YtbnhggfiembejaaGreatDoor
end
section
namespace Go.Proofs.YtbnhggfiembejaaGreatDoor
open Go Go.RowKit X
set_option linter.unusedSimpArgs false
set_option linter.unusedVariables false
set_option linter.unusedSectionVars false
def OfP (a : T) (oa : Nat) (part : Key) (x : QmC) : Prop:=x = .all a ∨ ∃ c o,x = .one c a o ∧ oa + part.length + 1 ≤ o ∧ o ≤ a.part.length ∧ a ≠ .nil
variable [Floor]
section
variable {w w0 : World} {v va vb kv : Value} {a b t : T} {oa ob o n m i : Nat} {k way : Key} {s x y : QmC}
abbrev sdZ : List Value:=[.pointer none,.bool false,.int .u8 0,.pointer none,.int .i64 0]
structure QKf (w' : World) (a b : T) (oa ob : Nat) (x y : QmC) (pv : Value) (part : Key) : Prop where
 rx : SdR (W9 oa a.er) part x
 ry : SdR (W9 ob b.er) part y
 fx : OfP a oa part x
 fy : OfP b ob part y
 pv : Bs w' pv part
 len : part.length + oa ≤ a.part.length ∨ part.length + ob ≤ b.part.length
 la : a ≠ .nil → part.length + oa ≤ a.part.length
 lb : b ≠ .nil → part.length + ob ≤ b.part.length
theorem Qwd {b : Nat} {cs : List Value} (hb : QZ w b cs KR) (hf : Floor.n ≤ b) : NB w (· = b):=fun c hc _ => by
 have e : c = b:=hc
 subst e
 exact ⟨hf,_,_,hb,by decide⟩
theorem QvZ (h : Wv w a oa) : a.part.length ≤ a.er.long:=by
 cases a with
 | nil => exact Nat.zero_le _
 | node c ow part val ks kids =>
   show part.length ≤ (E.node part val fun c => (kids c).er).long
   rw [E.Ky]; omega
theorem QmC.len (s : QmC) : s.cells.length = 5:=by cases s <;> rfl
theorem QmC.R9 (s : QmC) : ∀ v ∈ s.cells,v.oneCell' = true:=by
 intro v hv
 cases s with
 | all t =>
   have hv : v ∈ [t.v,.bool false,.int .u8 0,.pointer none,.int .i64 0]:=hv
   simp only [List.mem_cons,List.mem_nil_iff,or_false] at hv
   rcases hv with rfl | rfl | rfl | rfl | rfl <;> rfl
 | one c t o =>
   have hv : v ∈ [Value.pointer none,.bool true,bv c,t.v,.int .i64 o]:=hv
   simp only [List.mem_cons,List.mem_nil_iff,or_false] at hv
   rcases hv with rfl | rfl | rfl | rfl | rfl <;> rfl
theorem QfW {w : World} {g : Nat} {z : List Value} {K : World → Prop} (s : QmC) (hg : QZ w g z KR) (hz : z.length = 5)
  (k : ∀ w',QZ w' g s.cells KR → w'.heap.size = w.heap.size → Ext (· = g) w w' → K w') : Yn P (storeVar KR ⟨g,0,none⟩ s.v) w K:=by
 refine JW (vs:=s.cells) hg (by rw [s.len]; kernel_rfl) (by rw [s.len,hz]; exact Nat.le_refl _) s.R9 fun w' hb h1 h2 => k w' ?_ h1 h2
 have e : z.take 0 ++ s.cells ++ z.drop (0 + s.cells.length) = s.cells:=by
  rw [s.len,List.drop_eq_nil_of_le (by omega),List.take_zero,List.nil_append,List.append_nil]
 rw [e] at hb
 exact hb
theorem QEK {J : List Value → World → Prop} {xb pb same : Nat} {pv : Value} (hX : QZ w xb (QmC.all a).cells KR) (hP : QZ w pb [a.v,.int .i64 oa] KI) (hp : Bs w pv (a.part.drop oa)) (hne : a ≠ .nil) (hoa : oa ≤ a.part.length) (hs : same ≤ (a.part.drop oa).length) (hlong : a.part.length ≤ 100000)
  (k : ∀ w' s,OfP a oa ((a.part.drop oa).take same) s → SdR (W9 oa a.er) ((a.part.drop oa).take same) s → QZ w' xb s.cells KR → Ext (· = xb) w w' → J [] w') :
  Zq pv fun Yi => Wu (.int .i64 (same : Nat)) Yi fun Yh => Ql Yh (Zb pv (.int .i64 (same : Nat)) 1 fun Ki => Z6 Ki fun QCF => QC w.drew QCF fun YY => Qo w.drew ⟨pb,0,none⟩ 2 fun YD => Q6 P Q1i [YD,.int .i64 (same : Nat)] w.drew fun Y9 Xe => Zg Xe Ki YY ∧ (QN sdZ [(1,1,.bool true),(2,1,YY),(3,2,Y9)] fun QC2 => Yn P (storeVar KR ⟨xb,0,none⟩ (.agg QC2.toArray)) Xe fun Uy => J [] Uy)) (J [] w):=by
 refine hp.len ?_
 have hpl : (a.part.drop oa).length = a.part.length - oa:=by rw [List.length_drop]
 refine ZF (fun h => ?_) fun h => ?_
 · have hlt : same < (a.part.drop oa).length:=by omega
   have hd:=(Ext.refl No w).drew
   refine (hp.Q4 hd).rdK same hlt rfl fun pp hpp => ?_
   refine hP.drew.JH rfl ?_
   refine (QHy (a:=a) (by omega)).mono ?_
   rintro _ w1 ⟨rfl,he⟩
   have hE:=hd.Q0 he
   refine ⟨hpp _ (hp.Q4 hE),?_⟩
   refine QfW (.one (a.part.drop oa)[same] a (oa + same + 1)) ((hX.drew).ext he fun h => h) (QmC.len _) fun w2 hb hz he2 => ?_
   have ht : ((a.part.drop oa).take same).length = same:=by rw [List.length_take]; omega
   refine k w2 _ (.inr ⟨_,_,rfl,by rw [ht]; omega,by omega,hne⟩) ?_ hb ((hE.mono fun _ _ h => h.elim).QI he2)
   have e : a.part.drop oa = (a.part.drop oa).take same ++ (a.part.drop oa)[same] :: (a.part.drop oa).drop (same + 1):=by
    rw [List.getElem_cons_drop,List.take_append_drop]
   have:=SdR.one (o:=oa) hne e
   rw [ht] at this
   exact this
 · refine k w _ (.inl rfl) (SdR.all hne ?_) hX (Ext.refl _ _)
   rw [List.take_of_length_le (by omega)]
theorem QHu (ha : Wv w a oa) (hb : Wv w b ob) (hne : a ≠ .nil ∨ b ≠ .nil) (hfl : Floor.n ≤ w.heap.size) :
  Q6 P Qpe [plV a oa,plV b ob] w fun r w' => Ext No w w' ∧ ∃ x y pv part,r = .tuple #[x.v,y.v,pv] ∧ QKf w' a b oa ob x y pv part:=by
 have oaz : a = .nil → oa = 0:=fun e => by have h:=ha.off; rw [e] at h; exact Nat.le_zero.1 h
 have obz : b = .nil → ob = 0:=fun e => by have h:=hb.off; rw [e] at h; exact Nat.le_zero.1 h
 refine QDW ?_
 refine Qz fun p w1 hp hP hz1 he1 => Qz fun q w2 hq hQ hz2 he2 => Qz fun xr w3 hxr hX hz3 QE => Qz fun yr w4 hyr hY Ro Zl => ?_
 have hP : QZ w1 p [a.v,.int .i64 oa] KI:=hP
 have hQ : QZ w2 q [b.v,.int .i64 ob] KI:=hQ
 have hX : QZ w3 xr (QmC.all .nil).cells KR:=hX
 have hY : QZ w4 yr (QmC.all .nil).cells KR:=hY
 have hP:=((hP.ext he2 fun h => h).ext QE fun h => h).ext Zl fun h => h
 have hQ:=(hQ.ext QE fun h => h).ext Zl fun h => h
 have hX:=hX.ext Zl fun h => h
 have U9:=((he1.Q0 he2).Q0 QE).Q0 Zl
 refine hP.ld (o:=0) (v:=a.v) rfl ?_
 by_cases han : a = .nil
 · subst han
   have hbn:=hne.resolve_left fun h => h rfl
   have hoz:=oaz rfl
   refine Ka T.nil ?_
   refine Qr rfl ?_
   have hd:=(Ext.refl No w4).drew
   refine hQ.drew.ld (o:=0) (v:=b.v) rfl ?_
   refine hQ.drew.JH rfl ?_
   refine (QDs ((hb.tree.Q4 U9).Q4 hd) hb.off).mono ?_
   rintro pv w5 ⟨hpv,ZR⟩
   have WX:=(U9.Q0 hd).Q0 ZR
   have hz5:=ZR.size
   have hz4d : w4.drew.heap.size = w4.heap.size:=rfl
   have hQ5:=hQ.drew.ext ZR fun h => h
   refine ⟨Qkh hQ5 rfl,?_⟩
   refine QfW (.all .nil) (hX.drew.ext ZR fun h => h) rfl fun w6 hX6 hz6 Ke => ?_
   have hQ6:=hQ5.ext Ke fun e => by have e : q = xr:=e; omega
   refine ⟨Qkh hQ6 rfl,?_⟩
   refine QfW (.all b) ((hY.drew.ext ZR fun h => h).ext Ke fun e => by have e : yr = xr:=e; omega) rfl fun w7 hY7 hz7 Yy => ?_
   have hX7:=hX6.ext Yy fun e => by have e : xr = yr:=e; omega
   refine hX7.JH rfl ?_
   refine hY7.JH rfl ?_
   refine ⟨(WX.Z0 Ke (by omega)).Z0 Yy (by omega),.all .nil,.all b,pv,b.part.drop ob,rfl,SdR.nil _ _,SdR.all hbn rfl,.inl rfl,.inl rfl,(hpv.ext Ke (Qwd (hX.drew.ext ZR fun h => h) (by omega))).ext Yy (Qwd ((hY.drew.ext ZR fun h => h).ext Ke fun e => by have e : yr = xr:=e; omega) (by omega)),.inr ?_,fun h => absurd rfl h,fun _ => ?_⟩
   · rw [List.length_drop]; have:=hb.off; omega
   · rw [List.length_drop]; have:=hb.off; omega
 refine Vn (t:=a) han ?_
 refine Qp rfl ?_
 refine hQ.ld (o:=0) (v:=b.v) rfl ?_
 by_cases hbn : b = .nil
 · subst hbn
   have hoz:=obz rfl
   refine Ka T.nil ?_
   refine Qr rfl ?_
   have hd:=(Ext.refl No w4).drew
   refine hP.drew.ld (o:=0) (v:=a.v) rfl ?_
   refine hP.drew.JH rfl ?_
   refine (QDs ((ha.tree.Q4 U9).Q4 hd) ha.off).mono ?_
   rintro pv w5 ⟨hpv,ZR⟩
   have WX:=(U9.Q0 hd).Q0 ZR
   have hz5:=ZR.size
   have hz4d : w4.drew.heap.size = w4.heap.size:=rfl
   have hP5:=hP.drew.ext ZR fun h => h
   refine ⟨Qkh hP5 rfl,?_⟩
   refine QfW (.all a) (hX.drew.ext ZR fun h => h) rfl fun w6 hX6 hz6 Ke => ?_
   refine QfW (.all .nil) ((hY.drew.ext ZR fun h => h).ext Ke fun e => by have e : yr = xr:=e; omega) rfl fun w7 hY7 hz7 Yy => ?_
   have hX7:=hX6.ext Yy fun e => by have e : xr = yr:=e; omega
   refine hX7.JH rfl ?_
   refine hY7.JH rfl ?_
   refine ⟨(WX.Z0 Ke (by omega)).Z0 Yy (by omega),.all a,.all .nil,pv,a.part.drop oa,rfl,SdR.all han rfl,SdR.nil _ _,.inl rfl,.inl rfl,(hpv.ext Ke (Qwd (hX.drew.ext ZR fun h => h) (by omega))).ext Yy (Qwd ((hY.drew.ext ZR fun h => h).ext Ke fun e => by have e : yr = xr:=e; omega) (by omega)),.inl ?_,fun _ => ?_,fun h => absurd rfl h⟩
   · rw [List.length_drop]; have:=ha.off; omega
   · rw [List.length_drop]; have:=ha.off; omega
 refine Vn (t:=b) hbn ?_
 refine Qp rfl ?_
 have hd:=(Ext.refl No w4).drew
 refine hP.drew.JH rfl ?_
 refine hQ.drew.JH rfl ?_
 refine (QDs ((ha.tree.Q4 U9).Q4 hd) ha.off).mono ?_
 rintro pv w5 ⟨hpv,ZR⟩
 have WX:=(U9.Q0 hd).Q0 ZR
 have hP5:=hP.drew.ext ZR fun h => h
 have hQ5:=hQ.drew.ext ZR fun h => h
 refine ⟨J6 hQ5,?_⟩
 refine (QDs (hb.tree.Q4 WX) hb.off).mono ?_
 rintro qv w6 ⟨Ir,Ke⟩
 have MC:=WX.Q0 Ke
 have pla:=QvZ ha
 have plb:=QvZ hb
 have hla:=ha.long
 have hlb:=hb.long
 have lp : (a.part.drop oa).length = a.part.length - oa:=by rw [List.length_drop]
 have lq : (b.part.drop ob).length = b.part.length - ob:=by rw [List.length_drop]
 refine (Hl (hpv.Q4 Ke) Ir (by omega) (by omega)).mono ?_
 rintro _ w7 ⟨rfl,Yy⟩
 have BA:=MC.Q0 Yy
 obtain ⟨c1,c2⟩:=Ed (a.part.drop oa) (b.part.drop ob)
 have hsame : (a.part.drop oa).take (common (a.part.drop oa) (b.part.drop ob)) = (b.part.drop ob).take (common (a.part.drop oa) (b.part.drop ob)):=by
  obtain ⟨s,hs⟩:=Iw (a.part.drop oa) (b.part.drop ob)
  have hl : ((a.part.drop oa).take (common (a.part.drop oa) (b.part.drop ob))).length = common (a.part.drop oa) (b.part.drop ob):=by rw [List.length_take]; omega
  have:=congrArg (List.take (common (a.part.drop oa) (b.part.drop ob))) hs
  rw [List.take_append_of_le_length (by omega),List.take_of_length_le (by omega)] at this
  exact this
 generalize common (a.part.drop oa) (b.part.drop ob) = same at *
 have hz7 : w4.heap.size ≤ w7.heap.size:=by have h1:=ZR.size; have h2:=Ke.size; have h3:=Yy.size; have : w4.drew.heap.size = w4.heap.size:=rfl; omega
 have hP7:=(hP5.ext Ke fun h => h).ext Yy fun h => h
 have hQ7:=(hQ5.ext Ke fun h => h).ext Yy fun h => h
 have hX7:=((hX.drew.ext ZR fun h => h).ext Ke fun h => h).ext Yy fun h => h
 have hY7:=((hY.drew.ext ZR fun h => h).ext Ke fun h => h).ext Yy fun h => h
 have Qmz:=(hpv.Q4 Ke).Q4 Yy
 have hqv7:=Ir.Q4 Yy
 refine hP7.drew.ld (o:=0) (v:=a.v) rfl ?_
 refine hQ7.drew.ld (o:=0) (v:=b.v) rfl ?_
 have hd7:=(Ext.refl No w7).drew
 have hz7d : w7.drew.heap.size = w7.heap.size:=rfl
 have tail : ∀ (w8 : World) (xb yb : Nat),Ext No w7.drew w8 → w7.heap.size ≤ xb → w7.heap.size ≤ yb → xb ≠ yb → QZ w8 xb (QmC.all a).cells KR → QZ w8 yb (QmC.all b).cells KR →
   XJ (fun QEX => Zq pv fun Yi => Wu (.int .i64 (same : Nat)) Yi fun Yh => Ql Yh (Zb pv (.int .i64 (same : Nat)) 1 fun Ki => Z6 Ki fun QCF => QC w8.drew QCF fun YY => Qo w8.drew ⟨p,0,none⟩ 2 fun YD => Q6 P Q1i [YD,.int .i64 (same : Nat)] w8.drew fun Y9 Xe => Zg Xe Ki YY ∧ (QN sdZ [(1,1,.bool true),(2,1,YY),(3,2,Y9)] fun QC2 => Yn P (storeVar KR ⟨xb,0,none⟩ (.agg QC2.toArray)) Xe fun Uy => QEX [] Uy)) (QEX [] w8)) fun RD QHN Be =>
   XJ (fun Qvm => Zq qv fun UD => Wu (.int .i64 (same : Nat)) UD fun Ue => Ql Ue (Zb qv (.int .i64 (same : Nat)) 1 fun Vk => Z6 Vk fun QeB => QC Be.drew QeB fun Wz => Qo Be.drew ⟨q,0,none⟩ 2 fun Ud => Q6 P Q1i [Ud,.int .i64 (same : Nat)] Be.drew fun Dr Q6M => Zg Q6M Vk Wz ∧ (QN sdZ [(1,1,.bool true),(2,1,Wz),(3,2,Dr)] fun QEN => Yn P (storeVar KR ⟨yb,0,none⟩ (.agg QEN.toArray)) Q6M fun QcF => Qvm [] QcF)) (Qvm [] Be)) fun Q3D QGE Wx =>
   Qo Wx.drew ⟨xb,0,none⟩ 5 fun MS => Qo Wx.drew ⟨yb,0,none⟩ 5 fun MR => Yg 1 pv none (some (.int .i64 (same : Nat))) none fun Uc => Yn P (storeVar KR ⟨xr,0,none⟩ MS) Wx.drew fun MH => Za MH (.pointer (some ⟨yb,0,none⟩)) MR ∧ (Yn P (storeVar KR ⟨yr,0,none⟩ MR) MH fun Qhk => Qo Qhk ⟨xr,0,none⟩ 5 fun Pk => Qo Qhk ⟨yr,0,none⟩ 5 fun MP =>
   (Ext No w Qhk ∧ ∃ x y pv part,Value.tuple #[Pk,MP,Uc] = .tuple #[x.v,y.v,pv] ∧ QKf Qhk a b oa ob x y pv part)):=by
  intro w8 xb yb KJ hxb hyb hxy hX8 hY8
  have hz8:=KJ.size
  have QGt:=hd7.Q0 KJ
  have hlx:=hX8.lt
  have hly:=hY8.lt
  have QJg:=Qmz.Q4 QGt
  have hqv8:=hqv7.Q4 QGt
  have hP8:=hP7.ext QGt fun h => h
  have hQ8:=hQ7.ext QGt fun h => h
  refine xj (fun vs w' => vs = [] ∧ ∃ x,OfP a oa ((a.part.drop oa).take same) x ∧ SdR (W9 oa a.er) ((a.part.drop oa).take same) x ∧ QZ w' xb x.cells KR ∧ Ext (· = xb) w8 w') ?_ ?_
  · exact QEK (J:=fun vs w' => vs = [] ∧ ∃ x,OfP a oa ((a.part.drop oa).take same) x ∧ SdR (W9 oa a.er) ((a.part.drop oa).take same) x ∧ QZ w' xb x.cells KR ∧ Ext (· = xb) w8 w') hX8 hP8 QJg han ha.off c1 (by omega) fun w' s h1 h2 h3 h4 => ⟨rfl,s,h1,h2,h3,h4⟩
  rintro vs g w9 ⟨rfl,x,fx,rx,hX9,Ym⟩
  have hnb:=Qwd hX8 (by have:=hfl; have:=BA.size; omega)
  have hz9:=Ym.size
  have hY9:=hY8.ext Ym fun e => hxy e.symm
  refine xj (fun vs w' => vs = [] ∧ ∃ y,OfP b ob ((b.part.drop ob).take same) y ∧ SdR (W9 ob b.er) ((b.part.drop ob).take same) y ∧ QZ w' yb y.cells KR ∧ Ext (· = yb) w9 w') ?_ ?_
  · exact QEK (J:=fun vs w' => vs = [] ∧ ∃ y,OfP b ob ((b.part.drop ob).take same) y ∧ SdR (W9 ob b.er) ((b.part.drop ob).take same) y ∧ QZ w' yb y.cells KR ∧ Ext (· = yb) w9 w') hY9 (hQ8.ext Ym fun e => by have e : q = xb:=e; omega) (hqv8.ext Ym hnb) hbn hb.off c2 (by omega) fun w' s h1 h2 h3 h4 => ⟨rfl,s,h1,h2,h3,h4⟩
  rintro vs g Dn ⟨rfl,y,fy,ry,QGx,J9⟩
  have QyM:=J9.size
  have hnb9:=Qwd hY9 (by have:=hfl; have:=BA.size; omega)
  have QEc:=hX9.ext J9 hxy
  have QJh:=(QJg.ext Ym hnb).ext J9 hnb9
  have e7 : Ext No w7 Dn:=(QGt.Z0 Ym hxb).Z0 J9 hyb
  have hpd:=QJh.Q4 (Ext.refl _ _).drew
  refine QEc.drew.JH (QmC.len _) ?_
  refine QGx.drew.JH (QmC.len _) ?_
  refine hpd.take same rfl c1 fun pv' hpv' => ?_
  have hX0 : QZ Dn.drew xr (QmC.all .nil).cells KR:=(hX7.ext e7 fun h => h).drew
  have hY0 : QZ Dn.drew yr (QmC.all .nil).cells KR:=(hY7.ext e7 fun h => h).drew
  refine QfW x hX0 rfl fun AL hX11 QyL K9 => ?_
  have QFV:=hY0.ext K9 fun e => by have e : yr = xr:=e; omega
  refine ⟨J6 (QGx.drew.ext K9 fun e => by have e : yb = xr:=e; omega),?_⟩
  refine QfW y QFV rfl fun Rw hY12 QyK JX => ?_
  have hX12:=hX11.ext JX fun e => by have e : xr = yr:=e; omega
  refine hX12.JH (QmC.len _) ?_
  refine hY12.JH (QmC.len _) ?_
  refine ⟨((BA.Q0 e7).drew.Z0 K9 (by omega)).Z0 JX (by omega),x,y,pv',(a.part.drop oa).take same,rfl,rx,by rw [hsame]; exact ry,fx,by rw [hsame]; exact fy,(hpv'.ext K9 (Qwd hX0 (by omega))).ext JX (Qwd QFV (by omega)),.inl ?_,fun _ => ?_,fun _ => ?_⟩
  · rw [List.length_take]; have:=ha.off; omega
  · rw [List.length_take]; have:=ha.off; omega
  · rw [List.length_take]; have:=hb.off; omega
 refine ⟨?_,?_⟩
 · refine Qz fun xb w8 hxb hXb hz8 KJ => ?_
   have hXb : QZ w8 xb (QmC.all .nil).cells KR:=hXb
   refine ⟨Qkh (hQ7.drew.ext KJ fun h => h) rfl,Qkh (hP7.drew.ext KJ fun h => h) rfl,?_⟩
   refine Qz fun yb w9 hyb hYb hz9 Ym => ?_
   have hYb : QZ w9 yb (QmC.all .nil).cells KR:=hYb
   have OA:=KJ.Q0 Ym
   have hP9:=hP7.drew.ext OA fun h => h
   have hQ9:=hQ7.drew.ext OA fun h => h
   refine ⟨Qkh hQ9 rfl,Qkh hP9 rfl,?_⟩
   refine QfW (.all a) (hXb.ext Ym fun h => h) rfl fun Dn QEc QyM J9 => ?_
   have QIs:=hQ9.ext J9 fun e => by have e : q = xb:=e; omega
   refine ⟨Qkh QIs rfl,?_⟩
   refine QfW (.all b) (hYb.ext J9 fun e => by have e : yb = xb:=e; omega) rfl fun AL QFV QyL K9 => ?_
   exact tail AL xb yb ((OA.Z0 J9 (by omega)).Z0 K9 (by omega)) (by omega) (by omega) (by omega) (QEc.ext K9 fun e => by have e : xb = yb:=e; omega) QFV
 · refine Qz fun yb w8 hyb hYb hz8 KJ => ?_
   have hYb : QZ w8 yb (QmC.all .nil).cells KR:=hYb
   refine ⟨Qkh (hQ7.drew.ext KJ fun h => h) rfl,Qkh (hP7.drew.ext KJ fun h => h) rfl,?_⟩
   refine Qz fun xb w9 hxb hXb hz9 Ym => ?_
   have hXb : QZ w9 xb (QmC.all .nil).cells KR:=hXb
   have OA:=KJ.Q0 Ym
   have hP9:=hP7.drew.ext OA fun h => h
   have hQ9:=hQ7.drew.ext OA fun h => h
   refine ⟨Qkh hQ9 rfl,Qkh hP9 rfl,?_⟩
   refine QfW (.all a) hXb rfl fun Dn QEc QyM J9 => ?_
   have QIs:=hQ9.ext J9 fun e => by have e : q = xb:=e; omega
   refine ⟨Qkh QIs rfl,?_⟩
   refine QfW (.all b) ((hYb.ext Ym fun h => h).ext J9 fun e => by have e : yb = xb:=e; omega) rfl fun AL QFV QyL K9 => ?_
   exact tail AL xb yb ((OA.Z0 J9 (by omega)).Z0 K9 (by omega)) (by omega) (by omega) (by omega) (QEc.ext K9 fun e => by have e : xb = yb:=e; omega) QFV
end
end Go.Proofs.YtbnhggfiembejaaGreatDoor
end
section
namespace Go.Proofs.YtbnhggfiembejaaGreatDoor
open Go Go.RowKit X
set_option linter.unusedSimpArgs false
set_option linter.unusedVariables false
set_option linter.unusedSectionVars false
noncomputable abbrev QEI (i : Nat) : Field:=(P.fieldsOf KI).getD i { name:="",type:=0,offset:=0,embedded:=false,tag:="",pkgPath:="",byteOffset:=0 }
theorem QGF : (P.fieldsOf KI).toList = [QEI 0,QEI 1]:=by kernel_rfl
theorem QIz : (QEI 0).name = "n" ∧ (QEI 0).type = Jz ∧ (QEI 0).offset = 0:=⟨by kernel_rfl,by kernel_rfl,by kernel_rfl⟩
theorem QIy : (QEI 1).name = "gone" ∧ (QEI 1).type = Ht ∧ (QEI 1).offset = 1:=⟨by kernel_rfl,by kernel_rfl,by kernel_rfl⟩
theorem QvW {w : World} {a b : Option Addr} {i j : Nat} {x y : Operand} {t : Bool} {K : Bool → Prop} (h : (Op.equalIn 9999 Jz (.pointer a) (.pointer b)).run P w = .ok t w) (k : K (t && decide (i = j))) :
  Q8f P .eql KI x y (.agg #[.pointer a,.int .i64 i]) (.agg #[.pointer b,.int .i64 j]) w K:=by
 refine ⟨⟨t && decide (i = j),run_eqGuard_agg w _ _ _ _ _ _ (by kernel_rfl),?_,k⟩⟩
 show (Op.equalIn (9999 + 1) KI _ _).run P w = _
 rw [run_equalIn_struct w 9999 _ _ _ (by kernel_rfl) (by kernel_rfl),QGF]
 obtain ⟨n0,t0,o0⟩:=QIz
 obtain ⟨n1,t1,o1⟩:=QIy
 have e1 : (((i : Nat) : Int) == (j : Int)) = decide (i = j):=by
  by_cases e : i = j
  · subst e; simp
  · rw [decide_eq_false e]; exact beq_eq_false_iff_ne.2 (by omega)
 have hint : (Op.equalIn 9999 Ht (.int .i64 (i : Int)) (.int .i64 (j : Int))).run P w = .ok (decide (i = j)) w:=by
  have:=run_equalIn_int w 9998 Ht .i64 .i64 (i : Int) (j : Int) G7
  rw [e1] at this
  exact this
 refine Qgo (x0:=.pointer a) (y0:=.pointer b) (x1:=.int .i64 (i : Int)) (y1:=.int .i64 (j : Int)) (by rw [n0]; decide) (by rw [n1]; decide) ?_ ?_ ?_ ?_ ?_ ?_
 · rw [t0,o0]; exact Vq Ei Q0c rfl
 · rw [t0,o0]; exact Vq Ei Q0c rfl
 · rw [t0]; exact h
 · rw [t1,o1]; exact Vq G7 Q0d rfl
 · rw [t1,o1]; exact Vq G7 Q0d rfl
 · rw [t1]; exact hint
theorem QF3 [Floor] {w : World} {a b : T} {i j : Nat} {x y : Operand} {K : Bool → Prop} (ha : Tree w a) (hb : Tree w b) (k : K (decide (a.ptr = b.ptr) && decide (i = j))) : Q8f P .eql KI x y (plV a i) (plV b j) w K:=by
 cases a with
 | nil =>
   cases b with
   | nil => exact QvW (QE2 Ei) k
   | node => exact QvW (QE2 Ei) k
 | node aa Jk apart Qq ZO Q7 =>
   cases b with
   | nil => exact QvW (QjC Ei) k
   | node ba KZ Qi QW Km Qd =>
     obtain ⟨pva,hba,-⟩:=ha.1.blk
     obtain ⟨pvb,hbb,-⟩:=hb.1.blk
     by_cases e : aa = ba
     · refine QvW (t:=true) (QjB (by rw [e]; exact run_sameAddr_same _ _)) ?_
       rw [decide_eq_true (show (T.node aa Jk apart Qq ZO Q7).ptr = (T.node ba KZ Qi QW Km Qd).ptr from by show some (⟨aa,0,none⟩ : Addr) = some ⟨ba,0,none⟩; rw [e])] at k
       exact k
     · refine QvW (t:=false) (QjB (run_sameAddr_other _ (by simp [e]) hba.h hbb.h)) ?_
       rw [decide_eq_false (p:=(T.node aa Jk apart Qq ZO Q7).ptr = (T.node ba KZ Qi QW Km Qd).ptr) fun h => e (by have h2 : (⟨aa,0,none⟩ : Addr) = ⟨ba,0,none⟩:=Option.some.inj h; injection h2)] at k
       exact k
def LSw (way : Key) (i : Nat) (k : Key) : Prop:=Xr k way ∨ k = way ∨ ∃ (c : UInt8) (r : Key),c.toNat < i ∧ k = way ++ c :: r
theorem QEW {way k : Key} : LSw way 0 k ↔ Xr k way ∨ k = way:=by
 constructor
 · rintro (h | h | ⟨c,r,h,-⟩)
   · exact .inl h
   · exact .inr h
   · omega
 · rintro (h | h)
   · exact .inl h
   · exact .inr (.inl h)
theorem QGW {way k : Key} {c : UInt8} : Xr k (way ++ [c]) ↔ LSw way c.toNat k:=by
 constructor
 · intro h
   rcases QDa h with h1 | ⟨r,rfl,h1⟩
   · exact .inl h1
   · rcases QEa.1 h1 with rfl | ⟨d,s,h2,rfl⟩
     · exact .inr (.inl (by simp))
     · exact .inr (.inr ⟨d,s,h2,rfl⟩)
 · rintro (h | rfl | ⟨d,r,h,rfl⟩)
   · exact Qz6 h
   · have : Xr (k ++ []) (k ++ [c]):=(D7 k).2 (QEa.2 (.inl rfl))
     rwa [List.append_nil] at this
   · exact (D7 way).2 (QEa.2 (.inr ⟨d,r,h,rfl⟩))
theorem QGV {way k : Key} {c : UInt8} : Xr k (way ++ [c]) ∨ (way ++ [c]) <+: k ↔ LSw way (c.toNat + 1) k:=by
 rw [QGW]
 constructor
 · rintro ((h | h | ⟨d,r,h,e⟩) | ⟨r,rfl⟩)
   · exact .inl h
   · exact .inr (.inl h)
   · exact .inr (.inr ⟨d,r,by omega,e⟩)
   · exact .inr (.inr ⟨c,r,by omega,by simp⟩)
 · rintro (h | h | ⟨d,r,h,e⟩)
   · exact .inl (.inl h)
   · exact .inl (.inr (.inl h))
   · by_cases e2 : d.toNat = c.toNat
     · have : d = c:=UInt8.toNat_inj.1 e2
       subst this
       exact .inr ⟨r,by rw [e]; simp⟩
     · exact .inl (.inr (.inr ⟨d,r,by omega,e⟩))
variable [Floor]
section
variable {w w0 : World} {v va vb kv : Value} {a b t : T} {oa ob o n m i : Nat} {k way part : Key} {s x y : QmC} {G : Key → Option Chg} {D acc : List Chg} {B g : Nat}
theorem QED {c : UInt8} (h : OfP a oa part x) (hn : x.Q3A c = .nil) : x.Qu8 c = 0:=by
 rcases h with rfl | ⟨d,o,rfl,-,-,hne⟩
 · rfl
 · show (if c = d then o else 0) = 0
   split
   · rename_i e
     exfalso
     have hn : (if c = d then a else .nil) = T.nil:=hn
     rw [if_pos e] at hn; exact hne hn
   · rfl
theorem QGm {c : UInt8} (h : OfP a oa part x) (ha : Wv w a oa) : Wv w (x.Q3A c) (x.Qu8 c):=by
 have QJ3 : Wv w .nil 0:=⟨trivial,trivial,trivial,Nat.zero_le _,Nat.zero_le _⟩
 rcases h with rfl | ⟨d,o,rfl,-,ho,hne⟩
 · show Wv w (a.kid c) 0
   cases a with
   | nil => exact QJ3
   | node aa Jk apart Qq ZO Q7 =>
     have hl:=ha.long
     refine ⟨ha.tree.2 c,ha.fine.2 c,ha.QR.2 c,?_,Nat.zero_le _⟩
     show (Q7 c).er.long ≤ 100000
     cases hk : Q7 c with
     | nil => exact Nat.zero_le _
     | node => rw [← hk]; have:=Vd (part:=apart) (val:=Qq) (a:=aa) (ow:=Jk) (ks:=ZO) (kids:=Q7) (c:=c) (Zd.2 (by show (Q7 c).ptr.isSome = true; rw [hk]; rfl)); omega
 · show Wv w (if c = d then a else .nil) (if c = d then o else 0)
   split
   · exact ⟨ha.tree,ha.fine,ha.QR,ha.long,ho⟩
   · exact QJ3
theorem QGl {c : UInt8} (h : OfP a oa part x) (ha : Wv w a oa) (hp : a ≠ .nil → part.length + oa ≤ a.part.length) (hk : x.Q3A c ≠ .nil) : part.length + 1 + mu (x.Q3A c) (x.Qu8 c) ≤ mu a oa:=by
 rcases h with rfl | ⟨d,o,rfl,hlo,ho,hne⟩
 · cases a with
   | nil => exact absurd rfl hk
   | node aa Jk apart Qq ZO Q7 =>
     have hp : part.length + oa ≤ apart.length:=hp (by simp)
     have hk : Q7 c ≠ .nil:=hk
     show part.length + 1 + mu (Q7 c) 0 ≤ (T.node aa Jk apart Qq ZO Q7).er.long + 1 - oa
     have hl:=Vd (part:=apart) (val:=Qq) (a:=aa) (ow:=Jk) (ks:=ZO) (kids:=Q7) (c:=c) (Zd.2 (by show (Q7 c).ptr.isSome = true; cases h : Q7 c with | nil => exact absurd h hk | node => rfl))
     have hm : mu (Q7 c) 0 ≤ (Q7 c).er.long + 1:=by
      cases Q7 c with
      | nil => exact Nat.zero_le _
      | node => exact Nat.le_refl _
     omega
 · have hk : (if c = d then a else .nil) ≠ T.nil:=hk
   show part.length + 1 + mu (if c = d then a else .nil) (if c = d then o else 0) ≤ _
   have e : c = d:=Decidable.byContradiction fun e => hk (if_neg e)
   rw [if_pos e,if_pos e]
   have hl:=QvZ ha
   cases a with
   | nil => exact absurd rfl hne
   | node aa Jk apart Qq ZO Q7 =>
     show part.length + 1 + ((T.node aa Jk apart Qq ZO Q7).er.long + 1 - o) ≤ (T.node aa Jk apart Qq ZO Q7).er.long + 1 - oa
     omega
theorem QFt {c : UInt8} (h : x.Q3A c = .nil) : mu (x.Q3A c) (x.Qu8 c) = 0:=by rw [h]; rfl
structure CCo (w : World) (B : Nat) (l : List Chg) (cells : List Value) : Prop where
 len : cells.length = l.length * 4
 at_ : ∀ i c,l[i]? = some c → ∃ kv,(cells.drop (i * 4)).take 4 = chC kv c ∧ Own w B Qm 1 kv c.key.length (c.key.map bv) ∧ c.ok
theorem CCo.cc {l : List Chg} {cells : List Value} (h : CCo w B l cells) : CC w l cells :=
 ⟨h.len,fun i p hp => let ⟨kv,h1,h2,h3⟩:=h.at_ i p hp; ⟨kv,h1,Bs.of h2.sl,h3⟩⟩
theorem CCo.ext {l : List Chg} {cells : List Value} {w' : World} {X : Nat → Prop} (h : CCo w B l cells) (e : Ext X w w') (hx : ∀ kv ∈ cells,∀ b,kv.ownBlock = some b → ¬ X b) : CCo w' B l cells :=
 ⟨h.len,fun i p hp => let ⟨kv,h1,h2,h3⟩:=h.at_ i p hp; ⟨kv,h1,h2.ext e (hx kv (List.mem_of_mem_drop (List.mem_of_mem_take (by rw [h1]; simp)))),h3⟩⟩
theorem CCo.nil (w : World) (B : Nat) : CCo w B [] []:=⟨rfl,fun i p h => by cases h⟩
theorem CCo.snoc {l : List Chg} {cs : List Value} {c : Chg} (h : CCo w B l cs) (hk : Own w B Qm 1 kv c.key.length (c.key.map bv)) (hc : c.ok) : CCo w B (l ++ [c]) (cs ++ chC kv c):=by
 refine ⟨by simp [h.len]; omega,fun i p hp => ?_⟩
 have hl:=h.len
 rcases Nat.lt_or_ge i l.length with hi | hi
 · rw [List.getElem?_append_left hi] at hp
   rw [List.drop_append_of_le_length (by omega),List.take_append_of_le_length (by simp; omega)]
   exact h.at_ i p hp
 · rw [List.getElem?_append_right hi] at hp
   have e : i - l.length = 0:=by
    cases hq : i - l.length with
    | zero => rfl
    | succ j => rw [hq] at hp; simp at hp
   rw [e] at hp
   have hp : c = p:=by simpa using hp
   subst hp
   rw [List.drop_append,List.drop_eq_nil_of_le (by omega),List.nil_append,hl,show i * 4 - l.length * 4 = 0 by omega]
   exact ⟨kv,rfl,hk,hc⟩
structure WA (w : World) (B g : Nat) (acc : List Chg) (F : Nat → Prop) : Prop where
 ex : ∃ av cells,QZ w g [av] Qha ∧ Own w B Q3 4 av acc.length cells ∧ CCo w B acc cells ∧ (∀ b,av.ownBlock = some b → F b) ∧ ∀ kv ∈ cells,∀ b,kv.ownBlock = some b → F b
 fg : F g
 lt : ∀ b,F b → B ≤ b ∧ b < w.heap.size
theorem WA.ext {w' : World} {X F : Nat → Prop} (h : WA w B g acc F) (e : Ext X w w') (hx : ∀ b,F b → ¬ X b) : WA w' B g acc F:=by
 obtain ⟨av,cells,h1,h2,h3,h4,h5⟩:=h.ex
 exact ⟨⟨av,cells,h1.ext e (hx g h.fg),h2.ext e fun b hb => hx b (h4 b hb),h3.ext e fun kv Wq b hb => hx b (h5 kv Wq b hb),h4,h5⟩,h.fg,fun b hb => ⟨(h.lt b hb).1,by have:=(h.lt b hb).2; have:=e.size; omega⟩⟩
theorem WA.Q4 {w' : World} {F : Nat → Prop} (h : WA w B g acc F) (e : Ext No w w') : WA w' B g acc F:=h.ext e fun _ _ h => h
theorem QID {kv : Value} {c : Chg} {F : Nat → Prop} (h : WA w B g acc F) (hB : B ≤ w.heap.size) (Wq : Own w B Qm 1 kv c.key.length (c.key.map bv)) (hkF : ∀ b,kv.ownBlock = some b → ¬ F b) (hc : c.ok) (hn : acc.length ≤ 1000000) :
  Q6 P Qjr [chV kv c,.pointer (some ⟨g,0,none⟩)] w fun r w' => ∃ F',WA w' B g (acc ++ [c]) F' ∧ Ext F w w' ∧ ∀ b,F' b → F b ∨ kv.ownBlock = some b ∨ w.heap.size ≤ b:=by
 obtain ⟨av,cells,hgb,hav,hcc,hF1,hF2⟩:=h.ex
 refine QEp ?_
 refine Qz fun p w1 hp hP hz1 he1 => ?_
 have hP : QZ w1 p (chC kv c) Q3:=hP
 have hg1:=hgb.ext he1 fun h => h
 refine hg1.ld (o:=0) (v:=av) rfl ?_
 refine hP.JH rfl ?_
 obtain ⟨ad,cp,rfl⟩:=(Bs.of Wq.sl).slice
 show Qs w1 [.slice ad c.key.length cp,.int .i64 c.kind,u64 c.was,u64 c.is] Q3 _
 refine Qz fun b w2 hb hbl hz2 he2 => ?_
 have hE2:=he1.Q0 he2
 have hsl : Sl w2 (tyQ Q3) (.slice (some ⟨b,0,none⟩) 1 1) 4 1 [.slice ad c.key.length cp,.int .i64 c.kind,u64 c.was,u64 c.is]:=hbl.sln rfl
 refine Vi Qkd (hav.Q4 hE2) (by omega) hsl (fun u hu => ?_) (by omega) (by omega) fun av' w3 ho3 JD _ hnew => ?_
 · simp only [List.mem_cons,List.mem_nil_iff,or_false] at hu
   rcases hu with rfl | rfl | rfl | rfl <;> rfl
 have hz3:=JD.size
 have hgl:=hgb.lt
 have hkl : ∀ b,(Value.slice ad c.key.length cp).ownBlock = some b → b < w.heap.size:=fun b hb => (Wq.ge hb).2
 have hgne : ¬ av.ownBlock = some g:=fun hv => Own.neK hav hgb (by decide) hv
 have hg3:=(hg1.ext he2 fun h => h).ext JD hgne
 have QIl : CCo w3 B acc cells:=(hcc.ext hE2 fun _ _ _ _ h => h).ext JD fun kv Wq b hb hv => by
  obtain ⟨j,hj,rfl⟩:=List.mem_iff_getElem.1 Wq
  have hl:=hcc.len
  obtain ⟨kv',h1,h2,-⟩:=hcc.at_ (j / 4) acc[j / 4] (List.getElem?_eq_getElem (by omega))
  have e : (chC kv' acc[j / 4])[j % 4]? = some cells[j]:=by
   rw [← h1,List.getElem?_take,if_pos (by omega),List.getElem?_drop,show j / 4 * 4 + j % 4 = j by omega,List.getElem?_eq_getElem hj]
  have hm : j % 4 = 0 ∨ j % 4 = 1 ∨ j % 4 = 2 ∨ j % 4 = 3:=by omega
  rcases hm with e4 | e4 | e4 | e4 <;> rw [e4] at e
  · have e : kv' = cells[j]:=Option.some.inj e
    rw [← e] at hb
    exact Own.ne h2 hav (by decide) hb hv
  · have e : Value.int .i64 _ = cells[j]:=Option.some.inj e
    rw [← e] at hb; cases hb
  · have e : u64 _ = cells[j]:=Option.some.inj e
    rw [← e] at hb; cases hb
  · have e : u64 _ = cells[j]:=Option.some.inj e
    rw [← e] at hb; cases hb
 have hk3 : Own w3 B Qm 1 (.slice ad c.key.length cp) c.key.length (c.key.map bv):=(Wq.Q4 hE2).ext JD fun b hb hv => Own.ne Wq hav (by decide) hb hv
 refine hg3.st (o:=0) (by simp) (by rcases ho3.2 with ⟨rfl,-⟩ | ⟨_,_,_,rfl,-⟩ <;> rfl) fun w4 hg4 Ro Zl => ?_
 have hne4 : ¬ av'.ownBlock = some g:=fun hv => Own.neK ho3 hg3 (by decide) hv
 have hc4:=(QIl.snoc hk3 hc).ext Zl fun kv' Q0g b hb e => by
  have e : b = g:=e
  subst e
  rcases List.mem_append.1 Q0g with hm | hm
  · obtain ⟨j,hj,rfl⟩:=List.mem_iff_getElem.1 hm
    have hl:=QIl.len
    obtain ⟨kv',h1,h2,-⟩:=QIl.at_ (j / 4) acc[j / 4] (List.getElem?_eq_getElem (by omega))
    have e : (chC kv' acc[j / 4])[j % 4]? = some cells[j]:=by
     rw [← h1,List.getElem?_take,if_pos (by omega),List.getElem?_drop,show j / 4 * 4 + j % 4 = j by omega,List.getElem?_eq_getElem hj]
    have hm : j % 4 = 0 ∨ j % 4 = 1 ∨ j % 4 = 2 ∨ j % 4 = 3:=by omega
    rcases hm with e4 | e4 | e4 | e4 <;> rw [e4] at e
    · have e : kv' = cells[j]:=Option.some.inj e
      rw [← e] at hb
      exact Own.neK h2 hg3 (by decide) hb
    · have e : Value.int .i64 _ = cells[j]:=Option.some.inj e
      rw [← e] at hb; cases hb
    · have e : u64 _ = cells[j]:=Option.some.inj e
      rw [← e] at hb; cases hb
    · have e : u64 _ = cells[j]:=Option.some.inj e
      rw [← e] at hb; cases hb
  · simp only [List.mem_cons,List.mem_nil_iff,or_false] at hm
    rcases hm with rfl | rfl | rfl | rfl
    · exact Own.neK hk3 hg3 (by decide) hb
    · cases hb
    · cases hb
    · cases hb
 have ho4 : Own w4 B Q3 4 av' (acc ++ [c]).length (cells ++ chC (.slice ad c.key.length cp) c):=by
  have:=ho3.ext Zl fun b hb e => hne4 (by rw [hb,show b = g from e])
  rw [List.length_append]
  exact this
 refine ⟨fun b => F b ∨ (Value.slice ad c.key.length cp).ownBlock = some b ∨ av'.ownBlock = some b,⟨⟨av',_,by simpa using hg4,ho4,hc4,fun b hb => .inr (.inr hb),fun kv' Q0g b hb => ?_⟩,.inl h.fg,fun b hb => ?_⟩,?_,fun b hb => ?_⟩
 · rcases List.mem_append.1 Q0g with hm | hm
   · exact .inl (hF2 kv' hm b hb)
   · simp only [List.mem_cons,List.mem_nil_iff,or_false] at hm
     rcases hm with rfl | rfl | rfl | rfl
     · exact .inr (.inl hb)
     · cases hb
     · cases hb
     · cases hb
 · rcases hb with hb | hb | hb
   · have:=h.lt b hb; exact ⟨this.1,by omega⟩
   · have:=Wq.ge hb; exact ⟨this.1,by omega⟩
   · have:=ho4.ge hb; exact ⟨this.1,this.2⟩
 · refine ((hE2.mono fun _ _ h => h.elim).trans JD fun b _ hb => hF1 b hb).trans Zl fun b _ hb => by rw [show b = g from hb]; exact h.fg
 · rcases hb with hb | hb | hb
   · exact .inl hb
   · exact .inr (.inl hb)
   · rcases hnew b hb with h1 | h1
     · exact .inl (hF1 b h1)
     · exact .inr (.inr (by omega))
end
end Go.Proofs.YtbnhggfiembejaaGreatDoor
end
section
namespace Go.Proofs.YtbnhggfiembejaaGreatDoor
open Go Go.RowKit X
set_option linter.unusedSimpArgs false
set_option linter.unusedVariables false
set_option linter.unusedSectionVars false
theorem QF9 {k : Key} {x : Option Nat} : DR k x x = none:=by cases x <;> simp [DR]
variable [Floor]
section
variable {w w0 : World} {v va vb kv : Value} {a b t : T} {oa ob o n m i : Nat} {k way part : Key} {s x y : QmC} {G : Key → Option Chg} {D acc : List Chg} {B g : Nat}
abbrev ofF (g : Nat) : Value:=.func (.func Qjr) #[] #[.pointer (some ⟨g,0,none⟩)]
def QKe (w0 : World) (g : Nat) (G : Key → Option Chg) (M : Nat) : Prop:=∀ {w : World} {way : Key} {wv : Value} {a b : T} {oa ob : Nat} {acc : List Chg} {F : Nat → Prop},mu a oa + mu b ob < M → Wv w0 a oa → Wv w0 b ob → Ext No w0 w →
 Own w w0.heap.size Qm 1 wv way.length (way.map bv) → (∀ b,wv.ownBlock = some b → ¬ F b) → WA w w0.heap.size g acc F → QvT G acc (fun k => Xr k way) → (∀ r,G (way ++ r) = DR (way ++ r) ((W9 oa a.er).get r) ((W9 ob b.er).get r)) →
 way.length + mu a oa ≤ 300000 → way.length + mu b ob ≤ 300000 →
 Q6 P Qfc [wv,plV a oa,plV b ob,ofF g] w fun r w' => ∃ F' acc',WA w' w0.heap.size g acc' F' ∧ QvT G acc' (fun k => Xr k way ∨ way <+: k) ∧ Own w' w0.heap.size Qm 1 wv way.length (way.map bv) ∧ Ext (fun b => F b ∨ wv.ownBlock = some b) w w' ∧ ∀ b,F' b → F b ∨ w.heap.size ≤ b
theorem QFs {a : T} {oa : Nat} (h : a ≠ .nil) : mu a oa = a.er.long + 1 - oa:=by
 cases a with
 | nil => exact absurd rfl h
 | node => rfl
set_option maxRecDepth 100000 in
theorem QIA (hfl : Floor.n ≤ w0.heap.size) (hD : Q6t D) (hG : ∀ k,J2 D k = G k) (hDl : D.length ≤ 1000000) (hok : ∀ k c,G k = some c → c.ok) : ∀ M,QKe w0 g G M:=by
 intro M
 induction M with
 | zero => intro w way wv a b oa ob acc F hmu; omega
 | succ M ih =>
 intro w way wv a b oa ob acc F hmu ha hb h0 hown hwF hA hacc hG2 hla hlb
 have hz0:=h0.size
 have haw:=ha.Q4 h0
 have hbw:=hb.Q4 h0
 refine QEn ?_
 refine Qz fun p w1 hp hP hz1 he1 => Qz fun q w2 hq hQ hz2 he2 => ?_
 have hP : QZ w1 p [a.v,.int .i64 oa] KI:=hP
 have hQ : QZ w2 q [b.v,.int .i64 ob] KI:=hQ
 have hP:=hP.ext he2 fun h => h
 have hE2:=he1.Q0 he2
 refine hP.JH rfl ?_
 refine hQ.JH rfl ?_
 refine QF3 (haw.Q4 hE2).tree (hbw.Q4 hE2).tree ?_
 by_cases heq : a.ptr = b.ptr ∧ oa = ob
 · obtain ⟨e,rfl⟩:=heq
   refine Qr (by simp [e]) ?_
   have hab:=Tree.inj ha.tree hb.tree e
   refine ⟨F,acc,hA.Q4 hE2,hacc.iff fun k hk => ⟨.inl,fun h => h.elim id fun h => ?_⟩,hown.Q4 hE2,hE2.mono fun _ _ h => h.elim,fun b h => .inl h⟩
   obtain ⟨r,rfl⟩:=h
   refine absurd ?_ hk
   rw [hG2 r,hab]; exact QF9
 refine Qp (by rw [← Bool.decide_and]; exact decide_eq_false heq) ?_
 have hne : a ≠ .nil ∨ b ≠ .nil:=by
  by_cases h1 : a = .nil
  · by_cases h2 : b = .nil
    · refine absurd ⟨by rw [h1,h2],?_⟩ heq
      have e1:=ha.off; have e2:=hb.off
      rw [h1] at e1; rw [h2] at e2
      have e1 : oa ≤ 0:=e1
      have e2 : ob ≤ 0:=e2
      omega
    · exact .inr h2
  · exact .inl h1
 refine hP.JH rfl ?_
 refine hQ.JH rfl ?_
 refine (QHu (haw.Q4 hE2) (hbw.Q4 hE2) hne (by omega)).mono ?_
 rintro _ w3 ⟨QE,x,y,pv,part,rfl,hS⟩
 have JD:=hE2.Q0 QE
 have hz3:=JD.size
 refine Qz fun xa w4 hxa hXa Ro Zl => Qz fun ya w5 hya hYa hz5 ZR => ?_
 have hXa : QZ w4 xa (QmC.all .nil).cells KR:=hXa
 have hYa : QZ w5 ya (QmC.all .nil).cells KR:=hYa
 have hXa:=hXa.ext ZR fun h => h
 refine QfW x hXa rfl fun w6 hX hz6 Ke => ?_
 have QJw:=hYa.ext Ke fun e => by have e : ya = xa:=e; omega
 refine QfW y QJw rfl fun w7 hY hz7 Yy => ?_
 have hX:=hX.ext Yy fun e => by have e : xa = ya:=e; omega
 have BA : Ext No w w7:=(((JD.Q0 Zl).Q0 ZR).Z0 Ke (by omega)).Z0 Yy (by omega)
 have Qmz : Bs w7 pv part:=(((hS.pv.Q4 Zl).Q4 ZR).ext Ke (Qwd hXa (by omega))).ext Yy (Qwd QJw (by omega))
 have hplen : way.length + part.length ≤ 300000:=by
  rcases hne with h | h
  · have h1:=hS.la h; have h2:=QvZ ha; rw [QFs h] at hla; omega
  · have h1:=hS.lb h; have h2:=QvZ hb; rw [QFs h] at hlb; omega
 have hD7 : DW w w w7 w0.heap.size wv wv way:=⟨BA.mono fun _ _ h => h.elim,hown.Q4 BA,fun b h => .inl h⟩
 have hzz7:=BA.size
 refine hD7.app (by omega) Qmz (by omega) fun v1 w8 hD8 KJ QJk QIm => ?_
 have hz8:=KJ.size
 have hX8:=hX.ext KJ fun hv => Own.neK hD7.own hX (by decide) hv
 have hY8:=hY.ext KJ fun hv => Own.neK hD7.own hY (by decide) hv
 have hA8:=(hA.Q4 BA).ext KJ fun b hb hv => hwF b hv hb
 have hwB : ∀ b,wv.ownBlock = some b → w0.heap.size ≤ b:=fun b hb => (hown.ge hb).1
 have h08 : Ext No w0 w8:=h0.trans hD8.ext fun b hb hv => by have:=hwB b hv; omega
 have QJd : ∀ b,v1.ownBlock = some b → ¬ F b:=fun b hb hf => by
  rcases QJk b hb with h | h
  · exact hwF b h hf
  · have:=(hA.lt b hf).2; omega
 have QHJ : QvT G acc (fun k => Xr k (way ++ part)):=hacc.past fun r hr => by
  rw [hG2,hS.rx.no r hr,hS.ry.no r hr]; rfl
 have hGs : ∀ r,G (way ++ part ++ r) = DR (way ++ part ++ r) (x.get r) (y.get r):=fun r => by
  rw [List.append_assoc,hG2,hS.rx.yes,hS.ry.yes]
 have hxt : ∀ {w' : World},Ext No w0 w' → ∀ t,x = .all t → Tree w' t:=fun e t ht => by
  rcases hS.fx with h | ⟨c,o,h,-⟩
  · rw [h] at ht; injection ht with ht; rw [← ht]; exact ha.tree.Q4 e
  · rw [h] at ht; cases ht
 have hyt : ∀ {w' : World},Ext No w0 w' → ∀ t,y = .all t → Tree w' t:=fun e t ht => by
  rcases hS.fy with h | ⟨c,o,h,-⟩
  · rw [h] at ht; injection ht with ht; rw [← ht]; exact hb.tree.Q4 e
  · rw [h] at ht; cases ht
 have hxo : ∀ c t o,x = .one c t o → t ≠ .nil:=fun c t o ht => by
  rcases hS.fx with h | ⟨c',o',h,-,-,h2⟩
  · rw [h] at ht; cases ht
  · rw [h] at ht; injection ht with _ ht _; rw [← ht]; exact h2
 have hyo : ∀ c t o,y = .one c t o → t ≠ .nil:=fun c t o ht => by
  rcases hS.fy with h | ⟨c',o',h,-,-,h2⟩
  · rw [h] at ht; cases ht
  · rw [h] at ht; injection ht with _ ht _; rw [← ht]; exact h2
 refine xj (fun vs w' => ∃ x1 F1 QHB,vs = [x1] ∧ WA w' w0.heap.size g QHB F1 ∧ QvT G QHB (LSw (way ++ part) 0) ∧ Ext F w8 w' ∧ (∀ b,F1 b → F b ∨ w8.heap.size ≤ b)) ?_ ?_
 · refine hX8.JH (QmC.len _) ?_
   refine hY8.JH (QmC.len _) ?_
   refine (QGQ (x:=x) (y:=y) (Bs.of hD8.own.sl) (by rw [List.length_append]; omega) (hxt h08) (hyt h08) (by omega)).mono ?_
   rintro _ w9 ⟨Ym,kv,c,bb,rfl,Wq,hch⟩
   refine Qz fun cb Dn hcb hC QyM J9 => ?_
   have hC : QZ Dn cb [.slice none 0 0,.int .i64 0,.int .u64 0,.int .u64 0] Q3:=hC
   refine Q9i hC (by kernel_rfl) (Bs.of Wq.sl).R9 rfl rfl rfl fun AL hC QyL K9 => ?_
   have hz9:=Ym.size
   have Gf : Ext No w8 AL:=(Ym.Q0 J9).Z0 K9 (by omega)
   have hg0:=hGs []
   rw [List.append_nil] at hg0
   have hg0 : G (way ++ part) = DR (way ++ part) x.val y.val:=hg0
   cases ht : DR (way ++ part) x.val y.val with
   | none =>
     rw [ht] at hch hg0
     have hch : bb = false:=hch
     subst hch
     refine Qp rfl ?_
     refine ⟨_,F,acc,rfl,hA8.Q4 Gf,QHJ.iff fun k hk => ?_,Gf.mono fun _ _ h => h.elim,fun b h => .inl h⟩
     rw [QEW]
     exact ⟨.inl,fun h => h.elim id fun e => absurd (by rw [e]; exact hg0) hk⟩
   | some d =>
     rw [ht] at hch hg0
     obtain ⟨rfl,rfl⟩ : bb = true ∧ c = d:=hch
     refine Qr rfl ?_
     refine hC.JH rfl ?_
     refine MF ?_
     refine XT (by kernel_rfl) ?_
     have hck:=Qco ht
     have QJp : Own w9 w0.heap.size Qm 1 kv c.key.length (c.key.map bv):=by rw [hck]; exact Wq.mono (by omega)
     have QJn : ∀ b,kv.ownBlock = some b → w8.heap.size ≤ b:=fun b hb => (Wq.ge hb).1
     have QJq : Own AL w0.heap.size Qm 1 kv c.key.length (c.key.map bv):=(QJp.Q4 J9).ext K9 fun b hb e => Own.neK (QJp.Q4 J9) ‹QZ Dn cb _ _› (by decide) (by rw [hb,show b = cb from e])
     have hA11:=hA8.Q4 Gf
     have hz118:=Gf.size
     refine Q6.mono (show Q6 P Qjr [chV kv c,.pointer (some ⟨g,0,none⟩)] AL _ from QID hA11 (by omega) QJq (fun b hb hf => by have:=QJn b hb; have:=(hA8.lt b hf).2; have h9:=(hA.lt b hf).2; omega) (hok _ _ hg0) (Nat.le_trans (hacc.len hD hG) hDl)) ?_
     rintro _ Rw ⟨F1,hA1,JX,QJl⟩
     refine ⟨_,F1,_,rfl,hA1,(QHJ.snoc (c:=c) (by rw [hck]; exact hg0) (fun k hk => by rw [hck]; exact hk)).iff fun k hk => ?_,(Gf.mono fun _ _ h => h.elim).QI JX,fun b hb => ?_⟩
     · rw [QEW,hck]
     · rcases QJl b hb with h | h | h
       · exact .inl h
       · exact .inr (QJn b h)
       · exact .inr (by omega)
 rintro vs gg w9 ⟨x1,F1,QHB,rfl,hA9,QJu,Ym,hF1⟩
 have hz9:=Ym.size
 have hFw : ∀ b,F b → b < w.heap.size:=fun b hb => (hA.lt b hb).2
 have hFB : ∀ b,F b → w0.heap.size ≤ b:=fun b hb => (hA.lt b hb).1
 refine JN (fun n vs w' => ∃ (i : Nat) (x1 x2 x3 x4 x5 x6 x7 : Value) (F' : Nat → Prop) (acc' : List Chg),vs = [.int .i64 i,x1,x2,x3,x4,x5,x6,x7] ∧ n = 257 - i ∧ i ≤ 256 ∧ WA w' w0.heap.size g acc' F' ∧ QvT G acc' (LSw (way ++ part) i) ∧
   Own w' w0.heap.size Qm 1 v1 (way ++ part).length ((way ++ part).map bv) ∧ QZ w' xa x.cells KR ∧ QZ w' ya y.cells KR ∧ Ext (fun b => F b ∨ v1.ownBlock = some b) w8 w' ∧ (∀ b,F' b → F b ∨ w8.heap.size ≤ b)) 257
  ⟨0,_,_,_,_,_,_,_,F1,QHB,rfl,rfl,by omega,hA9,QJu,hD8.own.ext Ym QJd,hX8.ext Ym (fun h => by have:=hFw _ h; omega),hY8.ext Ym (fun h => by have:=hFw _ h; omega),Ym.mono fun _ _ h => .inl h,hF1⟩ ?_
 rintro n vs gg Dn ⟨i,y1,y2,y3,y4,y5,y6,y7,F',acc',rfl,rfl,hi,QJK,QGw,QmF,QEc,QGx,J9,hF'⟩
 unfold Quq
 have QyM:=J9.size
 have QJe : ∀ b,v1.ownBlock = some b → w0.heap.size ≤ b:=fun b hb => (hD8.own.ge hb).1
 have QIx : Ext No w0 Dn:=h08.trans J9 fun b hb h => by
  rcases h with h | h
  · have:=hFB b h; omega
  · have:=QJe b h; omega
 refine QEc.JH (QmC.len _) ?_
 refine (QFz (hxt QIx) hxo hi).mono ?_
 rintro _ AL ⟨⟨z1,t1,o1,b1,rfl,hN1⟩,K9⟩
 refine Qz fun pa Rw hpa hPa QyK JX => ?_
 have hPa : QZ Rw pa [.pointer none,.int .i64 0] KI:=hPa
 refine KD (a:=t1.v) (b:=.int .i64 o1) hPa (by kernel_rfl) rfl rfl fun w13 hPa QyJ XK => ?_
 have QyL:=K9.size
 have Qqk : Ext No Dn w13:=(K9.Q0 JX).Z0 XK (by omega)
 have hX13:=QEc.ext Qqk fun h => h
 have hY13:=QGx.ext Qqk fun h => h
 refine hY13.JH (QmC.len _) ?_
 refine (QFz (hyt (QIx.Q0 Qqk)) hyo hi).mono ?_
 rintro _ w14 ⟨⟨z2,t2,o2,b2,rfl,hN2⟩,UZ⟩
 refine Qz fun pb w15 hpb hPb QJb Db => ?_
 have hPb : QZ w15 pb [.pointer none,.int .i64 0] KI:=hPb
 refine KD (a:=t2.v) (b:=.int .i64 o2) hPb (by kernel_rfl) rfl rfl fun w16 hPb hz16 Q1v => ?_
 have hz14:=UZ.size
 have hzE13:=Qqk.size
 have QFf : Ext No Dn w16:=((Qqk.Q0 UZ).Q0 Db).Z0 Q1v (by omega)
 have hpab : pa < pb:=by omega
 have hPa:=((hPa.ext UZ fun h => h).ext Db fun h => h).ext Q1v fun e => by have e : pa = pb:=e; omega
 have hgn : ∀ d : UInt8,x.Q3A d = .nil → y.Q3A d = .nil → ∀ r,G (way ++ part ++ d :: r) = none:=fun d h1 h2 r => by
  rw [hGs,QmC.get_nil h1,QmC.get_nil h2]; rfl
 have hwv8 : Own w8 w0.heap.size Qm 1 wv way.length (way.map bv):=QIm w8 (Ext.refl _ _) hD8.own
 have cvt : ∀ {w' : World} {v : Value} {p q : Key},Own w' w0.heap.size Qm 1 v (p ++ q).length ((p ++ q).map bv) → Own w' w0.heap.size Qm 1 v (p.length + q.length) (p.map bv ++ q.map bv):=fun h => by rw [List.length_append,List.map_append] at h; exact h
 have QGn : ∀ b,v1.ownBlock = some b → ¬ F' b:=fun b hb hf => by
  rcases hF' b hf with h | h
  · exact QJd b hb h
  · have:=(hD8.own.ge hb).2; omega
 refine xj (fun vs w' => ∃ (x1 x2 x3 : Value) (c : UInt8),vs = [x1,x2,x3,.int .i64 c.toNat] ∧ i ≤ c.toNat ∧ QZ w' pa [(x.Q3A c).v,.int .i64 (x.Qu8 c)] KI ∧ QZ w' pb [(y.Q3A c).v,.int .i64 (y.Qu8 c)] KI ∧ (x.Q3A c ≠ .nil ∨ y.Q3A c ≠ .nil) ∧ (∀ d : UInt8,i ≤ d.toNat → d.toNat < c.toNat → x.Q3A d = .nil ∧ y.Q3A d = .nil) ∧ Ext No Dn w' ∧ w'.heap.size = w16.heap.size) ?_ ?_
 · refine xj (fun vs w' => vs = [.bool (!b1 && !b2)] ∧ w' = w16) ?_ ?_
   · cases b1 with
     | true => exact Qp rfl ⟨rfl,rfl⟩
     | false => exact Qr rfl ⟨by cases b2 <;> rfl,rfl⟩
   rintro vs gg w17 ⟨rfl,rfl⟩
   have goX : ∀ (J : List Value → World → Prop) (x1 x2 x3 : Value) (c : UInt8),z1 = c.toNat → i ≤ z1 → x.Q3A c ≠ .nil → t1 = x.Q3A c → o1 = x.Qu8 c → (∀ d : UInt8,i ≤ d.toNat → d.toNat < z1 → x.Q3A d = .nil) → (∀ d : UInt8,i ≤ d.toNat → d.toNat ≤ z1 → y.Q3A d = .nil) →
     (∀ w',(∃ (x1 x2 x3 : Value) (c : UInt8),[x1,x2,x3,.int .i64 (z1 : Nat)] = [x1,x2,x3,.int .i64 c.toNat] ∧ i ≤ c.toNat ∧ QZ w' pa [(x.Q3A c).v,.int .i64 (x.Qu8 c)] KI ∧ QZ w' pb [(y.Q3A c).v,.int .i64 (y.Qu8 c)] KI ∧ (x.Q3A c ≠ .nil ∨ y.Q3A c ≠ .nil) ∧ (∀ d : UInt8,i ≤ d.toNat → d.toNat < c.toNat → x.Q3A d = .nil ∧ y.Q3A d = .nil) ∧ Ext No Dn w' ∧ w'.heap.size = w17.heap.size) → J [x1,x2,x3,.int .i64 (z1 : Nat)] w') →
     QN [.pointer none,.int .i64 0] [] fun QEM => Yn P (storeVar KI ⟨pb,0,none⟩ (.agg QEM.toArray)) w17 fun Q0w => J [x1,x2,x3,.int .i64 (z1 : Nat)] Q0w:=fun J x1 x2 x3 c e1 e2 e3 e4 e5 e6 e7 k => by
    refine KD (a:=T.nil.v) (b:=.int .i64 (0 : Nat)) hPb (by kernel_rfl) rfl rfl fun w18 hPb2 QHf Qbp => ?_
    have hyn:=e7 c (by omega) (by omega)
    refine k w18 ⟨x1,x2,x3,c,by rw [e1],by omega,?_,?_,.inl e3,fun d h1 h2 => ⟨e6 d h1 (by omega),e7 d h1 (by omega)⟩,QFf.Z0 Qbp (by omega),QHf⟩
    · rw [← e4,← e5]; exact hPa.ext Qbp fun e => by have e : pa = pb:=e; omega
    · rw [hyn,QED hS.fy hyn]; exact hPb2
   have goY : ∀ (J : List Value → World → Prop) (x1 x2 x3 : Value) (c : UInt8),z2 = c.toNat → i ≤ z2 → y.Q3A c ≠ .nil → t2 = y.Q3A c → o2 = y.Qu8 c → (∀ d : UInt8,i ≤ d.toNat → d.toNat < z2 → y.Q3A d = .nil) → (∀ d : UInt8,i ≤ d.toNat → d.toNat ≤ z2 → x.Q3A d = .nil) →
     (∀ w',(∃ (x1 x2 x3 : Value) (c : UInt8),[x1,x2,x3,.int .i64 (z2 : Nat)] = [x1,x2,x3,.int .i64 c.toNat] ∧ i ≤ c.toNat ∧ QZ w' pa [(x.Q3A c).v,.int .i64 (x.Qu8 c)] KI ∧ QZ w' pb [(y.Q3A c).v,.int .i64 (y.Qu8 c)] KI ∧ (x.Q3A c ≠ .nil ∨ y.Q3A c ≠ .nil) ∧ (∀ d : UInt8,i ≤ d.toNat → d.toNat < c.toNat → x.Q3A d = .nil ∧ y.Q3A d = .nil) ∧ Ext No Dn w' ∧ w'.heap.size = w17.heap.size) → J [x1,x2,x3,.int .i64 (z2 : Nat)] w') →
     QN [.pointer none,.int .i64 0] [] fun QEM => Yn P (storeVar KI ⟨pa,0,none⟩ (.agg QEM.toArray)) w17 fun Q0w => J [x1,x2,x3,.int .i64 (z2 : Nat)] Q0w:=fun J x1 x2 x3 c e1 e2 e3 e4 e5 e6 e7 k => by
    refine KD (a:=T.nil.v) (b:=.int .i64 (0 : Nat)) hPa (by kernel_rfl) rfl rfl fun w18 hPa2 QHf Qbp => ?_
    have hxn:=e7 c (by omega) (by omega)
    refine k w18 ⟨x1,x2,x3,c,by rw [e1],by omega,?_,?_,.inr e3,fun d h1 h2 => ⟨e7 d h1 (by omega),e6 d h1 (by omega)⟩,QFf.Z0 Qbp (by omega),QHf⟩
    · rw [hxn,QED hS.fx hxn]; exact hPa2
    · rw [← e4,← e5]; exact hPb.ext Qbp fun e => by have e : pb = pa:=e; omega
   cases hb1 : b1 with
   | false =>
     have n1:=hN1.no hb1
     cases hb2 : b2 with
     | false =>
       have n2:=hN2.no hb2
       refine Qr rfl ?_
       refine ⟨F',acc',QJK.Q4 QFf,QGw.iff fun k hk => ⟨fun h => ?_,fun h => ?_⟩,Own.back hwv8 (cvt hD8.own) (cvt (QmF.Q4 QFf)) (J9.Q0 QFf) (fun b h1 h2 h3 => ?_),(hD8.ext.mono fun _ _ h => .inr h).trans (J9.Q0 QFf) fun b hb h => ?_,fun b hb => ?_⟩
       · rcases h with h | h | ⟨c,r,h,e⟩
         · rcases QDa h with h1 | ⟨r,e,-⟩
           · exact .inl h1
           · exact .inr ⟨r,e.symm⟩
         · exact .inr ⟨part,h.symm⟩
         · exact .inr ⟨part ++ c :: r,by rw [e,List.append_assoc]⟩
       · rcases h with h | ⟨r,rfl⟩
         · exact .inl (Qz6 h)
         · by_cases hp : part <+: r
           · obtain ⟨s,rfl⟩:=hp
             rw [← List.append_assoc] at hk ⊢
             cases s with
             | nil => exact .inr (.inl (by simp))
             | cons c r =>
               by_cases hc : c.toNat < i
               · exact .inr (.inr ⟨c,r,hc,rfl⟩)
               · exact absurd (hgn c (n1 c (by omega)) (n2 c (by omega)) r) hk
           · refine absurd ?_ hk
             rw [hG2,hS.rx.no r hp,hS.ry.no r hp]; rfl
       · rcases h3 with h3 | h3
         · exact hwF b h1 h3
         · exact h2 h3
       · rcases h with h | h
         · exact .inl h
         · rcases hD8.new b h with h | h
           · exact .inr h
           · omega
       · rcases hF' b hb with h | h
         · exact .inl h
         · exact .inr (by omega)
     | true =>
       obtain ⟨c,e1,e2,e3,e4,e5,e6⟩:=hN2.yes hb2
       refine Qp rfl ?_
       refine xj (fun vs w' => vs = [.bool false] ∧ w' = w17) (Qp rfl (Qp rfl ⟨rfl,rfl⟩)) ?_
       rintro vs gg w18 ⟨rfl,rfl⟩
       refine Qp rfl ?_
       refine xj (fun vs w' => vs = [.bool true] ∧ w' = w18) (Qr rfl ⟨rfl,rfl⟩) ?_
       rintro vs gg w19 ⟨rfl,rfl⟩
       refine Qr rfl ?_
       exact goY (fun vs w' => ∃ (x1 x2 x3 : Value) (c : UInt8),vs = [x1,x2,x3,.int .i64 c.toNat] ∧ i ≤ c.toNat ∧ QZ w' pa [(x.Q3A c).v,.int .i64 (x.Qu8 c)] KI ∧ QZ w' pb [(y.Q3A c).v,.int .i64 (y.Qu8 c)] KI ∧ (x.Q3A c ≠ .nil ∨ y.Q3A c ≠ .nil) ∧ (∀ d : UInt8,i ≤ d.toNat → d.toNat < c.toNat → x.Q3A d = .nil ∧ y.Q3A d = .nil) ∧ Ext No Dn w' ∧ w'.heap.size = w19.heap.size) _ _ _ c e1 e2 e3 e4 e5 e6 (fun d h1 h2 => n1 d h1) fun w' h => by obtain ⟨_,_,_,c,e,h⟩:=h; exact ⟨_,_,_,c,by injection e with _ e; injection e with _ e; injection e with _ e; rw [e],h⟩
   | true =>
     obtain ⟨c1,e1,e2,e3,e4,e5,e6⟩:=hN1.yes hb1
     cases hb2 : b2 with
     | false =>
       have n2:=hN2.no hb2
       refine Qp rfl ?_
       refine xj (fun vs w' => vs = [.bool true] ∧ w' = w17) (Qr rfl ⟨rfl,rfl⟩) ?_
       rintro vs gg w18 ⟨rfl,rfl⟩
       refine Qr rfl ?_
       exact goX (fun vs w' => ∃ (x1 x2 x3 : Value) (c : UInt8),vs = [x1,x2,x3,.int .i64 c.toNat] ∧ i ≤ c.toNat ∧ QZ w' pa [(x.Q3A c).v,.int .i64 (x.Qu8 c)] KI ∧ QZ w' pb [(y.Q3A c).v,.int .i64 (y.Qu8 c)] KI ∧ (x.Q3A c ≠ .nil ∨ y.Q3A c ≠ .nil) ∧ (∀ d : UInt8,i ≤ d.toNat → d.toNat < c.toNat → x.Q3A d = .nil ∧ y.Q3A d = .nil) ∧ Ext No Dn w' ∧ w'.heap.size = w18.heap.size) _ _ _ c1 e1 e2 e3 e4 e5 e6 (fun d h1 h2 => n2 d h1) fun w' h => by obtain ⟨_,_,_,c,e,h⟩:=h; exact ⟨_,_,_,c,by injection e with _ e; injection e with _ e; injection e with _ e; rw [e],h⟩
     | true =>
       obtain ⟨c2,f1,f2,f3,f4,f5,f6⟩:=hN2.yes hb2
       refine Qp rfl ?_
       refine xj (fun vs w' => vs = [.bool (decide ((z1 : Int) < z2))] ∧ w' = w17) (Qp rfl (Qr rfl ⟨rfl,rfl⟩)) ?_
       rintro vs gg w18 ⟨rfl,rfl⟩
       refine ZF (fun hlt => ?_) fun hlt => ?_
       · exact goX (fun vs w' => ∃ (x1 x2 x3 : Value) (c : UInt8),vs = [x1,x2,x3,.int .i64 c.toNat] ∧ i ≤ c.toNat ∧ QZ w' pa [(x.Q3A c).v,.int .i64 (x.Qu8 c)] KI ∧ QZ w' pb [(y.Q3A c).v,.int .i64 (y.Qu8 c)] KI ∧ (x.Q3A c ≠ .nil ∨ y.Q3A c ≠ .nil) ∧ (∀ d : UInt8,i ≤ d.toNat → d.toNat < c.toNat → x.Q3A d = .nil ∧ y.Q3A d = .nil) ∧ Ext No Dn w' ∧ w'.heap.size = w18.heap.size) _ _ _ c1 e1 e2 e3 e4 e5 e6 (fun d h1 h2 => f6 d h1 (by omega)) fun w' h => by obtain ⟨_,_,_,c,e,h⟩:=h; exact ⟨_,_,_,c,by injection e with _ e; injection e with _ e; injection e with _ e; rw [e],h⟩
       refine xj (fun vs w' => vs = [.bool (decide ((z2 : Int) < z1))] ∧ w' = w18) (Qp rfl ⟨rfl,rfl⟩) ?_
       rintro vs gg w19 ⟨rfl,rfl⟩
       refine ZF (fun hgt => ?_) fun hgt => ?_
       · exact goY (fun vs w' => ∃ (x1 x2 x3 : Value) (c : UInt8),vs = [x1,x2,x3,.int .i64 c.toNat] ∧ i ≤ c.toNat ∧ QZ w' pa [(x.Q3A c).v,.int .i64 (x.Qu8 c)] KI ∧ QZ w' pb [(y.Q3A c).v,.int .i64 (y.Qu8 c)] KI ∧ (x.Q3A c ≠ .nil ∨ y.Q3A c ≠ .nil) ∧ (∀ d : UInt8,i ≤ d.toNat → d.toNat < c.toNat → x.Q3A d = .nil ∧ y.Q3A d = .nil) ∧ Ext No Dn w' ∧ w'.heap.size = w19.heap.size) _ _ _ c2 f1 f2 f3 f4 f5 f6 (fun d h1 h2 => e6 d h1 (by omega)) fun w' h => by obtain ⟨_,_,_,c,e,h⟩:=h; exact ⟨_,_,_,c,by injection e with _ e; injection e with _ e; injection e with _ e; rw [e],h⟩
       · have ec : c1 = c2:=UInt8.toNat_inj.1 (by omega)
         subst ec
         refine ⟨_,_,_,c1,by rw [e1],by omega,?_,?_,.inl e3,fun d h1 h2 => ⟨e6 d h1 (by omega),f6 d h1 (by omega)⟩,QFf,rfl⟩
         · rw [← e4,← e5]; exact hPa
         · rw [← f4,← f5]; exact hPb
 clear hPa hPb
 rintro vs gg w17 ⟨q1,q2,q3,c,rfl,hic,hPa,hPb,hkn,hmin,hE17,hz17⟩
 have hc256:=MV c
 refine xi (r:=(c.toNat : Int)) (Rv (by omega)) ?_
 have QJE:=hPa.drew
 have QJC:=hPb.drew
 refine QJE.JH rfl ?_
 refine QJC.JH rfl ?_
 show Qs w17.drew [bv c] Qm _
 refine Qz fun nb w18 hnb hNb QHf Qbp => ?_
 have QGz:=QJE.ext Qbp fun h => h
 have QGy:=QJC.ext Qbp fun h => h
 refine ⟨J6 QGy,J6 QGz,?_⟩
 have QFX : Ext No Dn w18:=hE17.drew.Q0 Qbp
 have hz1810:=QFX.size
 have QEb:=QmF.Q4 QFX
 have hD18 : DW w18 w18 w18 w0.heap.size v1 v1 (way ++ part):=⟨Ext.refl _ _,QEb,fun b h => .inl h⟩
 have hcb : Bs w18 (.slice (some ⟨nb,0,none⟩) 1 1) [c]:=Bs.of (hNb.sln rfl)
 refine hD18.app (by omega) hcb (by simp; omega) fun v3 w19 QHq Qga QGq QHm => ?_
 have hz19:=Qga.size
 have QJF:=QGz.ext Qga fun hv => Own.neK QEb QGz (by decide) hv
 have QJD:=QGy.ext Qga fun hv => Own.neK QEb QGy (by decide) hv
 refine ⟨J6 QJD,J6 QJF,?_⟩
 have QJJ:=QJK.Q4 QFX
 have hA19:=QJJ.ext Qga fun b hb hv => QGn b hv hb
 have h019 : Ext No w0 w19:=(QIx.Q0 QFX).trans Qga fun b hb hv => by have:=QJe b hv; omega
 have hv3F : ∀ b,v3.ownBlock = some b → ¬ F' b:=fun b hb hf => by
  rcases QGq b hb with h | h
  · exact QGn b h hf
  · have:=(QJJ.lt b hf).2; omega
 have hmx : x.Q3A c = .nil → mu (x.Q3A c) (x.Qu8 c) = 0:=QFt
 have hmy : y.Q3A c = .nil → mu (y.Q3A c) (y.Qu8 c) = 0:=QFt
 have hkx : x.Q3A c ≠ .nil → part.length + 1 + mu (x.Q3A c) (x.Qu8 c) ≤ mu a oa:=QGl hS.fx ha hS.la
 have hky : y.Q3A c ≠ .nil → part.length + 1 + mu (y.Q3A c) (y.Qu8 c) ≤ mu b ob:=QGl hS.fy hb hS.lb
 have hb1 : mu (x.Q3A c) (x.Qu8 c) + mu (y.Q3A c) (y.Qu8 c) < M ∧ way.length + part.length + 1 + mu (x.Q3A c) (x.Qu8 c) ≤ 300000 ∧ way.length + part.length + 1 + mu (y.Q3A c) (y.Qu8 c) ≤ 300000:=by
  by_cases e1 : x.Q3A c = .nil
  · have:=hmx e1
    have h2:=hky (hkn.resolve_left fun h => h e1)
    omega
  · have h1:=hkx e1
    by_cases e2 : y.Q3A c = .nil
    · have:=hmy e2; omega
    · have:=hky e2; omega
 refine (ih (way:=way ++ part ++ [c]) hb1.1 (QGm hS.fx ha) (QGm hS.fy hb) h019 QHq.own hv3F hA19 (QGw.iff fun k hk => ?_) (fun r => ?_) (by simp; omega) (by simp; omega)).mono ?_
 · rw [QGW]
   constructor
   · rintro (h | h | ⟨d,r,h,e⟩)
     · exact .inl h
     · exact .inr (.inl h)
     · exact .inr (.inr ⟨d,r,by omega,e⟩)
   · rintro (h | h | ⟨d,r,h,e⟩)
     · exact .inl h
     · exact .inr (.inl h)
     · by_cases hd : d.toNat < i
       · exact .inr (.inr ⟨d,r,hd,e⟩)
       · obtain ⟨g1,g2⟩:=hmin d (by omega) h
         exact absurd (by rw [e]; exact hgn d g1 g2 r) hk
 · rw [List.append_assoc,List.singleton_append,hGs]; rfl
 rintro _ w20 ⟨F2,acc2,hA20,QIo,QIj,QmY,hF2⟩
 have hz20:=QmY.size
 refine xi (r:=((c.toNat + 1 : Nat) : Int)) (by rw [QQ (by omega)]; omega) ?_
 have QJf : Own w19 w0.heap.size Qm 1 v1 (way ++ part).length ((way ++ part).map bv):=QHm w19 (Ext.refl _ _) QHq.own
 have hsd : ∀ (bb : Nat) (cs : List Value),w.heap.size ≤ bb → bb < w8.heap.size → QZ Dn bb cs KR → QZ w20 bb cs KR:=fun bb cs h1 h2 h3 => by
  have h18:=h3.ext QFX fun h => h
  have h19:=h18.ext Qga fun hv => Own.neK QEb h18 (by decide) hv
  refine h19.ext QmY fun hh => ?_
  rcases hh with hh | hh
  · rcases hF' bb hh with h | h
    · have:=hFw bb h; omega
    · omega
  · exact Own.neK QHq.own h19 (by decide) hh
 have hxlt:=hX8.lt
 have hylt:=hY8.lt
 refine JP (257 - (c.toNat + 1)) (by omega) ⟨c.toNat + 1,_,_,_,_,_,_,_,F2,acc2,rfl,rfl,by omega,hA20,QIo.iff fun k hk => QGV,Own.back QJf (cvt QHq.own) (cvt QIj) QmY (fun b h1 h2 h3 => ?_),hsd _ _ (by omega) hxlt QEc,hsd _ _ (by omega) hylt QGx,?_,fun b hb => ?_⟩
 · rcases h3 with h3 | h3
   · exact QGn b h1 h3
   · exact h2 h3
 · refine ((J9.Q0 QFX).trans Qga fun b _ hv => .inr hv).trans QmY fun b hb h => ?_
   rcases h with h | h
   · rcases hF' b h with h | h
     · exact .inl h
     · omega
   · rcases QGq b h with h | h
     · exact .inr h
     · omega
 · rcases hF2 b hb with h | h
   · exact hF' b h
   · exact .inr (by omega)
theorem Qpl {l m : Kv} (ha : Ct w a l) (hl : Pr l) (hb : Ct w b m) (hm : Pr m) (hll : l.length + m.length ≤ 100000) (hfl : Floor.n ≤ w.heap.size) (hv : ∀ p ∈ l,p.2 < 18446744073709551616) (hv' : ∀ p ∈ m,p.2 < 18446744073709551616) :
  Q6 P Qf8 [a.v,b.v] w fun r w' => Cs w' r (ofC l m) ∧ Ext No w w':=by
 refine QFm ?_
 refine Qz fun g w1 hg hgb hz1 he1 => ?_
 have hgb : QZ w1 g [.slice none 0 0] Qha:=hgb
 have hla:=ha.long hl
 have hlb:=hb.long hm
 have ga : Wv w a 0:=⟨ha.tree,ha.can.fine,ha.QR,by omega,Nat.zero_le _⟩
 have gb : Wv w b 0:=⟨hb.tree,hb.can.fine,hb.QR,by omega,Nat.zero_le _⟩
 have hmu : ∀ t : T,mu t 0 ≤ t.er.long + 1:=fun t => by cases t with
  | nil => exact Nat.zero_le _
  | node => exact Nat.le_refl _
 have h1:=hmu a
 have h2:=hmu b
 have hA1 : WA w1 w.heap.size g [] (· = g):=⟨⟨_,[],hgb,Own.nil _ _ _ 4,CCo.nil _ _,fun b h => (by cases h),fun kv h => (by cases h)⟩,rfl,fun b h => by have h : b = g:=h; omega⟩
 refine Q6.mono (show Q6 P Qfc [.slice none 0 0,plV a (0 : Nat),plV b (0 : Nat),ofF g] w1 _ from QIA (w0:=w) (G:=fun k => DR k (look l k) (look m k)) (D:=ofC l m) hfl (Q97 hl.rises) (fun k => Q9t hl.rises k) (Nat.le_trans Qg5 (by omega)) (fun k c h => ?_) _ (Nat.lt_succ_self _) ga gb he1 (way:=[]) (Own.nil _ _ _ 1) (fun b h => by cases h) hA1 ⟨List.Pairwise.nil,fun k => ⟨fun h => ?_,fun _ => rfl⟩⟩ (fun r => ?_) (by simp; omega) (by simp; omega)) ?_
 · have z0 : (0 : Nat) < 18446744073709551616:=by omega
   cases h1 : look l k with
   | none =>
     cases h2 : look m k with
     | none => rw [h1,h2] at h; cases h
     | some y => rw [h1,h2] at h; rw [← Option.some.inj h]; exact ⟨z0,hv' _ (Ez h2)⟩
   | some x =>
     cases h2 : look m k with
     | none => rw [h1,h2] at h; rw [← Option.some.inj h]; exact ⟨hv _ (Ez h1),z0⟩
     | some y =>
       rw [h1,h2] at h
       simp only [DR] at h
       split at h
       · cases h
       · rw [← Option.some.inj h]; exact ⟨hv _ (Ez h1),hv' _ (Ez h2)⟩
 · refine absurd (show Xr ([] ++ k) [] from h) QAn
 · show DR ([] ++ r) _ _ = _
   rw [Xq,Xq,List.nil_append,← ha.can.get r,← hb.can.get r]
 rintro _ w2 ⟨F',acc',hA2,QJv,-,he2,-⟩
 obtain ⟨av,cells,hgb2,hav,hcc,-,-⟩:=hA2.ex
 refine hgb2.ld (o:=0) (v:=av) rfl ?_
 have e : acc' = ofC l m:=QJv.all (fun k => .inr List.nil_prefix) (Q97 hl.rises) fun k => Q9t hl.rises k
 subst e
 refine ⟨⟨Q3,cells,.inl rfl,hav.sl.weak fun _ _ h => .inl h,hcc.cc⟩,he1.trans he2 fun b hb h => ?_⟩
 rcases h with h | h
 · have h : b = g:=h; omega
 · cases h
end
end Go.Proofs.YtbnhggfiembejaaGreatDoor
end
