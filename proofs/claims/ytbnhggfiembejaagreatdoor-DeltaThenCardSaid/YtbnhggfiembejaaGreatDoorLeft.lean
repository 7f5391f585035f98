import Derived.Test.YtbnhggfiembejaaGreatDoorUni
import Derived.Test.YtbnhggfiembejaaGreatDoorConcat
import Derived.Test.YtbnhggfiembejaaGreatDoorDet
section
namespace Go.Proofs.YtbnhggfiembejaaGreatDoor
open Go Go.RowKit X
set_option linter.unusedSimpArgs false
set_option linter.unusedVariables false
set_option linter.unusedSectionVars false
def Xi (l : List (UInt8 × T)) (c : UInt8) : T:=match l.find? (fun p => p.1 == c) with | some p => p.2 | none => .nil
def UpK (l : List (UInt8 × T)) : Prop:=l.Pairwise fun p q => p.1.toNat < q.1.toNat
theorem Q01 {l : List (UInt8 × T)} {p : UInt8 × T} (h : ∀ q ∈ l,q.1 ≠ p.1) : Xi (l ++ [p]) = Zt (Xi l) p.1 p.2:=by
 funext c
 unfold Xi Zt
 rw [List.find?_append]
 by_cases e : c = p.1
 · subst e
   have : l.find? (fun q => q.1 == p.1) = none:=List.find?_eq_none.2 fun q hq => by simpa using h q hq
   rw [this]; simp
 · have : [p].find? (fun q => q.1 == c) = none:=List.find?_eq_none.2 fun q hq => by rw [List.mem_singleton.1 hq]; simpa using fun h => e h.symm
   rw [this,if_neg e]; simp
theorem Ca {l : List (UInt8 × T)} {c : UInt8} (h : Xi l c ≠ .nil) : ∃ p ∈ l,p.1 = c ∧ Xi l c = p.2:=by
 unfold Xi at h ⊢
 cases hf : l.find? (fun p => p.1 == c) with
 | none => rw [hf] at h; exact absurd rfl h
 | some p => exact ⟨p,List.mem_of_find?_eq_some hf,by simpa using List.find?_some hf,rfl⟩
variable [Floor]
structure LK (w : World) (v : Value) (l : List (UInt8 × T)) : Prop where
 row : ∃ cells,Sl w (tyQ J5) v 2 l.length cells ∧ ∀ (i : Nat) (p : UInt8 × T),l[i]? = some p → cells[i * 2]? = some (bv p.1) ∧ cells[i * 2 + 1]? = some p.2.v
 tree : ∀ p ∈ l,Tree w p.2
 some : ∀ p ∈ l,p.2 ≠ .nil
 up : UpK l
 len : l.length ≤ 256
section
variable {w w' : World} {v : Value} {l : List (UInt8 × T)} {mt : Option Y3} {n o : Nat}
theorem LK.ext {X : Nat → Prop} (h : LK w v l) (e : Ext X w w') (hx : NBT J5 w X) (ht : ∀ p ∈ l,Tree w' p.2) : LK w' v l:=by
 obtain ⟨cells,h1,h2⟩:=h.row
 exact ⟨⟨cells,h1.Q1y e fun b hb hl => by obtain ⟨-,cs,T',h3,h4⟩:=hx b hb hl; exact ⟨cs,T',h3,h4⟩,h2⟩,ht,h.some,h.up,h.len⟩
theorem LK.YL (h : LK w v l) (hm : Mt w mt n) (e : Ext (MX mt) w w') : LK w' v l:=h.ext e (hm.nbt (by decide)) fun p hp => (h.tree p hp).YL hm e
theorem LK.Q4 (h : LK w v l) (e : Ext No w w') : LK w' v l:=h.ext e (NBT.no _ w) fun p hp => (h.tree p hp).Q4 e
theorem Vn {t : T} (h : t ≠ .nil) {K : Value → Prop} (k : K (.bool false)) : YV P w t.v (.pointer none) K:=by
 cases t with
 | nil => exact absurd rfl h
 | node => exact k
theorem LK.rd (h : LK w v l) (i : Nat) (hi : i < l.length) {K : Addr → World → Prop} (k : ∀ b w',QZ w' b [bv l[i].1,l[i].2.v] J5 → Ext No w w' → w.heap.size ≤ b → K ⟨b,0,none⟩ w') :
  Zb v (.int .i64 i) 2 fun u => Z6 u fun a => Qo w a 2 fun y => Qs w [.int .u8 0,.pointer none] J5 fun b w1 => Yn P (storeVar J5 b y) w1 fun w2 => K b w2:=by
 obtain ⟨cells,h1,h2⟩:=h.row
 obtain ⟨h3,h4⟩:=h2 i l[i] (List.getElem?_eq_getElem hi)
 have h5 : (cells.drop (i * 2)).take 2 = [bv l[i].1,l[i].2.v]:=by
  apply List.ext_getElem?
  intro j
  rw [List.getElem?_take]
  match j with
  | 0 => rw [if_pos (by omega),List.getElem?_drop]; exact h3
  | 1 => rw [if_pos (by omega),List.getElem?_drop]; exact h4
  | j + 2 => rw [if_neg (by omega)]; rfl
 refine h1.rdN i rfl hi ?_
 rw [h5]
 refine Qz fun b w1 hb hblk hz he1 => ?_
 refine JW hblk (by kernel_rfl) (by simp) ?_ fun w2 hb2 hz2 he2 => ?_
 · intro u hu
   simp only [List.mem_cons,List.mem_nil_iff,or_false] at hu
   rcases hu with rfl | rfl
   · rfl
   · rfl
 exact k b w2 (by simpa using hb2) (he1.Z0 he2 (by omega)) (by omega)
section
variable {a ow : Nat} {part : Key} {v0 val : Option Nat} {ks : List Nat} {kids : UInt8 → T} {x : Nat}
structure Q3x (w w' : World) (t : T) (l : List (UInt8 × T)) (e : E) (o : Nat) (t' : T) (mt : Option Y3) (n n' : Nat) : Prop where
 tree : Tree w' t'
 er : t'.er = e
 QR : t'.ZJ
 own : ∀ q : Nat → Prop,q o → t.OwQ q → (∀ p ∈ l,p.2.OwQ q) → t'.OwQ q
 all : ∀ b,t'.All b → t.All b ∨ (∃ p ∈ l,p.2.All b) ∨ w.heap.size ≤ b
 cnt : Mt w' mt n'
 le : n' ≤ n + 1
 ext : Ext (MX mt) w w'
end
end
end Go.Proofs.YtbnhggfiembejaaGreatDoor
end
section
namespace Go.Proofs.YtbnhggfiembejaaGreatDoor
open Go Go.RowKit X
set_option linter.unusedSimpArgs false
set_option linter.unusedVariables false
set_option linter.unusedSectionVars false
variable [Floor]
def RK (w : World) (v : Value) (l : List (UInt8 × T)) : Prop:=∃ cells,Sl w (tyQ J5) v 2 l.length cells ∧ ∀ (i : Nat) (p : UInt8 × T),l[i]? = some p → cells[i * 2]? = some (bv p.1) ∧ cells[i * 2 + 1]? = some p.2.v
section
variable {w w' : World} {v : Value} {l : List (UInt8 × T)} {o : Nat} {t : T}
theorem RK.Q4 (h : RK w v l) (e : Ext No w w') : RK w' v l:=let ⟨cells,h1,h2⟩:=h; ⟨cells,h1.Q4 e,h2⟩
theorem RK.nil : RK w (.slice none 0 0) []:=⟨[],Sl.nil,fun i p h => by simp at h⟩
theorem RK.rd (h : RK w v l) (i : Nat) (hi : i < l.length) {K : Addr → World → Prop} (k : ∀ b w',QZ w' b [bv l[i].1,l[i].2.v] J5 → Ext No w w' → K ⟨b,0,none⟩ w') :
  Zb v (.int .i64 i) 2 fun u => Z6 u fun a => Qo w a 2 fun y => Qs w [.int .u8 0,.pointer none] J5 fun b w1 => Yn P (storeVar J5 b y) w1 fun w2 => K b w2:=by
 obtain ⟨cells,h1,h2⟩:=h
 obtain ⟨h3,h4⟩:=h2 i l[i] (List.getElem?_eq_getElem hi)
 have h5 : (cells.drop (i * 2)).take 2 = [bv l[i].1,l[i].2.v]:=by
  apply List.ext_getElem?
  intro j
  rw [List.getElem?_take]
  match j with
  | 0 => rw [if_pos (by omega),List.getElem?_drop]; exact h3
  | 1 => rw [if_pos (by omega),List.getElem?_drop]; exact h4
  | j + 2 => rw [if_neg (by omega)]; rfl
 refine h1.rdN i rfl hi ?_
 rw [h5]
 refine Qz fun b w1 hb hblk hz he1 => ?_
 refine JW hblk (by kernel_rfl) (by simp) ?_ fun w2 hb2 hz2 he2 => ?_
 · intro u hu
   simp only [List.mem_cons,List.mem_nil_iff,or_false] at hu
   rcases hu with rfl | rfl
   · rfl
   · rfl
 exact k b w2 (by simpa using hb2) (he1.Z0 he2 (by omega))
end
end Go.Proofs.YtbnhggfiembejaaGreatDoor
end
