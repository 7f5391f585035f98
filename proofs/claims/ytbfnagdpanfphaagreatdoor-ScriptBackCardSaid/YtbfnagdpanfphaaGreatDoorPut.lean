/-  put: what it makes, and writes.  -/
import Derived.Test.YtbfnagdpanfphaaGreatDoorCanon
import Derived.Test.YtbfnagdpanfphaaGreatDoorMap
import Derived.LaidEql
namespace Go.Proofs.YtbfnagdpanfphaaGreatDoor
open Go Go.RowKit X
set_option linter.unusedSimpArgs false
set_option linter.unusedVariables false
set_option linter.unusedSectionVars false
variable [Floor]

abbrev putV (x o : Nat) (mt : Option Mtr) : Value := .agg #[.int .u64 x, .int .u64 o, mv mt]
abbrev putC (x o : Nat) (mt : Option Mtr) : List Value := [.int .u64 x, .int .u64 o, mv mt]
/-- every node's owner is one of these -/
def T.OwQ (q : Nat → Prop) : T → Prop
  | .nil => True
  | .node _ ow _ _ _ kids => q ow ∧ ∀ c, (kids c).OwQ q
theorem T.Owned.q {o : Nat} : ∀ {t : T}, t.Owned o → t.OwQ (· = o) := by
  intro t
  induction t with
  | nil => intro _; trivial
  | node a ow part val ks kids ih => rintro ⟨h1, h2⟩; exact ⟨h1, fun c => ih c (h2 c)⟩
theorem T.OwQ.mono {q q' : Nat → Prop} (hq : ∀ o, q o → q' o) : ∀ {t : T}, t.OwQ q → t.OwQ q' := by
  intro t
  induction t with
  | nil => intro _; trivial
  | node a ow part val ks kids ih => rintro ⟨h1, h2⟩; exact ⟨hq _ h1, fun c => ih c (h2 c)⟩
theorem T.OwQ.free {o : Nat} : ∀ {t : T}, t.OwQ (· ≠ o) → t.Free o := by
  intro t
  induction t with
  | nil => intro _; trivial
  | node a ow part val ks kids ih => rintro ⟨h1, h2⟩; exact ⟨h1, fun c => ih c (h2 c)⟩
theorem Tree.not {w : World} {t : T} {b : Nat} {cs : List Value} {T : TypeId} (h : Tree w t) (hb : Blk w b cs T) (ho : Oth T) : ¬ t.All b := fun hc => by
  obtain ⟨cs', T', h1, h2⟩ := h.ty hc
  exact ho.nt h2 (h1.inj hb).2
theorem Tree.nbX {w : World} {t : T} {X : Nat → Prop} (h : Tree w t) (hx : ∀ b, X b → t.All b) : NB w X := fun b hb _ => by
  obtain ⟨cs, T', h1, h2⟩ := h.ty (hx b hb)
  exact ⟨h.fl (hx b hb), cs, T', h1, (NT.ne h2).1⟩
theorem Res.from' {w w1 w2 : World} {o n : Nat} {t t' : T} {mt : Option Mtr} (he : Ext No w w1) (h : Res w1 w2 o t t' mt n) : Res w w2 o t t' mt n := by
  have := he.size
  exact ⟨h.tree, (he.mono fun _ _ h => h.elim).transS h.ext, h.cnt, fun b hb => (h.all b hb).imp id fun h => by omega, fun b hb => (h.foot b hb).imp id fun h => by omega, h.sep⟩
theorem Bs.rdK {w : World} {v : Value} {bs : Key} {K : Value → Value → Prop} {kd : IntKind} {i : Int} (h : Bs w v bs) (m : Nat) (hm : m < bs.length) (hi : i = (m : Int)) (k : ∀ p, (∀ w', Bs w' v bs → xKeep1 w' p (bv bs[m])) → K p (bv bs[m])) :
    xIxS v (.int kd i) 1 fun u => xAt u fun a => XLd w a fun x => K u x := by
  have key : ∀ w', Bs w' v bs → ∃ a cap, v = .slice (some a) bs.length cap ∧ w'.cell? (a.add (m * 1)) = some (bv bs[m]) := by
    intro w' h1
    obtain ⟨a, cap, rfl, hc⟩ := Sl.cell h1 hm (Nat.zero_lt_one)
    refine ⟨a, cap, rfl, ?_⟩
    simp only [Nat.mul_one, Nat.add_zero, Addr.add_zero'] at hc ⊢
    rw [hc]; simp [hm]
  obtain ⟨a, cap, rfl, hc⟩ := key w h
  refine ⟨m, hi, hm, ⟨_, hc, k _ fun w' h' => ?_⟩⟩
  obtain ⟨a', cap', e, hc'⟩ := key w' h'
  simp only [Value.slice.injEq, Option.some.injEq] at e
  obtain ⟨rfl, -, rfl⟩ := e
  exact hc'
/-- whose the top node is -/
def T.Top (o : Nat) : T → Prop
  | .nil => False
  | .node _ ow _ _ _ _ => ow = o
/-- how many nodes are not the owner's -/
def T.pot (o : Nat) : T → Nat
  | .nil => 0
  | .node _ ow _ _ _ kids => (byt.map fun c => (kids c).pot o).sum + (if ow = o then 0 else 1)
abbrev pots (o : Nat) (kids : UInt8 → T) : Nat := (byt.map fun c => (kids c).pot o).sum
theorem pot_node {o a ow : Nat} {part : Key} {val : Option Nat} {ks : List Nat} {kids : UInt8 → T} : (T.node a ow part val ks kids).pot o = pots o kids + (if ow = o then 0 else 1) := by rw [T.pot]
theorem pots_upd (o : Nat) (kids : UInt8 → T) (b : UInt8) (t : T) : pots o (updT kids b t) + (kids b).pot o = pots o kids + t.pot o := by
  have := sum_upd (Rise.nodup byt_sorted) (byt_mem b) (fun c => (kids c).pot o) (t.pot o)
  have e : (byt.map fun c => (updT kids b t c).pot o) = byt.map fun c => if c = b then t.pot o else (kids c).pot o := by
    refine List.map_congr_left fun c _ => ?_
    unfold updT; split <;> rfl
  show (byt.map fun c => (updT kids b t c).pot o).sum + _ = _
  rw [e]; exact this
theorem pots_no (o : Nat) : pots o (fun _ => T.nil) = 0 := by
  have : ∀ l : List UInt8, (l.map fun _ => (T.nil).pot o).sum = 0 := by
    intro l
    induction l with
    | nil => rfl
    | cons a r ih => rw [List.map_cons, List.sum_cons, ih]; rfl
  exact this byt
theorem leaf_pot {o a : Nat} {p : Key} {v : Option Nat} : (T.node a o p v [] fun _ => .nil).pot o = 0 := by rw [pot_node, pots_no, if_pos rfl]
theorem pots_kid (o : Nat) (kids : UInt8 → T) (c : UInt8) : (kids c).pot o ≤ pots o kids := by
  have := pots_upd o kids c .nil
  have : (T.nil).pot o = 0 := rfl
  omega
/-- all nodes on the way to a key are the owner's -/
def T.Way (o : Nat) : T → Key → Prop
  | .nil, _ => True
  | .node _ ow part _ _ kids, k => ow = o ∧ ∀ c r, k = part ++ c :: r → (kids c).Way o r
/-- what is not the owner's has nothing of it below -/
def T.Up (o : Nat) : T → Prop
  | .nil => True
  | .node _ ow _ _ _ kids => (ow = o ∨ ∀ c, (kids c).Free o) ∧ ∀ c, (kids c).Up o
theorem T.Free.up {o : Nat} : ∀ {t : T}, t.Free o → t.Up o := by
  intro t
  induction t with
  | nil => intro _; trivial
  | node a ow part val ks kids ih => rintro ⟨-, h⟩; exact ⟨.inr h, fun c => ih c (h c)⟩
theorem key_here {p r : Key} {c : UInt8} (h : p = p ++ c :: r) : False := by
  have := congrArg List.length h
  simp at this
theorem key_cons {p r r' : Key} {c c' : UInt8} (h : p ++ c :: r = p ++ c' :: r') : c = c' ∧ r = r' := by simpa using h
/-- a node that is not the owner's is not written to -/
theorem same_top {w w' : World} {o n : Nat} {t1 t2 : T} {mt : Option Mtr} (h1 : Tree w t1) (h2 : Tree w' t2) (hm : Mt w mt n) (he : Ext (fun b => MX mt b ∨ t1.Foot o b) w w') (hf : t1.Free o) (hp : t2.ptr = t1.ptr) (ht : t2.Top o) : False := by
  cases t2 with
  | nil => exact ht
  | node a2 ow2 p2 v2 ks2 kids2 =>
    have ht : ow2 = o := ht
    cases t1 with
    | nil => cases hp
    | node a1 ow1 p1 v1 ks1 kids1 =>
      obtain rfl : a2 = a1 := by simpa [T.ptr] using hp
      obtain ⟨pv1, hb1, -⟩ := h1.1.blk
      obtain ⟨pv2, hb2, -⟩ := h2.1.blk
      have hb1' := hb1.ext he fun hx => hx.elim (hm.ne hb1 (by decide)) (hf.foot _)
      have e := (hb1'.inj hb2).1
      simp only [List.cons.injEq, Value.int.injEq, true_and] at e
      exact hf.1 (by have := e.1; omega)
/-- what an operation by a key leaves where it was: all but the way of the key -/
def T.Sh : T → T → Key → Prop
  | .nil, _, _ => True
  | .node a _ part _ _ kids, t', k => t'.ptr = some ⟨a, 0, none⟩ ∨ ∀ a' ow' val' ks' kids', t' = .node a' ow' part val' ks' kids' → cnt (ptrs kids') = cnt (ptrs kids) → (∀ d, (∀ r, k ≠ part ++ d :: r) → kids' d = kids d) ∧ ∀ d r, k = part ++ d :: r → T.Sh (kids d) (kids' d) r
theorem T.Sh.refl {t : T} {k : Key} : t.Sh t k := by
  cases t with
  | nil => exact trivial
  | node => exact .inl rfl
theorem T.Sh.none {t : T} {k : Key} : t.Sh .nil k := by
  cases t with
  | nil => exact trivial
  | node => exact .inr fun _ _ _ _ _ e => by cases e
section
variable {a ow a' ow' : Nat} {part part' : Key} {val val' : Option Nat} {ks ks' : List Nat} {kids kids' : UInt8 → T} {k : Key}
theorem T.Sh.ofPart (h : part' ≠ part) : (T.node a ow part val ks kids).Sh (.node a' ow' part' val' ks' kids') k := .inr fun _ _ _ _ _ e => by
  injection e with _ _ h1
  exact absurd h1 h
theorem T.Sh.ofKids : (T.node a ow part val ks kids).Sh (.node a' ow' part val' ks' kids) k := .inr fun _ _ _ _ _ e _ => by
  injection e with _ _ _ _ _ h1
  subst h1
  exact ⟨fun _ _ => rfl, fun _ _ _ => T.Sh.refl⟩
theorem T.Sh.ofCnt (h : X.cnt (ptrs kids') ≠ X.cnt (ptrs kids)) : (T.node a ow part val ks kids).Sh (.node a' ow' part' val' ks' kids') k := .inr fun _ _ _ _ _ e hc => by
  injection e with _ _ _ _ _ h1
  subst h1
  exact absurd hc h
theorem T.Sh.ofUpd {c : UInt8} {t2 : T} {r : Key} (h : (kids c).Sh t2 r) : (T.node a ow part val ks kids).Sh (.node a' ow' part val' ks' (updT kids c t2)) (part ++ c :: r) := .inr fun _ _ _ _ _ e _ => by
  injection e with _ _ _ _ _ h1
  subst h1
  refine ⟨fun d hd => updT_other _ _ fun e => hd r (by rw [e]), fun d r' e => ?_⟩
  obtain ⟨rfl, rfl⟩ := key_cons e
  rw [updT_same]; exact h
end
/-- what a put makes of a tree -/
structure PutR (w w' : World) (o : Nat) (t t' : T) (mt : Option Mtr) (n n' : Nat) (k : Key) (x : Nat) : Prop where
  res : Res w w' o t t' mt n'
  er : t'.er = putE t.er k x
  leafy : t.Leafy → t'.Leafy
  le : n' ≤ n + t.steps k + 2
  own : ∀ q : Nat → Prop, q o → t.OwQ q → t'.OwQ q
  mine : t.OwQ (· = o) → n' ≤ n + 2 ∧ ((t.get k).isSome → t'.ptr = t.ptr ∧ n' = n)
  root : ∀ a, t.ptr = some ⟨a, 0, none⟩ → ∃ cs T, Blk w' a cs T
  top : t'.ptr = t.ptr ∨ t'.Top o
  pot : n' + t'.pot o ≤ n + t.pot o + 2
  pot0 : (t.get k).isSome → n' + t'.pot o ≤ n + t.pot o
  still : t.Way o k → (t.get k).isSome → t'.ptr = t.ptr ∧ n' = n
  up : t.get k ≠ some x → t.Up o → t'.Up o ∧ t'.Way o k
  sh : t.Sh t' k
theorem PutR.from' {w w1 w2 : World} {o n n' x : Nat} {t t' : T} {mt : Option Mtr} {k : Key} (he : Ext No w w1) (h : PutR w1 w2 o t t' mt n n' k x) : PutR w w2 o t t' mt n n' k x :=
  ⟨h.res.from' he, h.er, h.leafy, h.le, h.own, h.mine, h.root, h.top, h.pot, h.pot0, h.still, h.up, h.sh⟩
section
variable {w : World} {a ow o x : Nat} {part : Key} {val : Option Nat} {ks : List Nat} {kids : UInt8 → T} {mt : Option Mtr} {n : Nat}
/-- a tree of one leaf -/
theorem Sep.leaf {o a : Nat} {p : Key} {v : Option Nat} : (T.node a o p v [] fun _ => .nil).Sep o := ⟨fun _ => trivial, fun _ _ _ _ h => h.elim, fun _ _ _ _ h => h.elim, fun _ _ h => h.elim⟩
theorem leaf_all {a o b : Nat} {p : Key} {v : Option Nat} (h : (T.node a o p v [] fun _ => .nil).All b) : b = a := by
  rcases h with (h | h) | ⟨c, h⟩
  · exact h
  · cases h
  · exact h.elim
theorem leaf_up {a o : Nat} {p : Key} {v : Option Nat} : (T.node a o p v [] fun _ => .nil).Up o := ⟨.inl rfl, fun _ => trivial⟩
theorem leaf_way {a o : Nat} {p k : Key} {v : Option Nat} : (T.node a o p v [] fun _ => .nil).Way o k := ⟨rfl, fun _ _ _ => trivial⟩
theorem leaf_leafy {a o : Nat} {p : Key} {v : Option Nat} : (T.node a o p v [] fun _ => .nil).Leafy := ⟨by simp [cnt, dom_none, T.ptr], fun _ => trivial⟩
end
section
variable {w : World} {a ow o x : Nat} {part : Key} {val : Option Nat} {ks : List Nat} {kids : UInt8 → T} {mt : Option Mtr} {n : Nat} {vk : Value} {c : UInt8} {r : Key}
theorem T.node_of_er {t : T} (h : t.er.opt.isSome = true) : ∃ a ow part val ks kids, t = .node a ow part val ks kids := by
  cases t with
  | nil => cases h
  | node => exact ⟨_, _, _, _, _, _, rfl⟩
end
theorem root_of {w w' : World} {a ow o : Nat} {part : Key} {val : Option Nat} {ks : List Nat} {kids : UInt8 → T} {mt : Option Mtr} {n n' : Nat} {t' : T} (hR : Res w w' o (.node a ow part val ks kids) t' mt n') (ht : Tree w (.node a ow part val ks kids)) (hs : (T.node a ow part val ks kids).Sep o) (hm : Mt w mt n) (h : o = ow → t'.All a) :
    ∀ a', (T.node a ow part val ks kids).ptr = some ⟨a', 0, none⟩ → ∃ cs T, Blk w' a' cs T := fun a' ha' => by
  obtain rfl : a = a' := by simpa [T.ptr] using ha'
  obtain ⟨pv, hb, -⟩ := ht.1.blk
  by_cases e : o = ow
  · obtain ⟨cs, T', h1, -⟩ := hR.tree.ty (h e)
    exact ⟨_, _, h1⟩
  · refine ⟨_, _, hb.ext hR.ext fun hx => ?_⟩
    rcases hx with hx | hx
    · exact hm.ne hb (by decide) hx
    · rcases hx with ⟨h1, -⟩ | ⟨c, h1⟩
      · exact e h1.symm
      · exact hs.2.2.2 c a h1 (.inl rfl)
theorem updT_cnt {kids : UInt8 → T} {c : UInt8} {t2 : T} (h : t2.ptr.isSome = true) : cnt (fun d => (updT kids c t2 d).ptr) ≠ 0 := fun h0 => by
  have h1 := (dom_mem (m := fun d => (updT kids c t2 d).ptr) (c := c)).2 (by rw [updT_same]; exact h)
  unfold cnt at h0
  rw [List.length_eq_zero_iff.1 h0] at h1
  cases h1
theorem steps_pos {a ow : Nat} {part : Key} {val : Option Nat} {ks : List Nat} {kids : UInt8 → T} {k : Key} : 1 ≤ (T.node a ow part val ks kids).steps k := by
  rw [T.steps_node]
  split
  · split
    · exact Nat.le_refl _
    · exact Nat.succ_le_succ (Nat.zero_le _)
  · exact Nat.le_refl _
theorem Res.extM' {w w1 w2 : World} {o n n2 : Nat} {t t' : T} {mt : Option Mtr} (h : Res w w1 o t t' mt n) (e : Ext (MX mt) w1 w2) (hm : Mt w2 mt n2) : Res w w2 o t t' mt n2 :=
  ⟨h.tree.extM h.cnt e, h.ext.transS (e.mono fun b _ hb => .inl hb), hm, h.all, h.foot, h.sep⟩
section
variable {w w1 : World} {o x up pb n1 : Nat} {t : T} {p r : Key} {val0 : Option Nat} {uks : List Nat} {kids0 : UInt8 → T} {mt : Option Mtr} {vk : Value} {K : Value → World → Prop}
end
section
variable {w : World} {a ow o x : Nat} {part k : Key} {val : Option Nat} {ks : List Nat} {kids : UInt8 → T} {mt : Option Mtr} {n : Nat} {vp vk : Value}
theorem Tree.kids_nil (hl : (T.node a ow part val ks kids).Leafy) (hk : ks = []) : kids = fun _ => .nil := by
  funext c
  have h := hl.1.1 hk
  cases e : kids c with
  | nil => rfl
  | node a1 ow1 p1 v1 ks1 kids1 =>
    exfalso
    have h1 := (dom_mem (m := fun c => (kids c).ptr) (c := c)).2 (by simp only [e]; rfl)
    unfold cnt at h
    rw [List.length_eq_zero_iff.1 h] at h1
    cases h1
end
theorem common_same {a b : Key} (h1 : common a b = a.length) (h2 : common a b = b.length) : a = b := by
  obtain ⟨p, q, r, rfl, rfl, h3, -⟩ := common_split a b
  have hq : q = [] := List.length_eq_zero_iff.1 (by simp at h1; omega)
  have hr : r = [] := List.length_eq_zero_iff.1 (by simp at h2; omega)
  rw [hq, hr]
theorem common_cut {a b : Key} (h1 : common a b = a.length) : b = a ++ b.drop a.length := by
  obtain ⟨p, q, r, rfl, rfl, h3, -⟩ := common_split a b
  have hq : q = [] := List.length_eq_zero_iff.1 (by simp at h1; omega)
  subst hq
  simp
end Go.Proofs.YtbfnagdpanfphaaGreatDoor
