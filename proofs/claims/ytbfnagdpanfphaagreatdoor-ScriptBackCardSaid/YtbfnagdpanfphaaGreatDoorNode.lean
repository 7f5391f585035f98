/-  nodes: what their functions answer and write.  -/
import Derived.Test.YtbfnagdpanfphaaGreatDoorRow
section
namespace Go.Proofs.YtbfnagdpanfphaaGreatDoor
open Go Go.RowKit X
set_option linter.unusedSimpArgs false
set_option linter.unusedVariables false
set_option linter.unusedSectionVars false
variable [Floor]

/-- a node in memory: its owner, part, value, and kids (ks: the blocks of its kids; none: a leaf) -/
structure NA (w : World) (a ow : Nat) (part : List UInt8) (val : Option Nat) (ks : List Nat) (m : UInt8 → Option Addr) : Prop where
  blk : ∃ pv, Blk w a [.int .u64 ow, pv, .int .u64 (val.getD 0 : Nat), .bool val.isSome, kptr ks] T_node_Node ∧ Bs w pv part
  kd : Ks w ks m
  short : part.length ≤ 65535
  v64 : ∀ v, val = some v → v < 18446744073709551616
  new : Floor.n ≤ a ∧ ∀ b ∈ ks, Floor.n ≤ b
theorem NA.ext {X : Nat → Prop} {w w' : World} {a ow : Nat} {part : List UInt8} {val : Option Nat} {ks : List Nat} {m : UInt8 → Option Addr} (h : NA w a ow part val ks m) (e : Ext X w w') (hb : NB w X) (ha : ¬ X a) (hk : ∀ b ∈ ks, ¬ X b) : NA w' a ow part val ks m := by
  obtain ⟨pv, h1, h2⟩ := h.blk
  exact ⟨⟨pv, h1.ext e ha, h2.ext e hb⟩, h.kd.ext e hk, h.short, h.v64, h.new⟩
theorem NA.extN {w w' : World} {a ow : Nat} {part : List UInt8} {val : Option Nat} {ks : List Nat} {m : UInt8 → Option Addr} (h : NA w a ow part val ks m) (e : Ext No w w') : NA w' a ow part val ks m := h.ext e (NB.no w) (fun h => h) fun _ _ h => h
theorem KT.ne {T : TypeId} (h : KT T) : T ≠ T_uint8 ∧ T ≠ T_node_Node ∧ NoM T := by
  rcases h with rfl | rfl | rfl | rfl | rfl <;> decide
theorem NA.extM {w w' : World} {a ow : Nat} {part : List UInt8} {val : Option Nat} {ks : List Nat} {m : UInt8 → Option Addr} {mt : Option Mtr} {k : Nat} (h : NA w a ow part val ks m) (hm : Mt w mt k) (e : Ext (MX mt) w w') : NA w' a ow part val ks m := by
  obtain ⟨pv, h1, h2⟩ := h.blk
  refine h.ext e hm.nb (hm.ne h1 (by decide)) fun b hb => ?_
  obtain ⟨cs, T, h3, h4⟩ := h.kd.ty b hb
  exact hm.ne h3 h4.ne.2.2
theorem Bs.one1 {w : World} {v : Value} {bs : List UInt8} (h : Bs w v bs) : v.oneCell' = true := by
  obtain ⟨a, cap, rfl⟩ := h.slice
  rfl
theorem kptr_one (ks : List Nat) : (kptr ks).oneCell' = true := by cases ks <;> rfl

section
variable {w : World} {a ow : Nat} {part : List UInt8} {val : Option Nat} {ks : List Nat} {m : UInt8 → Option Addr}
theorem repL_u8 (n : Nat) : (repL (cellsV (.int .u8 0)) n).length = n := by rw [repL_length]; simp [cellsV]
/-- what 'Val' answers -/
def valV (val : Option Nat) : Value := .tuple #[.int .u64 (val.getD 0 : Nat), .bool val.isSome]
/-- a node's kind -/
def kindV (ks : List Nat) (m : UInt8 → Option Addr) : Nat := if ks = [] then 1 else kindN (cnt m)
/-- what 'Next' of a node answers -/
def next2 (m : UInt8 → Option Addr) (i : Nat) : Value :=
  match nextB m i with
  | some c => .tuple #[bv c, .pointer (m c)]
  | none => .tuple #[.int .u8 0, .pointer none]
/-- a node's own block is written -/
theorem NA.st (h : NA w a ow part val ks m) {ow' : Nat} {part' : List UInt8} {val' : Option Nat} {ks' : List Nat} {m' : UInt8 → Option Addr} {pv pv' : Value} {w1 : World} (hb : Blk w a [.int .u64 ow, pv, .int .u64 (val.getD 0 : Nat), .bool val.isSome, kptr ks] T_node_Node)
    (h1 : Blk w1 a [.int .u64 ow', pv', .int .u64 (val'.getD 0 : Nat), .bool val'.isSome, kptr ks'] T_node_Node) (he : Ext (· = a) w w1) (hp : Bs w pv' part') (hk : Ks w ks' m') (hs : part'.length ≤ 65535) (hv : ∀ v, val' = some v → v < 18446744073709551616) (hn : ∀ b ∈ ks', Floor.n ≤ b) : NA w1 a ow' part' val' ks' m' := by
  refine ⟨⟨pv', h1, hp.ext he fun b e _ => ?_⟩, hk.ext he fun b hb' e => ?_, hs, hv, h.new.1, hn⟩
  · have e : b = a := e
    subst e
    exact ⟨h.new.1, _, _, hb, by decide⟩
  · have e : b = a := e
    subst e
    obtain ⟨cs, T, h3, h4⟩ := hk.ty b hb'
    exact h4.ne.2.1 (h3.inj hb).2
/-- the blocks of a node -/
def NX (a : Nat) (ks : List Nat) : Nat → Prop := fun b => b = a ∨ b ∈ ks
theorem NA.nb (h : NA w a ow part val ks m) : NB w (NX a ks) := fun b hb _ => by
  obtain ⟨pv, h1, h2⟩ := h.blk
  rcases hb with rfl | hb
  · exact ⟨h.new.1, _, _, h1, by decide⟩
  · obtain ⟨cs, T, h3, h4⟩ := h.kd.ty b hb
    exact ⟨h.new.2 b hb, cs, T, h3, h4.ne.1⟩
theorem NA.lt (h : NA w a ow part val ks m) {b : Nat} (hb : NX a ks b) : b < w.heap.size := by
  obtain ⟨pv, h1, h2⟩ := h.blk
  rcases hb with rfl | hb
  · exact h1.lt
  · exact h.kd.lt hb
theorem NA.notin (h : NA w a ow part val ks m) : a ∉ ks := fun hb => by
  obtain ⟨pv, h1, h2⟩ := h.blk
  obtain ⟨cs, T, h3, h4⟩ := h.kd.ty a hb
  exact h4.ne.2.1 (h3.inj h1).2
end
end Go.Proofs.YtbfnagdpanfphaaGreatDoor
end
section
namespace Go.Proofs.YtbfnagdpanfphaaGreatDoor
open Go Go.RowKit X
set_option linter.unusedSimpArgs false
set_option linter.unusedVariables false
set_option linter.unusedSectionVars false
variable [Floor]

/-- the addresses of kids -/
abbrev ptrs (kids : UInt8 → T) : UInt8 → Option Addr := fun c => (kids c).ptr
abbrev T.v (t : T) : Value := .pointer t.ptr
/-- a tree in memory -/
def Tree (w : World) : T → Prop
  | .nil => True
  | .node a ow part val ks kids => NA w a ow part val ks (ptrs kids) ∧ ∀ c, Tree w (kids c)
/-- the blocks of a tree's nodes; of those of an owner -/
def T.All : T → Nat → Prop
  | .nil, _ => False
  | .node a _ _ _ ks kids, b => NX a ks b ∨ ∃ c, (kids c).All b
def T.Foot (o : Nat) : T → Nat → Prop
  | .nil, _ => False
  | .node a ow _ _ ks kids, b => (ow = o ∧ NX a ks b) ∨ ∃ c, (kids c).Foot o b
theorem T.Foot.all {o : Nat} : ∀ {t : T} {b : Nat}, t.Foot o b → t.All b := by
  intro t
  induction t with
  | nil => intro b h; exact h
  | node a ow part val ks kids ih =>
    intro b h
    rcases h with ⟨-, h⟩ | ⟨c, h⟩
    · exact .inl h
    · exact .inr ⟨c, ih c h⟩
theorem Tree.ty {w : World} : ∀ {t : T}, Tree w t → ∀ {b : Nat}, t.All b → ∃ cs T', Blk w b cs T' ∧ (T' = T_node_Node ∨ KT T') := by
  intro t
  induction t with
  | nil => intro _ b h; exact h.elim
  | node a ow part val ks kids ih =>
    rintro ⟨h1, h2⟩ b h
    rcases h with h | ⟨c, h⟩
    · obtain ⟨pv, hb, -⟩ := h1.blk
      rcases h with rfl | h
      · exact ⟨_, _, hb, .inl rfl⟩
      · obtain ⟨cs, T', h3, h4⟩ := h1.kd.ty b h
        exact ⟨cs, T', h3, .inr h4⟩
    · exact ih c (h2 c) h
theorem Tree.lt {w : World} {t : T} (h : Tree w t) {b : Nat} (hb : t.All b) : b < w.heap.size := by
  obtain ⟨cs, T', h1, -⟩ := h.ty hb
  exact h1.lt
theorem Tree.fl {w : World} : ∀ {t : T}, Tree w t → ∀ {b : Nat}, t.All b → Floor.n ≤ b := by
  intro t
  induction t with
  | nil => intro _ b h; exact h.elim
  | node a ow part val ks kids ih =>
    rintro ⟨h1, h2⟩ b h
    rcases h with (rfl | h) | ⟨c, h⟩
    · exact h1.new.1
    · exact h1.new.2 b h
    · exact ih c (h2 c) h
theorem NT.ne {T' : TypeId} (h : T' = T_node_Node ∨ KT T') : T' ≠ T_uint8 ∧ NoM T' := by
  rcases h with rfl | h
  · decide
  · exact ⟨h.ne.1, h.ne.2.2⟩
theorem Tree.ext {w w' : World} {X : Nat → Prop} (e : Ext X w w') (hb : NB w X) : ∀ {t : T}, Tree w t → (∀ b, t.All b → ¬ X b) → Tree w' t := by
  intro t
  induction t with
  | nil => intro _ _; trivial
  | node a ow part val ks kids ih =>
    rintro ⟨h1, h2⟩ hx
    exact ⟨h1.ext e hb (hx a (.inl (.inl rfl))) fun b hb => hx b (.inl (.inr hb)), fun c => ih c (h2 c) fun b hb => hx b (.inr ⟨c, hb⟩)⟩
theorem Tree.extN {w w' : World} {t : T} (h : Tree w t) (e : Ext No w w') : Tree w' t := h.ext e (NB.no w) fun _ _ h => h
theorem Tree.extM {w w' : World} {t : T} {mt : Option Mtr} {k : Nat} (h : Tree w t) (hm : Mt w mt k) (e : Ext (MX mt) w w') : Tree w' t :=
  h.ext e hm.nb fun b hb => by
    obtain ⟨cs, T', h1, h2⟩ := h.ty hb
    exact hm.ne h1 (NT.ne h2).2
theorem Tree.kid {w : World} {a ow : Nat} {part : Key} {val : Option Nat} {ks : List Nat} {kids : UInt8 → T} (h : Tree w (.node a ow part val ks kids)) (c : UInt8) : Tree w (kids c) := h.2 c
theorem Tree.na {w : World} {a ow : Nat} {part : Key} {val : Option Nat} {ks : List Nat} {kids : UInt8 → T} (h : Tree w (.node a ow part val ks kids)) : NA w a ow part val ks (ptrs kids) := h.1

/-! what a tree tells of its top -/
def T.part : T → Key | .nil => [] | .node _ _ p _ _ _ => p
def T.val : T → Option Nat | .nil => none | .node _ _ _ v _ _ => v
def T.kid : T → UInt8 → T | .nil => fun _ => .nil | .node _ _ _ _ _ kids => kids
def T.kind : T → Nat | .nil => 0 | .node _ _ _ _ ks kids => kindV ks (ptrs kids)
section
variable {w : World} {t : T}
end
end Go.Proofs.YtbfnagdpanfphaaGreatDoor
end
section
section
namespace Go.Proofs.YtbfnagdpanfphaaGreatDoor
open Go Go.RowKit X
set_option linter.unusedSimpArgs false
set_option linter.unusedVariables false
set_option linter.unusedSectionVars false
variable [Floor]

/-- a type of no tree's blocks, nor of bytes -/
def Oth (T : TypeId) : Prop := T ≠ T_node_Node ∧ T ≠ T_kids_Kids ∧ T ≠ T_small_Row ∧ T ≠ T_wide_Board ∧ T ≠ T_p_node_Node ∧ T ≠ T_uint16 ∧ T ≠ T_uint8
theorem Oth.nt {T T' : TypeId} (h : Oth T) (h' : T' = T_node_Node ∨ KT T') : T' ≠ T := by
  obtain ⟨h1, h2, h3, h4, h5, h6, h7⟩ := h
  rcases h' with rfl | rfl | rfl | rfl | rfl | rfl
  · exact h1.symm
  · exact h2.symm
  · exact h3.symm
  · exact h4.symm
  · exact h5.symm
  · exact h6.symm
theorem nb1 {w : World} {b : Nat} {cs : List Value} {T : TypeId} (hb : Blk w b cs T) (ho : Oth T) (hf : Floor.n ≤ b) : NB w (· = b) := fun c e _ => by
  have e : c = b := e
  subst e
  exact ⟨hf, _, _, hb, ho.2.2.2.2.2.2⟩
theorem Tree.ext1 {w w' : World} {t : T} {b : Nat} {cs : List Value} {T : TypeId} (h : Tree w t) (e : Ext (· = b) w w') (hb : Blk w b cs T) (ho : Oth T) (hf : Floor.n ≤ b) : Tree w' t :=
  h.ext e (nb1 hb ho hf) fun c hc he => by
    have he : c = b := he
    subst he
    obtain ⟨cs', T', h1, h2⟩ := h.ty hc
    exact ho.nt h2 (h1.inj hb).2
theorem Bs.ext1 {w w' : World} {v : Value} {bs : Key} {b : Nat} {cs : List Value} {T : TypeId} (h : Bs w v bs) (e : Ext (· = b) w w') (hb : Blk w b cs T) (ho : Oth T) (hf : Floor.n ≤ b) : Bs w' v bs := h.ext e (nb1 hb ho hf)
/-- how many nodes are gone into for a key -/
def E.steps : E → Key → Nat
  | .nil, _ => 0
  | .node part _ kids, k => if part <+: k then (match k.drop part.length with | [] => 1 | c :: r => (kids c).steps r + 1) else 1
def T.steps (t : T) (k : Key) : Nat := t.er.steps k

section
variable {w : World} {t : T} {wb j s : Nat} {vk : Value} {k : Key}
end
end Go.Proofs.YtbfnagdpanfphaaGreatDoor
end
section
namespace Go.Proofs.YtbfnagdpanfphaaGreatDoor
open Go Go.RowKit X
set_option linter.unusedSimpArgs false
set_option linter.unusedVariables false
set_option linter.unusedSectionVars false
variable [Floor]

theorem T.get_node {a ow : Nat} {part : Key} {val : Option Nat} {ks : List Nat} {kids : UInt8 → T} {k : Key} : (T.node a ow part val ks kids).get k = if part <+: k then (match k.drop part.length with | [] => val | c :: r => (kids c).get r) else none := by
  show (E.node part val fun c => (kids c).er).get k = _
  rw [E.get]
  split <;> rfl
theorem T.steps_node {a ow : Nat} {part : Key} {val : Option Nat} {ks : List Nat} {kids : UInt8 → T} {k : Key} : (T.node a ow part val ks kids).steps k = if part <+: k then (match k.drop part.length with | [] => 1 | c :: r => (kids c).steps r + 1) else 1 := by
  show (E.node part val fun c => (kids c).er).steps k = _
  rw [E.steps]
  split <;> rfl
theorem E.steps_le : ∀ (e : E) (k : Key), e.steps k ≤ k.length + 1 := by
  intro e
  induction e with
  | nil => intro k; simp [E.steps]
  | node part val kids ih =>
    intro k
    rw [E.steps]
    split
    · split
      · omega
      · rename_i h c r hd
        have := congrArg List.length hd
        simp at this
        have := ih c r
        omega
    · omega
section
variable {w : World} {t : T} {vk : Value} {k : Key}
theorem X.xfunc {f : FuncId} {first captured : Array Value} {args : List Value} {K : FuncId → List Value → Prop} (h : K f (first.toList ++ args ++ captured.toList)) : xFunc (.func (.func f) first captured) args K := h
theorem X.xcall_ret {P : Program} {f : FuncId} {args : List Value} {w : World} {K : Value → World → Prop} (hb : bodied P f = true) (h : Ret P f args w K) : xCall P f args w K := by
  unfold xCall
  rw [hb]
  exact h
end
end Go.Proofs.YtbfnagdpanfphaaGreatDoor
end
end
section
namespace Go.Proofs.YtbfnagdpanfphaaGreatDoor
open Go Go.RowKit X
set_option linter.unusedSimpArgs false
set_option linter.unusedVariables false
set_option linter.unusedSectionVars false
variable [Floor]

def T.Sep (o : Nat) : T → Prop
  | .nil => True
  | .node a ow _ _ ks kids => (∀ c, (kids c).Sep o) ∧ (∀ c d, c ≠ d → ∀ b, (kids c).Foot o b → ¬ (kids d).All b) ∧ (ow = o → ∀ b, NX a ks b → ∀ c, ¬ (kids c).All b) ∧ (∀ c b, (kids c).Foot o b → ¬ NX a ks b)
/-- no node is the owner's -/
def T.Free (o : Nat) : T → Prop
  | .nil => True
  | .node _ ow _ _ _ kids => ow ≠ o ∧ ∀ c, (kids c).Free o
theorem T.Free.foot {o : Nat} : ∀ {t : T}, t.Free o → ∀ b, ¬ t.Foot o b := by
  intro t
  induction t with
  | nil => intro _ b h; exact h
  | node a ow part val ks kids ih =>
    rintro ⟨h1, h2⟩ b h
    rcases h with ⟨h, -⟩ | ⟨c, h⟩
    · exact h1 h
    · exact ih c (h2 c) b h
theorem T.Free.sep {o : Nat} : ∀ {t : T}, t.Free o → t.Sep o := by
  intro t
  induction t with
  | nil => intro _; trivial
  | node a ow part val ks kids ih =>
    rintro ⟨h1, h2⟩
    exact ⟨fun c => ih c (h2 c), fun c d _ b h => absurd h ((h2 c).foot b), fun h => absurd h h1, fun c b h => absurd h ((h2 c).foot b)⟩
def updT (kids : UInt8 → T) (b : UInt8) (t : T) : UInt8 → T := fun c => if c = b then t else kids c
theorem updT_same (kids : UInt8 → T) (b : UInt8) (t : T) : updT kids b t b = t := by simp [updT]
theorem updT_other (kids : UInt8 → T) {b c : UInt8} (t : T) (h : c ≠ b) : updT kids b t c = kids c := by simp [updT, h]
theorem updT_er (kids : UInt8 → T) (b : UInt8) (t : T) : (fun c => (updT kids b t c).er) = updE (fun c => (kids c).er) b t.er := by
  funext c; unfold updT updE; split <;> rfl
theorem updT_ptr (kids : UInt8 → T) (b : UInt8) (t : T) : ptrs (updT kids b t) = upd (ptrs kids) b t.ptr := by
  funext c
  by_cases h : c = b
  · subst h; simp [ptrs, updT, upd]
  · simp [ptrs, updT, upd, h]
/-- what an operation of owner o makes of t -/
structure Res (w w' : World) (o : Nat) (t t' : T) (mt : Option Mtr) (n : Nat) : Prop where
  tree : Tree w' t'
  ext : Ext (fun b => MX mt b ∨ t.Foot o b) w w'
  cnt : Mt w' mt n
  all : ∀ b, t'.All b → t.All b ∨ w.heap.size ≤ b
  foot : ∀ b, t'.Foot o b → t.Foot o b ∨ w.heap.size ≤ b
  sep : t'.Sep o

theorem Foot.nb {w : World} {t : T} {o : Nat} (h : Tree w t) : NB w (t.Foot o) := fun b hb _ => by
  obtain ⟨cs, T', h1, h2⟩ := h.ty hb.all
  exact ⟨h.fl hb.all, cs, T', h1, (NT.ne h2).1⟩
theorem mt_all {w : World} {t : T} {mt : Option Mtr} {n b : Nat} (h : Tree w t) (hm : Mt w mt n) (hb : t.All b) : ¬ MX mt b := by
  obtain ⟨cs, T', h1, h2⟩ := h.ty hb
  exact hm.ne h1 (NT.ne h2).2

end Go.Proofs.YtbfnagdpanfphaaGreatDoor
end
section
section
namespace Go.Proofs.YtbfnagdpanfphaaGreatDoor
open Go Go.RowKit X
set_option linter.unusedSimpArgs false
set_option linter.unusedVariables false
set_option linter.unusedSectionVars false
variable [Floor]

section
variable {w w1 : World} {o u : Nat} {t : T} {p : Key} {val : Option Nat} {uks : List Nat} {kids : UInt8 → T} {mt : Option Mtr} {n : Nat}
theorem Res.own_lt (h : Res w w1 o t (.node u o p val uks kids) mt n) {b : Nat} (hb : NX u uks b) : t.Foot o b ∨ w.heap.size ≤ b := h.foot b (.inl ⟨rfl, hb⟩)
theorem Res.lt (h : Res w w1 o t (.node u o p val uks kids) mt n) {b : Nat} (hb : NX u uks b) : b < w1.heap.size := h.tree.lt (.inl hb)
/-- the node's own block is written: all else stays -/
theorem Res.stU (h : Res w w1 o t (.node u o p val uks kids) mt n) {w2 : World} {p' : Key} {val' : Option Nat} (hna : NA w2 u o p' val' uks (ptrs kids)) (he : Ext (· = u) w1 w2) : Res w w2 o t (.node u o p' val' uks kids) mt n := by
  obtain ⟨pv, hb, -⟩ := h.tree.1.blk
  obtain ⟨s1, s2, s3, s4⟩ := h.sep
  refine ⟨⟨hna, fun c => ?_⟩, ?_, ?_, h.all, h.foot, ⟨s1, s2, s3, s4⟩⟩
  · refine (h.tree.2 c).ext he (fun b e _ => ?_) fun b hb' e => ?_
    · have e : b = u := e
      subst e
      exact ⟨h.tree.1.new.1, _, _, hb, by decide⟩
    · have e : b = u := e
      subst e
      exact s3 rfl b (.inl rfl) c hb'
  · refine h.ext.trans he fun b hb' e => ?_
    have e : b = u := e
    subst e
    rcases h.own_lt (.inl rfl) with h1 | h1
    · exact .inr h1
    · omega
  · exact h.cnt.ext he fun b hb' e => by
      have e : b = u := e
      subst e
      exact h.cnt.ne hb (by decide) hb'
end
end Go.Proofs.YtbfnagdpanfphaaGreatDoor
end
section
namespace Go.Proofs.YtbfnagdpanfphaaGreatDoor
open Go Go.RowKit X
set_option linter.unusedSimpArgs false
set_option linter.unusedVariables false
set_option linter.unusedSectionVars false
variable [Floor]

/-- as Res of a node; but its kids' pointers in memory are m -/
structure ResH (w w' : World) (o : Nat) (t : T) (u ow : Nat) (p : Key) (val : Option Nat) (uks : List Nat) (m : UInt8 → Option Addr) (kids : UInt8 → T) (mt : Option Mtr) (n : Nat) : Prop where
  na : NA w' u ow p val uks m
  sub : ∀ c, Tree w' (kids c)
  ext : Ext (fun b => MX mt b ∨ t.Foot o b) w w'
  cnt : Mt w' mt n
  all : ∀ b, (T.node u ow p val uks kids).All b → t.All b ∨ w.heap.size ≤ b
  foot : ∀ b, (T.node u ow p val uks kids).Foot o b → t.Foot o b ∨ w.heap.size ≤ b
  sep : (T.node u ow p val uks kids).Sep o
section
variable {w w1 : World} {o u ow : Nat} {t : T} {p : Key} {val : Option Nat} {uks : List Nat} {m : UInt8 → Option Addr} {kids : UInt8 → T} {mt : Option Mtr} {n : Nat}
theorem ResH.res (h : ResH w w1 o t u ow p val uks m kids mt n) (hm : m = ptrs kids) : Res w w1 o t (.node u ow p val uks kids) mt n := by
  subst hm
  exact ⟨⟨h.na, h.sub⟩, h.ext, h.cnt, h.all, h.foot, h.sep⟩
theorem Res.h (h : Res w w1 o t (.node u ow p val uks kids) mt n) : ResH w w1 o t u ow p val uks (ptrs kids) kids mt n := ⟨h.tree.1, h.tree.2, h.ext, h.cnt, h.all, h.foot, h.sep⟩
/-- nothing done yet -/
theorem Res.start (ht : Tree w t) (hs : t.Sep o) (hm : Mt w mt n) : Res w w o t t mt n := ⟨ht, Ext.refl _ _, hm, fun b h => .inl h, fun b h => .inl h, hs⟩
theorem Res.extN {t' : T} (h : Res w w1 o t t' mt n) {w2 : World} (e : Ext No w1 w2) : Res w w2 o t t' mt n := ⟨h.tree.extN e, h.ext.transN e, h.cnt.extN e, h.all, h.foot, h.sep⟩
theorem ResH.extN (h : ResH w w1 o t u ow p val uks m kids mt n) {w2 : World} (e : Ext No w1 w2) : ResH w w2 o t u ow p val uks m kids mt n := ⟨h.na.extN e, fun c => (h.sub c).extN e, h.ext.transN e, h.cnt.extN e, h.all, h.foot, h.sep⟩
/-- a kid has become another tree: the node itself stays as it was -/
theorem ResH.kid {a : Nat} (ht : Tree w (.node a ow p val uks kids)) (hs : (T.node a ow p val uks kids).Sep o) (hm : Mt w mt n) {c0 : UInt8} {t2 : T} {n2 : Nat} (h : Res w w1 o (kids c0) t2 mt n2) :
    ResH w w1 o (.node a ow p val uks kids) a ow p val uks (ptrs kids) (updT kids c0 t2) mt n2 := by
  obtain ⟨s1, s2, s3, s4⟩ := hs
  have hz := h.ext.size
  have hlt : ∀ b, NX a uks b → b < w.heap.size := fun b hb => ht.lt (.inl hb)
  have hltk : ∀ c b, (kids c).All b → b < w.heap.size := fun c b hb => (ht.2 c).lt hb
  have hnb : NB w (fun b => MX mt b ∨ (kids c0).Foot o b) := hm.nb.or (Foot.nb (ht.2 c0))
  have hx : ∀ b, NX a uks b → ¬ (MX mt b ∨ (kids c0).Foot o b) := fun b hb hx => by
    rcases hx with hx | hx
    · exact mt_all ht hm (.inl hb) hx
    · exact s4 c0 b hx hb
  have h2 : ∀ b, t2.All b → (kids c0).All b ∨ w.heap.size ≤ b := h.all
  refine ⟨ht.1.ext h.ext hnb (hx a (.inl rfl)) fun b hb => hx b (.inr hb), fun c => ?_, ?_, h.cnt, fun b hb => ?_, fun b hb => ?_, ⟨fun c => ?_, fun c d hcd b hb hb2 => ?_, fun hoo b hb c hc => ?_, fun c b hf hb => ?_⟩⟩
  · unfold updT; split
    · exact h.tree
    · rename_i hc
      refine (ht.2 c).ext h.ext hnb fun b hb hx => ?_
      rcases hx with hx | hx
      · exact mt_all (ht.2 c) hm hb hx
      · exact s2 c0 c (Ne.symm hc) b hx hb
  · exact h.ext.mono fun b _ hb => hb.elim .inl fun hb => .inr (.inr ⟨c0, hb⟩)
  · rcases hb with hb | ⟨c, hb⟩
    · exact .inl (.inl hb)
    · unfold updT at hb; split at hb
      · exact (h2 b hb).elim (fun h => .inl (.inr ⟨c0, h⟩)) .inr
      · exact .inl (.inr ⟨c, hb⟩)
  · rcases hb with hb | ⟨c, hb⟩
    · exact .inl (.inl hb)
    · unfold updT at hb; split at hb
      · exact (h.foot b hb).elim (fun h => .inl (.inr ⟨c0, h⟩)) .inr
      · exact .inl (.inr ⟨c, hb⟩)
  · unfold updT; split
    · exact h.sep
    · exact s1 c
  · unfold updT at hb hb2
    by_cases hc : c = c0
    · subst hc
      rw [if_pos rfl] at hb
      rw [if_neg (fun e => hcd e.symm)] at hb2
      rcases h.foot b hb with h3 | h3
      · exact s2 c d hcd b h3 hb2
      · have := hltk d b hb2; omega
    · rw [if_neg hc] at hb
      split at hb2
      · rename_i hd
        subst hd
        rcases h2 b hb2 with h3 | h3
        · exact s2 c d hcd b hb h3
        · have := hltk c b hb.all; omega
      · exact s2 c d hcd b hb hb2
  · unfold updT at hc; split at hc
    · rcases h2 b hc with h3 | h3
      · exact s3 hoo b hb c0 h3
      · have := hlt b hb; omega
    · exact s3 hoo b hb c hc
  · unfold updT at hf; split at hf
    · rcases h.foot b hf with h3 | h3
      · exact s4 c0 b h3 hb
      · have := hlt b hb; omega
    · exact s4 c b hf hb
end
end Go.Proofs.YtbfnagdpanfphaaGreatDoor
end
end
