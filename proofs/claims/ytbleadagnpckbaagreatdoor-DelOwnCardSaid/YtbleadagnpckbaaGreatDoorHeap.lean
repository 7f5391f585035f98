/-  trees in memory, and what may be asked of their top nodes.  -/
import Derived.Test.YtbleadagnpckbaaGreatDoorNode
namespace Go.Proofs.YtbleadagnpckbaaGreatDoor
open Go Go.RowKit X
set_option linter.unusedSimpArgs false
set_option linter.unusedVariables false
set_option linter.unusedSectionVars false
variable [Floor]

/-- the addresses of kids -/
abbrev ptrs (kids : UInt8 → T) : UInt8 → Option Addr := fun c => (kids c).ptr
abbrev T.v (t : T) : Value := .pointer t.ptr
/-- a tree in memory -/
def Tree (w : World) : T → Prop
  | .nil => True
  | .node a ow part val ks kids => NA w a ow part val ks (ptrs kids) ∧ ∀ c, Tree w (kids c)
/-- the blocks of a tree's nodes; of those of an owner -/
def T.All : T → Nat → Prop
  | .nil, _ => False
  | .node a _ _ _ ks kids, b => NX a ks b ∨ ∃ c, (kids c).All b
def T.Foot (o : Nat) : T → Nat → Prop
  | .nil, _ => False
  | .node a ow _ _ ks kids, b => (ow = o ∧ NX a ks b) ∨ ∃ c, (kids c).Foot o b
theorem T.Foot.all {o : Nat} : ∀ {t : T} {b : Nat}, t.Foot o b → t.All b := by
  intro t
  induction t with
  | nil => intro b h; exact h
  | node a ow part val ks kids ih =>
    intro b h
    rcases h with ⟨-, h⟩ | ⟨c, h⟩
    · exact .inl h
    · exact .inr ⟨c, ih c h⟩
theorem Tree.ty {w : World} : ∀ {t : T}, Tree w t → ∀ {b : Nat}, t.All b → ∃ cs T', Blk w b cs T' ∧ (T' = T_node_Node ∨ KT T') := by
  intro t
  induction t with
  | nil => intro _ b h; exact h.elim
  | node a ow part val ks kids ih =>
    rintro ⟨h1, h2⟩ b h
    rcases h with h | ⟨c, h⟩
    · obtain ⟨pv, hb, -⟩ := h1.blk
      rcases h with rfl | h
      · exact ⟨_, _, hb, .inl rfl⟩
      · obtain ⟨cs, T', h3, h4⟩ := h1.kd.ty b h
        exact ⟨cs, T', h3, .inr h4⟩
    · exact ih c (h2 c) h
theorem Tree.lt {w : World} {t : T} (h : Tree w t) {b : Nat} (hb : t.All b) : b < w.heap.size := by
  obtain ⟨cs, T', h1, -⟩ := h.ty hb
  exact h1.lt
theorem Tree.fl {w : World} : ∀ {t : T}, Tree w t → ∀ {b : Nat}, t.All b → Floor.n ≤ b := by
  intro t
  induction t with
  | nil => intro _ b h; exact h.elim
  | node a ow part val ks kids ih =>
    rintro ⟨h1, h2⟩ b h
    rcases h with (rfl | h) | ⟨c, h⟩
    · exact h1.new.1
    · exact h1.new.2 b h
    · exact ih c (h2 c) h
theorem NT.ne {T' : TypeId} (h : T' = T_node_Node ∨ KT T') : T' ≠ T_uint8 ∧ NoM T' := by
  rcases h with rfl | h
  · decide
  · exact ⟨h.ne.1, h.ne.2.2⟩
theorem Tree.ext {w w' : World} {X : Nat → Prop} (e : Ext X w w') (hb : NB w X) : ∀ {t : T}, Tree w t → (∀ b, t.All b → ¬ X b) → Tree w' t := by
  intro t
  induction t with
  | nil => intro _ _; trivial
  | node a ow part val ks kids ih =>
    rintro ⟨h1, h2⟩ hx
    exact ⟨h1.ext e hb (hx a (.inl (.inl rfl))) fun b hb => hx b (.inl (.inr hb)), fun c => ih c (h2 c) fun b hb => hx b (.inr ⟨c, hb⟩)⟩
theorem Tree.extN {w w' : World} {t : T} (h : Tree w t) (e : Ext No w w') : Tree w' t := h.ext e (NB.no w) fun _ _ h => h
theorem Tree.extM {w w' : World} {t : T} {mt : Option Mtr} {k : Nat} (h : Tree w t) (hm : Mt w mt k) (e : Ext (MX mt) w w') : Tree w' t :=
  h.ext e hm.nb fun b hb => by
    obtain ⟨cs, T', h1, h2⟩ := h.ty hb
    exact hm.ne h1 (NT.ne h2).2
theorem Tree.kid {w : World} {a ow : Nat} {part : Key} {val : Option Nat} {ks : List Nat} {kids : UInt8 → T} (h : Tree w (.node a ow part val ks kids)) (c : UInt8) : Tree w (kids c) := h.2 c
theorem Tree.na {w : World} {a ow : Nat} {part : Key} {val : Option Nat} {ks : List Nat} {kids : UInt8 → T} (h : Tree w (.node a ow part val ks kids)) : NA w a ow part val ks (ptrs kids) := h.1

/-! what a tree tells of its top -/
def T.part : T → Key | .nil => [] | .node _ _ p _ _ _ => p
def T.val : T → Option Nat | .nil => none | .node _ _ _ v _ _ => v
def T.kid : T → UInt8 → T | .nil => fun _ => .nil | .node _ _ _ _ _ kids => kids
def T.kind : T → Nat | .nil => 0 | .node _ _ _ _ ks kids => kindV ks (ptrs kids)
section
variable {w : World} {t : T}
theorem c_Part (h : Tree w t) : Ret P n_node_Node_Part [t.v] w fun v w' => Bs w' v t.part ∧ Ext No w w' := by
  cases t with
  | nil =>
    refine W_node_Node_Part ?_
    exact xifT rfl ⟨Bs.nil w, Ext.refl _ _⟩
  | node a ow part val ks kids => exact c_NPart h.1
theorem c_Val (h : Tree w t) : Ret P n_node_Node_Val [t.v] w fun v w' => v = valV t.val ∧ w' = w := by
  cases t with
  | nil =>
    refine W_node_Node_Val ?_
    refine xjd ?_
    refine xifT rfl ?_
    exact fun g => ⟨rfl, rfl⟩
  | node a ow part val ks kids => exact c_NVal h.1
theorem c_Kind (h : Tree w t) : Ret P n_node_Node_Kind [t.v] w fun v w' => v = .int .i64 t.kind ∧ w' = w := by
  cases t with
  | nil =>
    refine W_node_Node_Kind ?_
    exact xifT rfl ⟨rfl, rfl⟩
  | node a ow part val ks kids => exact c_NKind h.1
theorem c_Len (h : Tree w t) : Ret P n_node_Node_Len [t.v] w fun v w' => v = .int .i64 (cnt (ptrs t.kid)) ∧ w' = w := by
  cases t with
  | nil =>
    refine W_node_Node_Len ?_
    refine xifT rfl ⟨?_, rfl⟩
    have : cnt (ptrs T.nil.kid) = 0 := by
      show cnt (fun _ => none : UInt8 → Option Addr) = 0
      simp [cnt, dom_none]
    rw [this]; rfl
  | node a ow part val ks kids => exact c_NLen h.1
theorem c_Kid (h : Tree w t) {b : UInt8} : Ret P n_node_Node_Kid [t.v, bv b] w fun v w' => v = (t.kid b).v ∧ Ext No w w' := by
  cases t with
  | nil =>
    refine W_node_Node_Kid ?_
    exact xifT rfl ⟨rfl, Ext.refl _ _⟩
  | node a ow part val ks kids => exact c_NKid h.1
theorem c_Next (h : Tree w t) {i : Nat} (hi : i ≤ 256) : Ret P n_node_Node_Next [t.v, .int .i64 i] w fun v w' => v = next2 (ptrs t.kid) i ∧ Ext No w w' := by
  cases t with
  | nil =>
    refine W_node_Node_Next ?_
    refine xifT rfl ⟨?_, Ext.refl _ _⟩
    have : nextB (ptrs T.nil.kid) i = none := nextB_none.2 fun _ _ => rfl
    simp [next2, this]
  | node a ow part val ks kids => exact c_NNext h.1 hi
end
end Go.Proofs.YtbleadagnpckbaaGreatDoor
