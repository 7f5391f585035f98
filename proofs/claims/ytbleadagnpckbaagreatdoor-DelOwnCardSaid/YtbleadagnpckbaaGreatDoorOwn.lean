/-  what an owner writes to: trees whose owned nodes stand apart.  -/
import Derived.Test.YtbleadagnpckbaaGreatDoorFind
namespace Go.Proofs.YtbleadagnpckbaaGreatDoor
open Go Go.RowKit X
set_option linter.unusedSimpArgs false
set_option linter.unusedVariables false
set_option linter.unusedSectionVars false
variable [Floor]

def T.Sep (o : Nat) : T → Prop
  | .nil => True
  | .node a ow _ _ ks kids => (∀ c, (kids c).Sep o) ∧ (∀ c d, c ≠ d → ∀ b, (kids c).Foot o b → ¬ (kids d).All b) ∧ (ow = o → ∀ b, NX a ks b → ∀ c, ¬ (kids c).All b) ∧ (∀ c b, (kids c).Foot o b → ¬ NX a ks b)
/-- no node is the owner's -/
def T.Free (o : Nat) : T → Prop
  | .nil => True
  | .node _ ow _ _ _ kids => ow ≠ o ∧ ∀ c, (kids c).Free o
theorem T.Free.foot {o : Nat} : ∀ {t : T}, t.Free o → ∀ b, ¬ t.Foot o b := by
  intro t
  induction t with
  | nil => intro _ b h; exact h
  | node a ow part val ks kids ih =>
    rintro ⟨h1, h2⟩ b h
    rcases h with ⟨h, -⟩ | ⟨c, h⟩
    · exact h1 h
    · exact ih c (h2 c) b h
theorem T.Free.sep {o : Nat} : ∀ {t : T}, t.Free o → t.Sep o := by
  intro t
  induction t with
  | nil => intro _; trivial
  | node a ow part val ks kids ih =>
    rintro ⟨h1, h2⟩
    exact ⟨fun c => ih c (h2 c), fun c d _ b h => absurd h ((h2 c).foot b), fun h => absurd h h1, fun c b h => absurd h ((h2 c).foot b)⟩
def updT (kids : UInt8 → T) (b : UInt8) (t : T) : UInt8 → T := fun c => if c = b then t else kids c
theorem updT_same (kids : UInt8 → T) (b : UInt8) (t : T) : updT kids b t b = t := by simp [updT]
theorem updT_other (kids : UInt8 → T) {b c : UInt8} (t : T) (h : c ≠ b) : updT kids b t c = kids c := by simp [updT, h]
theorem updT_er (kids : UInt8 → T) (b : UInt8) (t : T) : (fun c => (updT kids b t c).er) = updE (fun c => (kids c).er) b t.er := by
  funext c; unfold updT updE; split <;> rfl
theorem updT_ptr (kids : UInt8 → T) (b : UInt8) (t : T) : ptrs (updT kids b t) = upd (ptrs kids) b t.ptr := by
  funext c
  by_cases h : c = b
  · subst h; simp [ptrs, updT, upd]
  · simp [ptrs, updT, upd, h]
/-- what an operation of owner o makes of t -/
structure Res (w w' : World) (o : Nat) (t t' : T) (mt : Option Mtr) (n : Nat) : Prop where
  tree : Tree w' t'
  ext : Ext (fun b => MX mt b ∨ t.Foot o b) w w'
  cnt : Mt w' mt n
  all : ∀ b, t'.All b → t.All b ∨ w.heap.size ≤ b
  foot : ∀ b, t'.Foot o b → t.Foot o b ∨ w.heap.size ≤ b
  sep : t'.Sep o

theorem Foot.nb {w : World} {t : T} {o : Nat} (h : Tree w t) : NB w (t.Foot o) := fun b hb _ => by
  obtain ⟨cs, T', h1, h2⟩ := h.ty hb.all
  exact ⟨h.fl hb.all, cs, T', h1, (NT.ne h2).1⟩
theorem mt_all {w : World} {t : T} {mt : Option Mtr} {n b : Nat} (h : Tree w t) (hm : Mt w mt n) (hb : t.All b) : ¬ MX mt b := by
  obtain ⟨cs, T', h1, h2⟩ := h.ty hb
  exact hm.ne h1 (NT.ne h2).2

/-- a node that its owner may write to: itself, or a copy -/
theorem c_Own {w : World} {a ow o : Nat} {part : Key} {val : Option Nat} {ks : List Nat} {m : UInt8 → Option Addr} {mt : Option Mtr} {n : Nat} (h : NA w a ow part val ks m) (hm : Mt w mt n) : Ret P n_node_Node_Own [rp a, mv mt, .int .u64 o] w fun v w' =>
    ∃ a' ks', v = rp a' ∧ NA w' a' o part val ks' m ∧ (ks' = [] ↔ ks = []) ∧ ((o ≠ 0 ∧ o = ow ∧ a' = a ∧ ks' = ks ∧ w' = w) ∨ (¬ (o ≠ 0 ∧ o = ow) ∧ (∀ b, NX a' ks' b → w.heap.size ≤ b) ∧ Mt w' mt (n + 1) ∧ Ext (MX mt) w w')) := by
  refine W_node_Node_Own ?_
  refine (c_NMay h).mono ?_
  rintro v w' ⟨rfl, rfl⟩
  by_cases e : o ≠ 0 ∧ o = ow
  · rw [if_pos e]
    refine xifT rfl ⟨a, ks, rfl, ?_, Iff.rfl, .inl ⟨e.1, e.2, rfl, rfl, rfl⟩⟩
    rw [e.2]; exact h
  · rw [if_neg e]
    refine xifF rfl ?_
    refine (c_Copy h hm).mono ?_
    rintro v w1 ⟨a', ks', rfl, h1, h2, h3, h4, h5⟩
    exact ⟨a', ks', rfl, h1, h2, .inr ⟨e, h3, h4, h5⟩⟩
end Go.Proofs.YtbleadagnpckbaaGreatDoor
