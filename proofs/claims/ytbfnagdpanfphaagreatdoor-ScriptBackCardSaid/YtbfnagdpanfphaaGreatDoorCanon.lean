/-  canon: whether pairs may be; the tree of pairs.  -/
import Derived.Test.YtbfnagdpanfphaaGreatDoorNode
import Derived.Test.YtbfnagdpanfphaaGreatDoorPs
import Derived.Test.YtbfnagdpanfphaaGreatDoorMap
section
namespace Go.Proofs.YtbfnagdpanfphaaGreatDoor
open Go Go.RowKit X
set_option linter.unusedSimpArgs false
set_option linter.unusedVariables false
set_option linter.unusedSectionVars false
theorem rises_of_steps {l : Kv} (h : ∀ i (hi : i + 1 < l.length), klt l[i].1 l[i + 1].1) : Rises l := by
  unfold Rises
  rw [List.pairwise_iff_getElem]
  have key : ∀ d i (hi : i + d + 1 < l.length), klt (l[i]'(by omega)).1 l[i + d + 1].1 := by
    intro d
    induction d with
    | zero => intro i hi; exact h i hi
    | succ d ih => intro i hi; exact klt_trans (ih i (by omega)) (h (i + d + 1) (by omega))
  intro i j hi hj hij
  have := key (j - i - 1) i (by omega)
  simpa [show i + (j - i - 1) + 1 = j by omega] using this
instance (l : Kv) : Decidable (Rises l) := inferInstanceAs (Decidable (List.Pairwise (fun a b : Key × Nat => klt a.1 b.1) l))
theorem Rises.step {l : Kv} (h : Rises l) {i : Nat} (hi : i + 1 < l.length) : klt l[i].1 l[i + 1].1 := List.pairwise_iff_getElem.1 h i (i + 1) (by omega) hi (by omega)
theorem Rises.take {l : Kv} (h : Rises l) (n : Nat) : Rises (l.take n) := List.Pairwise.sublist (List.take_sublist n l) h
theorem Rises.drop {l : Kv} (h : Rises l) (n : Nat) : Rises (l.drop n) := List.Pairwise.sublist (List.drop_sublist n l) h
variable [Floor]
section
variable {w : World} {v : Value} {l : Kv}
/-- a big key: its number; else whether they rise -/
def checkN (l : Kv) (b : Bool) : Int := if ∀ p ∈ l, p.1.length ≤ 65535 then (if b then 0 else 12) else 8
end
end Go.Proofs.YtbfnagdpanfphaaGreatDoor
end
section
namespace Go.Proofs.YtbfnagdpanfphaaGreatDoor
open Go Go.RowKit X
set_option linter.unusedSimpArgs false
set_option linter.unusedVariables false
set_option linter.unusedSectionVars false
theorem sum_upd {α : Type} [DecidableEq α] {l : List α} (hl : l.Nodup) {b : α} (hb : b ∈ l) (f : α → Nat) (x : Nat) : (l.map fun c => if c = b then x else f c).sum + f b = (l.map f).sum + x := by
  induction l with
  | nil => cases hb
  | cons a r ih =>
    obtain ⟨h1, h2⟩ := List.nodup_cons.1 hl
    simp only [List.map_cons, List.sum_cons]
    by_cases e : a = b
    · subst e
      rw [if_pos rfl]
      have : (r.map fun c => if c = a then x else f c) = r.map f := List.map_congr_left fun c hc => if_neg fun (e : c = a) => h1 (by rw [← e]; exact hc)
      rw [this]; omega
    · rw [if_neg e]
      have := ih h2 ((List.mem_cons.1 hb).resolve_left (Ne.symm e))
      omega
abbrev sizes (kids : UInt8 → T) : Nat := (byt.map fun c => (kids c).er.size).sum
theorem sizes_upd (kids : UInt8 → T) (b : UInt8) (t : T) : sizes (updT kids b t) + (kids b).er.size = sizes kids + t.er.size := by
  have := sum_upd (Rise.nodup byt_sorted) (byt_mem b) (fun c => (kids c).er.size) t.er.size
  have e : (byt.map fun c => (updT kids b t c).er.size) = byt.map fun c => if c = b then t.er.size else (kids c).er.size := by
    refine List.map_congr_left fun c _ => ?_
    unfold updT; split <;> rfl
  show (byt.map fun c => (updT kids b t c).er.size).sum + _ = _
  rw [e]; exact this
theorem sizes_no : sizes (fun _ => T.nil) = 0 := by
  show (byt.map fun _ => 0).sum = 0
  have : ∀ l : List UInt8, (l.map fun _ => 0).sum = 0 := by
    intro l; induction l with
    | nil => rfl
    | cons a r ih => simp [ih]
  exact this byt
/-- all nodes are the owner's -/
def T.Owned (o : Nat) : T → Prop
  | .nil => True
  | .node _ ow _ _ _ kids => ow = o ∧ ∀ c, (kids c).Owned o
theorem T.er_nil {t : T} (h : t.er = .nil) : t = .nil := by cases t with
  | nil => rfl
  | node => cases h
theorem T.node_of {t : T} (h : t.er.opt.isSome) : ∃ a ow p v ks kids, t = .node a ow p v ks kids := by cases t with
  | nil => cases h
  | node a ow p v ks kids => exact ⟨a, ow, p, v, ks, kids, rfl⟩
variable [Floor]
section
theorem NTy.maker {T' : TypeId} (h : T' = T_node_Node ∨ KT T') : T' ≠ T_canon_maker := by
  rcases h with rfl | rfl | rfl | rfl | rfl | rfl <;> decide
/-- what was made stays, when the meter counts on -/
theorem Res.mt {w w1 w2 : World} {o : Nat} {t t' : T} {mt : Option Mtr} {n n2 : Nat} (h : Res w w1 o t t' mt n) (e : Ext (MX mt) w1 w2) (hm : Mt w2 mt n2) : Res w w2 o t t' mt n2 :=
  ⟨h.tree.extM h.cnt e, h.ext.transS (e.mono fun _ _ hb => .inl hb), hm, h.all, h.foot, h.sep⟩
/-- out of nothing only new things come, and the meter counts -/
theorem Res.extM {w w1 : World} {o : Nat} {t' : T} {mt : Option Mtr} {n : Nat} (h : Res w w1 o .nil t' mt n) : Ext (MX mt) w w1 := h.ext.mono fun b _ hb => hb.elim id fun h => h.elim
theorem Res.new {w w1 : World} {o : Nat} {t' : T} {mt : Option Mtr} {n : Nat} (h : Res w w1 o .nil t' mt n) {b : Nat} (hb : t'.All b) : w.heap.size ≤ b := (h.all b hb).elim (fun h => h.elim) id
theorem NA.nbp {w : World} {a ow : Nat} {part : Key} {val : Option Nat} {ks : List Nat} {m : UInt8 → Option Addr} (h : NA w a ow part val ks m) : NBP w (NX a ks) := by
  have key : ∀ T : TypeId, T_node_Node ≠ T → (∀ T', KT T' → T' ≠ T) → NBT T w (NX a ks) := fun T h1 h2 b hb _ => by
    rcases hb with rfl | hb
    · obtain ⟨pv, hb, -⟩ := h.blk
      exact ⟨h.new.1, _, _, hb, h1⟩
    · obtain ⟨cs, T', h3, h4⟩ := h.kd.ty b hb
      exact ⟨h.new.2 b hb, cs, T', h3, h2 T' h4⟩
  refine ⟨key _ (by decide) ?_, key _ (by decide) ?_, key _ (by decide) ?_⟩ <;> (intro T' h'; rcases h' with rfl | rfl | rfl | rfl | rfl <;> decide)
theorem NBP.sub {w : World} {X Y : Nat → Prop} (h : NBP w X) (hs : ∀ b, Y b → X b) : NBP w Y := ⟨fun b hb => h.b b (hs b hb), fun b hb => h.p b (hs b hb), fun b hb => h.q b (hs b hb)⟩
end
end Go.Proofs.YtbfnagdpanfphaaGreatDoor
end
