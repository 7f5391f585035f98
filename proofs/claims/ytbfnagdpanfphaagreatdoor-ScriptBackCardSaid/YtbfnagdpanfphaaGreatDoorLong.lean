/-  the longest key of a tree.  -/
import Derived.Test.YtbfnagdpanfphaaGreatDoorMap
namespace Go.Proofs.YtbfnagdpanfphaaGreatDoor
open Go Go.RowKit X
set_option linter.unusedSimpArgs false
set_option linter.unusedVariables false
set_option linter.unusedSectionVars false
theorem Can.sub {e : E} {g : Key → Option Nat} {way p : Key} {part : Key} {val : Option Nat} {kids : UInt8 → E} (h : Can e g) (hf : (E.node part val kids).Fine) (hg : ∀ r, e.get (way ++ r) = (E.node part val kids).get r) (h1 : way <+: p) (h2 : p <+: way ++ part) :
    Can (.node (way ++ part) val kids) fun k => if p <+: k then g k else Option.none := by
  refine ⟨fine_part hf, fun k => ?_⟩
  by_cases hp : p <+: k
  · rw [if_pos hp]
    obtain ⟨s, rfl⟩ := h1.trans hp
    rw [partE_get (q := []) (b := []), if_pos (List.prefix_append _ _), List.drop_left, ← hg, h.get]
  · rw [if_neg hp]
    exact get_no fun h => hp (h2.trans h)
theorem Can.strip {e : E} {g : Key → Option Nat} {way p : Key} {part : Key} {val : Option Nat} {kids : UInt8 → E} (h : Can e g) (hf : (E.node part val kids).Fine) (hg : ∀ r, e.get (way ++ r) = (E.node part val kids).get r) (h1 : way <+: p) (h2 : p <+: way ++ part) :
    Can (.node (part.drop (p.length - way.length)) val kids) fun k => g (p ++ k) := by
  refine ⟨fine_part hf, fun k => ?_⟩
  obtain ⟨a, rfl⟩ := h1
  obtain ⟨b, hb⟩ := h2
  rw [List.append_assoc] at hb
  have hb := List.append_cancel_left hb
  subst hb
  rw [List.length_append, Nat.add_sub_cancel_left, List.drop_left, ← h.get, List.append_assoc, hg]
  rw [partE_get (q := []) (a := a) (b := []), if_pos (List.prefix_append _ _), List.drop_left]
theorem Can.under {e : E} {g : Key → Option Nat} (h : Can e g) (p : Key) : ∀ {part : Key} {val : Option Nat} {kids : UInt8 → E}, e = .node part val kids → Can (.node (p ++ part) val kids) fun k => if p <+: k then g (k.drop p.length) else Option.none := by
  rintro part val kids rfl
  refine ⟨fine_part h.fine, fun k => ?_⟩
  rw [partE_get (q := []) (b := [])]
  split
  · rw [h.get]
  · rfl
theorem maxL_filter (p : UInt8 → Bool) (f : UInt8 → Nat) (l : List UInt8) : maxL (l.map fun c => if p c then f c else 0) = maxL ((l.filter p).map f) := by
  induction l with
  | nil => rfl
  | cons a r ih =>
    rw [List.map_cons, maxL, ih, List.filter_cons]
    split
    · rw [List.map_cons, maxL]
    · simp
theorem E.long_node (part : Key) (val : Option Nat) (kids : UInt8 → E) : (E.node part val kids).long = maxL ((dom fun c => (kids c).opt).map fun c => (kids c).long + 1) + part.length := by
  rw [E.long]
  congr 1
  exact maxL_filter (fun c => (kids c).opt.isSome) (fun c => (kids c).long + 1) byt
/-- the longest key -/
theorem E.long_le : ∀ {e : E} {k : Key} {v : Nat}, e.get k = some v → k.length ≤ e.long := by
  intro e
  induction e with
  | nil => intro k v h; cases h
  | node part val kids ih =>
    intro k v h
    obtain ⟨s, rfl⟩ := E.get_pre h
    rw [E.long_node, List.length_append]
    cases s with
    | nil => simp
    | cons c s =>
      rw [get_cons] at h
      have h1 := ih c h
      have h2 : c ∈ dom fun c => (kids c).opt := dom_mem.2 (by
        refine E.isSome_iff.2 fun e => ?_
        rw [e] at h; cases h)
      have := maxL_le (l := (dom fun c => (kids c).opt).map fun c => (kids c).long + 1) (List.mem_map.2 ⟨c, h2, rfl⟩)
      simp only [List.length_cons]
      omega
theorem maxL_mem {l : List Nat} (h : l ≠ []) : maxL l ∈ l := by
  induction l with
  | nil => exact absurd rfl h
  | cons a r ih =>
    rw [maxL]
    cases r with
    | nil => simp [maxL]
    | cons b s =>
      have := ih (by simp)
      rcases Nat.le_total a (maxL (b :: s)) with h | h
      · rw [Nat.max_eq_right h]; exact List.mem_cons_of_mem _ this
      · rw [Nat.max_eq_left h]; exact List.mem_cons_self
theorem E.long_ex : ∀ {e : E}, e.Fine → e ≠ .nil → ∃ k v, e.get k = some v ∧ k.length = e.long := by
  intro e
  induction e with
  | nil => intro _ h; exact absurd rfl h
  | node part val kids ih =>
    intro hf _
    obtain ⟨h1, h2, h3⟩ := fine_of hf
    rw [E.long_node]
    by_cases hc : (dom fun c => (kids c).opt) = []
    · have h0 : cntE kids = 0 := by show (dom fun c => (kids c).opt).length = 0; rw [hc]; rfl
      obtain ⟨v, hv⟩ := Option.isSome_iff_exists.1 (h1 h0)
      exact ⟨part, v, by rw [get_nil, hv], by rw [hc]; simp [maxL]⟩
    · have hm := maxL_mem (l := (dom fun c => (kids c).opt).map fun c => (kids c).long + 1) (by simpa using hc)
      obtain ⟨c, hcd, hce⟩ := List.mem_map.1 hm
      obtain ⟨k, v, hk, hl⟩ := ih c (h3 c) (E.isSome_iff.1 (dom_mem.1 hcd))
      refine ⟨part ++ c :: k, v, by rw [get_cons, hk], ?_⟩
      rw [← hce, List.length_append, List.length_cons, hl]
      omega
/-- .. of pairs -/
theorem Can.long {e : E} {l : Kv} (h : Can e (look l)) (hr : Rises l) : e.long = maxL (l.map fun p => p.1.length) := by
  apply Nat.le_antisymm
  · by_cases e0 : e = .nil
    · subst e0; exact Nat.zero_le _
    · obtain ⟨k, v, hk, hl⟩ := E.long_ex h.fine e0
      rw [h.get] at hk
      rw [← hl]
      exact maxL_le (List.mem_map.2 ⟨(k, v), look_mem hk, rfl⟩)
  · refine maxL_le' fun m hm => ?_
    obtain ⟨p, hp, rfl⟩ := List.mem_map.1 hm
    exact E.long_le (v := p.2) (by rw [h.get]; exact hr.lk hp)
end Go.Proofs.YtbfnagdpanfphaaGreatDoor
