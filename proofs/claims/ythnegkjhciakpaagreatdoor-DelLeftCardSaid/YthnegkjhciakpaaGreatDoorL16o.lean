/-  law16: DelLeft.  -/
import Derived.Test.YthnegkjhciakpaaGreatDoorL16n
import Derived.Test.YthnegkjhciakpaaGreatDoorL16
namespace Go.Proofs.YthnegkjhciakpaaGreatDoor
open Go Go.RowKit X
set_option linter.unusedSimpArgs false
set_option linter.unusedVariables false
set_option linter.unusedSectionVars false
variable [Floor]
section
variable {w : World} {t : T} {ds : Key}
theorem kidL_mem {p : UInt8 × T} (h : p ∈ kidL t ds byt) : keepK t ds p.1 = true ∧ p.2 = t.kid p.1 := by
  obtain ⟨c, hc, rfl⟩ := List.mem_map.1 h
  exact ⟨(List.mem_filter.1 hc).2, rfl⟩
theorem kidL_up : UpK (kidL t ds byt) := List.pairwise_map.2 (List.Pairwise.filter _ byt_sorted)
theorem kidL_some {p : UInt8 × T} (h : p ∈ kidL t ds byt) : p.2 ≠ .nil := fun e => by
  obtain ⟨h1, h2⟩ := kidL_mem h
  unfold keepK at h1
  rw [← h2, e] at h1
  cases h1
theorem kidL_len : (kidL t ds byt).length ≤ 256 := by
  unfold kidL
  rw [List.length_map]
  have h1 := List.length_filter_le (keepK t ds) byt
  rw [byt_len] at h1
  exact h1
theorem kidL_fst {c : UInt8} : c ∈ (kidL t ds byt).map Prod.fst ↔ keepK t ds c = true := by
  constructor
  · intro h
    obtain ⟨p, hp, rfl⟩ := List.mem_map.1 h
    exact (kidL_mem hp).1
  · intro h
    exact List.mem_map.2 ⟨(c, t.kid c), List.mem_map.2 ⟨c, List.mem_filter.2 ⟨byt_mem c, h⟩, rfl⟩, rfl⟩
theorem kidL_set (c : UInt8) : setK (kidL t ds byt) c = if c ∈ (kidL t ds byt).map Prod.fst then t.kid c else .nil := by
  by_cases h : c ∈ (kidL t ds byt).map Prod.fst
  · rw [if_pos h]
    obtain ⟨p, hp, rfl⟩ := List.mem_map.1 h
    rw [setK_mem kidL_up hp, (kidL_mem hp).2]
  · rw [if_neg h]
    by_cases e : setK (kidL t ds byt) c = .nil
    · exact e
    · obtain ⟨p, hp, e1, -⟩ := setK_some e
      exact absurd (List.mem_map.2 ⟨p, hp, e1⟩) h
theorem kidL_tree {p : UInt8 × T} (ht : Tree w t) (h : p ∈ kidL t ds byt) : Tree w p.2 := by
  rw [(kidL_mem h).2]
  cases t with
  | nil => trivial
  | node => exact ht.2 _
/-- if all pairs stay, all kids do -/
theorem kidL_all {a ow : Nat} {part : Key} {v0 : Option Nat} {ks : List Nat} {kids : UInt8 → T} {val : Option Nat} {m : Kv} (he : Can (T.node a ow part v0 ks kids).er (look m))
    (h : leftK part val ((kidL (.node a ow part v0 ks kids) ds byt).map Prod.fst) m = m) : v0 = val ∧ cnt (ptrs kids) = (kidL (.node a ow part v0 ks kids) ds byt).length ∧ ∀ p ∈ kidL (.node a ow part v0 ks kids) ds byt, (kids p.1).ptr = p.2.ptr := by
  generalize hB : (kidL (.node a ow part v0 ks kids) ds byt).map Prod.fst = bs at h
  have hlk := left_look (val := val) (bs := bs) (kids' := fun c => if c ∈ bs then (kids c).er else .nil) he fun c => rfl
  have hlk2 : ∀ k, (E.node part v0 fun c => (kids c).er).get k = (E.node part val fun c => if c ∈ bs then (kids c).er else .nil).get k := fun k => by
    rw [hlk k, h]; exact he.get k
  refine ⟨?_, ?_, fun p hp => by rw [(kidL_mem hp).2]; rfl⟩
  · have h1 := hlk2 part
    rw [get_nil, get_nil] at h1
    exact h1
  · unfold kidL
    rw [List.length_map]
    show (dom (ptrs kids)).length = _
    unfold dom
    congr 1
    refine List.filter_congr fun c _ => ?_
    by_cases hc : kids c = .nil
    · have h1 : (ptrs kids c).isSome = false := by show (kids c).ptr.isSome = false; rw [hc]; rfl
      have h2 : keepK (.node a ow part v0 ks kids) ds c = false := by unfold keepK; show ((kids c).ptr.isSome && _) = false; rw [hc]; rfl
      rw [h1, h2]
    · have h1 : (ptrs kids c).isSome = true := T.ptr_some hc
      rw [h1]
      obtain ⟨k, v, hk⟩ := E.Fine.some_key (he.fine.2 c) (by cases hq : kids c with | nil => exact absurd hq hc | node => (show (kids c).er ≠ E.nil; rw [hq]; simp [T.er]))
      have h2 := hlk2 (part ++ c :: k)
      rw [get_cons, get_cons, hk] at h2
      by_cases hcb : c ∈ bs
      · rw [← hB] at hcb
        exact (kidL_fst.1 hcb).symm
      · rw [if_neg hcb] at h2
        cases h2
end
end Go.Proofs.YthnegkjhciakpaaGreatDoor
