/-  canon.each: all nodes of a tree, from the top, with the bytes on the way to them.  -/
import Derived.Test.YtbfnagdpanfphaaGreatDoorCanon
import Derived.Test.YtbfnagdpanfphaaGreatDoorStr
import Derived.Test.YtbfnagdpanfphaaGreatDoorSub
namespace Go.Proofs.YtbfnagdpanfphaaGreatDoor
open Go Go.RowKit X
set_option linter.unusedSimpArgs false
set_option linter.unusedVariables false
set_option linter.unusedSectionVars false
/-- the nodes of a tree, as they are come to -/
def T.nodes : T → Key → List (Key × T)
  | .nil, _ => []
  | .node a ow part val ks kids, way => (way ++ part, .node a ow part val ks kids) :: byt.flatMap fun c => (kids c).nodes (way ++ part ++ [c])
theorem flatMap_filter {α β : Type} {p : α → Bool} {f : α → List β} : ∀ {l : List α}, (∀ c, p c = false → f c = []) → (l.filter p).flatMap f = l.flatMap f := by
  intro l h
  induction l with
  | nil => rfl
  | cons a l ih =>
    rw [List.filter_cons]
    cases hp : p a with
    | true => rw [if_pos rfl, List.flatMap_cons, List.flatMap_cons, ih]
    | false => rw [if_neg (by simp), List.flatMap_cons, ih, h a hp]; rfl
theorem T.nodes_node {a ow : Nat} {part : Key} {val : Option Nat} {ks : List Nat} {kids : UInt8 → T} {way : Key} : (T.node a ow part val ks kids).nodes way = (way ++ part, .node a ow part val ks kids) :: (dom (ptrs kids)).flatMap fun c => (kids c).nodes (way ++ part ++ [c]) := by
  rw [T.nodes]
  unfold dom
  rw [flatMap_filter]
  intro c hc
  cases h : kids c with
  | nil => rfl
  | node => simp [ptrs, h, T.ptr] at hc
variable [Floor]
theorem Bs.new' {w : World} {b : Nat} {k : Key} (h : Blk w b (k.map bv) T_uint8) : Bs w (.slice (some ⟨b, 0, none⟩) k.length k.length) k := by
  have := h.sl (o := 0) (n := k.length) (cap := k.length) (by simp) (Nat.le_refl _)
  rw [List.drop_zero, List.take_of_length_le (by simp)] at this
  exact Bs.of this
/-- what holds of a world, of the nodes come to so far, and of the blocks it hangs on -/
abbrev EachI := World → List (Key × T) → (Nat → Prop) → Prop
/-- what is asked of the one who is told of the nodes -/
structure EachF (w0 : World) (fid : Nat) (cap : Array Value) (I : EachI) (good : Key → T → Prop) (N : List (Key × T)) : Prop where
  bod : bodied P fid = true
  ext : ∀ {w w' : World} {s : List (Key × T)} {D X : Nat → Prop}, I w s D → Ext X w w' → (∀ b, D b → ¬ X b) → I w' s D
  lt : ∀ {w : World} {s : List (Key × T)} {D : Nat → Prop}, I w s D → ∀ b, D b → w0.heap.size ≤ b ∧ b < w.heap.size
  call : ∀ {w : World} {s : List (Key × T)} {D : Nat → Prop} {key : Key} {vk : Value} {t : T}, I w s D → Ext No w0 w → Tree w t → good key t → (∃ r, s ++ (key, t) :: r = N) → Bs w vk key →
    Ret P fid ([vk, t.v] ++ cap.toList) w fun v w' => ∃ D', I w' (s ++ [(key, t)]) D' ∧ (∀ b, D' b → D b ∨ w.heap.size ≤ b) ∧ Ext D w w'
theorem Own.back {w w' : World} {B : Nat} {v v1 : Value} {xs ys : List Value} {n m : Nat} {X : Nat → Prop} (h : Own w B T_uint8 1 v n xs) (h1 : Own w B T_uint8 1 v1 (n + m) (xs ++ ys)) (h' : Own w' B T_uint8 1 v1 (n + m) (xs ++ ys)) (e : Ext X w w') (hx : ∀ b, v.ownBlock = some b → v1.ownBlock ≠ some b → ¬ X b) : Own w' B T_uint8 1 v n xs := by
  obtain ⟨hl, hh⟩ := h
  refine ⟨hl, ?_⟩
  rcases hh with hn | ⟨g, cap, cur, rfl, hb, hg, hnc, hm, hs, ht⟩
  · exact .inl hn
  · by_cases hv : v1.ownBlock = some g
    · rcases h1.2 with ⟨rfl, -⟩ | ⟨g1, cap1, cur1, rfl, hb1, hg1, hnc1, hm1, hs1, ht1⟩
      · cases hv
      · simp only [Value.ownBlock, Option.some.injEq] at hv
        subst hv
        rcases h'.2 with ⟨h2, -⟩ | ⟨g2, cap2, cur2, hv2, hb2, hg2, hnc2, hm2, hs2, ht2⟩
        · cases h2
        · simp only [Value.slice.injEq, Option.some.injEq, Addr.mk.injEq] at hv2
          obtain ⟨⟨rfl, -⟩, -, rfl⟩ := hv2
          have hcc : cur = cur1 := by
            have := hg.symm.trans hg1
            simpa using this
          subst hcc
          have hcap : cap = cap1 := by
            have := hs.symm.trans hs1
            omega
          subst hcap
          refine .inr ⟨g1, cap, cur2, rfl, hb, hg2, hnc, hm, hs2, ?_⟩
          have h3 := congrArg (List.take (n * 1)) ht2
          rw [List.take_take, Nat.min_eq_left (by omega), List.take_left' hl] at h3
          exact h3
    · have := hx g rfl hv
      exact .inr ⟨g, cap, cur, rfl, hb, by rw [e.same g (lt_of_get hg) this]; exact hg, hnc, hm, hs, ht⟩
section
variable {w0 : World} {fid : Nat} {cap : Array Value} {I : EachI} {good : Key → T → Prop} {N : List (Key × T)} {fb db : Nat} {Tf : TypeId} {B : Nat}
end
section
variable {w0 : World} {fid : Nat} {cap : Array Value} {I : EachI} {good : Key → T → Prop}
end
/-- the nodes that are come to: their way, their shape -/
theorem T.nodes_good : ∀ {t : T} {way : Key}, t.er.Fine → t.Leafy → ∀ x ∈ t.nodes way, x.1.length ≤ way.length + t.er.long ∧ x.2.er.Fine ∧ x.2.Leafy ∧ x.2 ≠ .nil := by
  intro t
  induction t with
  | nil => intro way _ _ x hx; cases hx
  | node a ow part val ks kids ih =>
    intro way hf hl x hx
    rw [T.nodes_node] at hx
    have hlong : (T.node a ow part val ks kids).er.long = maxL ((dom (ptrs kids)).map fun c => (kids c).er.long + 1) + part.length := by
      show (E.node part val fun c => (kids c).er).long = _
      rw [E.long_node, dom_er]
    rw [hlong]
    rcases List.mem_cons.1 hx with rfl | hx
    · exact ⟨by simp, hf, hl, by simp⟩
    · obtain ⟨c, hc, hx⟩ := List.mem_flatMap.1 hx
      have hcl := maxL_le (l := (dom (ptrs kids)).map fun c => (kids c).er.long + 1) (List.mem_map.2 ⟨c, hc, rfl⟩)
      obtain ⟨h1, h2⟩ := ih c (hf.2 c) (hl.2 c) x hx
      exact ⟨by simp at h1; omega, h2⟩
end Go.Proofs.YtbfnagdpanfphaaGreatDoor
