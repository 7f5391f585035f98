/-  canon: how many pairs a tree has, and which.  -/
import Derived.Test.YtbgfmgkimccbeaaGreatDoorEach
import Derived.Test.YtbgfmgkimccbeaaGreatDoorPs
import Derived.Test.YtbgfmgkimccbeaaGreatDoorRefK
namespace Go.Proofs.YtbgfmgkimccbeaaGreatDoor
open Go Go.RowKit X
set_option linter.unusedSimpArgs false
set_option linter.unusedVariables false
set_option linter.unusedSectionVars false
/-- the pairs of nodes that were come to -/
def kvOf (s : List (Key × T)) : Kv := s.flatMap fun x => valL x.1 x.2.val
theorem kvOf_app (s t : List (Key × T)) : kvOf (s ++ t) = kvOf s ++ kvOf t := List.flatMap_append
theorem kvOf_nodes : ∀ (t : T) (way : Key), kvOf (t.nodes way) = t.er.list way := by
  intro t
  induction t with
  | nil => intro way; rfl
  | node a ow part val ks kids ih =>
    intro way
    rw [T.nodes_node]
    show valL (way ++ part) val ++ kvOf _ = (E.node part val fun c => (kids c).er).list way
    rw [E.list]
    congr 1
    have e : dom (fun c => ((kids c).er).opt) = dom (ptrs kids) := X.cnt_congr fun c => T.er_opt (kids c)
    rw [e]
    unfold kvOf
    rw [List.flatMap_assoc]
    congr 1
    funext c
    exact ih c _
variable [Floor]
theorem oth_api : Oth T_api_Pair := by unfold Oth; decide
theorem Own.nb1 {w : World} {B : Nat} {e : TypeId} {sz n : Nat} {v : Value} {xs : List Value} (h : Own w B e sz v n xs) (hf : Floor.n ≤ B) {T : TypeId} (ht : e ≠ T) : NBT T w (fun b => v.ownBlock = some b) := fun b hb _ => by
  rcases h.2 with ⟨rfl, -⟩ | ⟨g, cap, cur, rfl, hg, hc, -⟩
  · cases hb
  · simp only [Value.ownBlock, Option.some.injEq] at hb
    subst hb
    exact ⟨by omega, cur.toList, e, ⟨hc⟩, ht⟩
theorem one_own {w : World} {B : Nat} {e : TypeId} {sz n : Nat} {v : Value} {xs : List Value} (h : Own w B e sz v n xs) : v.oneCell' = true := by
  rcases h.2 with ⟨rfl, -⟩ | ⟨g, cap, cur, rfl, -⟩ <;> rfl
/-- a copy of bytes is the call's own -/
theorem c_CloneO {w : World} {va : Value} {a : List UInt8} (ha : Bs w va a) (la : a.length ≤ 140737488355328) : Ret P n_bytes_Clone [va] w fun v w' => Own w' w.heap.size T_uint8 1 v a.length (a.map bv) ∧ Ext No w w' := by
  refine W_bytes_Clone ?_
  obtain ⟨ad, cap, rfl⟩ := ha.slice
  cases ad with
  | none =>
    have : a = [] := by
      obtain ⟨ad, cap', h, hl, hc, hx⟩ := ha
      simp only [Value.slice.injEq] at h
      obtain ⟨rfl, -, rfl⟩ := h
      exact List.eq_nil_of_length_eq_zero (by have : cap = 0 := hx; omega)
    subst this
    exact ⟨Own.nil w _ T_uint8 1, Ext.refl _ _⟩
  | some ad =>
    refine xnew fun b w1 hb hblk hsz he => ?_
    refine app_own ei_u8 (B := w.heap.size) (n := 0) (xs := []) (m := a.length) ⟨rfl, .inr ⟨b, 0, _, rfl, by omega, hblk.h, by omega, by decide, rfl, rfl⟩⟩ (by omega) (ha.extN he) ha.one (by omega) (by omega) fun v' w' ho h1 _ _ => ?_
    refine ⟨by simpa using ho, he.trans1 (b := b) (h1.mono fun c _ h => ?_) (by omega)⟩
    simp only [Value.ownBlock, Option.some.injEq] at h
    exact h.symm
theorem Own.neK {w : World} {B : Nat} {e : TypeId} {sz n : Nat} {v : Value} {xs : List Value} (h : Own w B e sz v n xs) {b : Nat} {cs : List Value} {T : TypeId} (hb : Blk w b cs T) (ht : e ≠ T) (hv : v.ownBlock = some b) : False := by
  rcases h.2 with ⟨rfl, -⟩ | ⟨g, cap, cur, rfl, -, hg, -⟩
  · cases hv
  · simp only [Value.ownBlock, Option.some.injEq] at hv
    subst hv
    have := hg.symm.trans hb.h
    simp at this
    exact ht this.2
/-- the keys that are come to are not long -/
theorem T.nodes_len : ∀ {t : T} {way : Key}, ∀ x ∈ t.nodes way, x.1.length ≤ way.length + t.er.long := by
  intro t
  induction t with
  | nil => intro way x hx; cases hx
  | node a ow part val ks kids ih =>
    intro way x hx
    rw [T.nodes_node] at hx
    have hlong : (T.node a ow part val ks kids).er.long = maxL ((dom (ptrs kids)).map fun c => (kids c).er.long + 1) + part.length := by
      show (E.node part val fun c => (kids c).er).long = _
      rw [E.long_node, dom_er]
    rw [hlong]
    rcases List.mem_cons.1 hx with rfl | hx
    · simp
    · obtain ⟨c, hc, hx⟩ := List.mem_flatMap.1 hx
      have hcl := maxL_le (l := (dom (ptrs kids)).map fun c => (kids c).er.long + 1) (List.mem_map.2 ⟨c, hc, rfl⟩)
      have h1 := ih c x hx
      simp at h1
      omega
/-- pairs whose keys are the call's own -/
structure PCo (w : World) (B : Nat) (l : Kv) (cells : List Value) : Prop where
  len : cells.length = l.length * 2
  at_ : ∀ i p, l[i]? = some p → ∃ kv, cells[i * 2]? = some kv ∧ Own w B T_uint8 1 kv p.1.length (p.1.map bv) ∧ cells[i * 2 + 1]? = some (u64 p.2) ∧ p.2 < 18446744073709551616
theorem PCo.pc {w : World} {B : Nat} {l : Kv} {cells : List Value} (h : PCo w B l cells) : PC w l cells :=
  ⟨h.len, fun i p hp => let ⟨kv, h1, h2, h3⟩ := h.at_ i p hp; ⟨kv, h1, Bs.of h2.sl, h3⟩⟩
theorem PCo.ext {w w' : World} {B : Nat} {X : Nat → Prop} {l : Kv} {cells : List Value} (h : PCo w B l cells) (e : Ext X w w') (hx : ∀ kv ∈ cells, ∀ b, kv.ownBlock = some b → ¬ X b) : PCo w' B l cells :=
  ⟨h.len, fun i p hp => let ⟨kv, h1, h2, h3⟩ := h.at_ i p hp; ⟨kv, h1, h2.ext e (hx kv (List.mem_of_getElem? h1)), h3⟩⟩
theorem PCo.app1 {w : World} {B : Nat} {l : Kv} {cells : List Value} {k : Key} {x : Nat} {kv : Value} (h : PCo w B l cells) (hk : Own w B T_uint8 1 kv k.length (k.map bv)) (hx : x < 18446744073709551616) : PCo w B (l ++ [(k, x)]) (cells ++ [kv, u64 x]) := by
  refine ⟨by simp [h.len]; omega, fun i p hp => ?_⟩
  have hl := h.len
  rcases Nat.lt_or_ge i l.length with hi | hi
  · rw [List.getElem?_append_left hi] at hp
    rw [List.getElem?_append_left (by omega), List.getElem?_append_left (by omega)]
    exact h.at_ i p hp
  · rw [List.getElem?_append_right hi] at hp
    have : i - l.length = 0 := by
      rcases Nat.eq_zero_or_pos (i - l.length) with h | h
      · exact h
      · rw [List.getElem?_eq_none (by simp; omega)] at hp; cases hp
    have hi : i = l.length := by omega
    subst hi
    simp at hp
    subst hp
    refine ⟨kv, by rw [List.getElem?_append_right (by omega), hl]; simp, hk, by rw [List.getElem?_append_right (by omega), hl]; simp, hx⟩
/-- the blocks that pairs hang on -/
def KB (cells : List Value) (b : Nat) : Prop := ∃ kv ∈ cells, kv.ownBlock = some b
theorem PCo.kb {w : World} {B : Nat} {l : Kv} {cells : List Value} (h : PCo w B l cells) {b : Nat} (hb : KB cells b) : ∃ k : Key, ∃ kv, kv.ownBlock = some b ∧ Own w B T_uint8 1 kv k.length (k.map bv) := by
  obtain ⟨kv, hm, hk⟩ := hb
  obtain ⟨j, hj, rfl⟩ := List.mem_iff_getElem.1 hm
  have hl := h.len
  obtain ⟨kv', h1, h2, h3, -⟩ := h.at_ (j / 2) l[j / 2] (List.getElem?_eq_getElem (by omega))
  rcases Nat.mod_two_eq_zero_or_one j with e | e
  · rw [show j / 2 * 2 = j by omega, List.getElem?_eq_getElem hj] at h1
    obtain rfl := Option.some.inj h1
    exact ⟨_, _, hk, h2⟩
  · rw [show j / 2 * 2 + 1 = j by omega, List.getElem?_eq_getElem hj] at h3
    rw [Option.some.inj h3] at hk
    cases hk
/-- the row of pairs that a variable holds -/
def RowV (B qb : Nat) (w : World) (l : Kv) (D : Nat → Prop) : Prop :=
  ∃ v cells, D = (fun b => b = qb ∨ v.ownBlock = some b ∨ KB cells b) ∧ Blk w qb [v] T_s_api_Pair ∧ B ≤ qb ∧ Own w B T_api_Pair 2 v l.length cells ∧ PCo w B l cells
end Go.Proofs.YtbgfmgkimccbeaaGreatDoor
