/-  trees, as they are told of: what they hold by keys, when they are canonical, and that the canonical tree of what is held is one.  -/
import Derived.Test.YtbleadagnpckbaaGreatDoorMap
namespace Go.Proofs.YtbleadagnpckbaaGreatDoor
open Go X
set_option linter.unusedSimpArgs false
set_option linter.unusedVariables false

abbrev Key := List UInt8

/-- a tree without its places -/
inductive E where
  | nil : E
  | node (part : Key) (val : Option Nat) (kids : UInt8 → E) : E
/-- a tree, with its places, owners, and the blocks of its kids (none: a leaf) -/
inductive T where
  | nil : T
  | node (a ow : Nat) (part : Key) (val : Option Nat) (ks : List Nat) (kids : UInt8 → T) : T
def E.opt : E → Option Unit
  | .nil => none
  | .node .. => some ()
def T.ptr : T → Option Addr
  | .nil => none
  | .node a .. => some ⟨a, 0, none⟩
def T.er : T → E
  | .nil => .nil
  | .node _ _ part val _ kids => .node part val fun c => (kids c).er
theorem T.er_opt (t : T) : t.er.opt.isSome = t.ptr.isSome := by cases t <;> rfl
theorem X.cnt_congr {α β : Type} {m : UInt8 → Option α} {m' : UInt8 → Option β} (h : ∀ c, (m c).isSome = (m' c).isSome) : dom m = dom m' := by
  unfold dom
  exact List.filter_congr fun c _ => h c
theorem X.cnt_congr' {α β : Type} {m : UInt8 → Option α} {m' : UInt8 → Option β} (h : ∀ c, (m c).isSome = (m' c).isSome) : cnt m = cnt m' := by unfold cnt; rw [cnt_congr h]

/-- what a tree holds by a key -/
def E.get : E → Key → Option Nat
  | .nil, _ => none
  | .node part val kids, k => if part <+: k then (match k.drop part.length with | [] => val | c :: r => (kids c).get r) else none
def T.get (t : T) (k : Key) : Option Nat := t.er.get k
def one (val : Option Nat) : Nat := if val.isSome then 1 else 0
/-- canonical: a node has a value, or parts -/
def E.Fine : E → Prop
  | .nil => True
  | .node _ val kids => (if cnt (fun c => (kids c).opt) = 0 then val.isSome = true else 2 ≤ cnt (fun c => (kids c).opt) + one val) ∧ ∀ c, (kids c).Fine
/-- that leaves are just those without kids -/
def T.Leafy : T → Prop
  | .nil => True
  | .node _ _ _ _ ks kids => (ks = [] ↔ cnt (fun c => (kids c).ptr) = 0) ∧ ∀ c, (kids c).Leafy
def T.Fine (t : T) : Prop := t.er.Fine ∧ t.Leafy

theorem E.get_app (part : Key) (val : Option Nat) (kids : UInt8 → E) (r : Key) : (E.node part val kids).get (part ++ r) = match r with | [] => val | c :: s => (kids c).get s := by
  rw [E.get, if_pos (List.prefix_append _ _), List.drop_left]
  cases r <;> rfl
theorem E.get_pre {part : Key} {val : Option Nat} {kids : UInt8 → E} {k : Key} {v : Nat} (h : (E.node part val kids).get k = some v) : part <+: k := by
  rw [E.get] at h
  split at h
  · assumption
  · cases h
theorem E.Fine.some_key : ∀ {e : E}, e.Fine → e ≠ .nil → ∃ k v, e.get k = some v := by
  intro e
  induction e with
  | nil => intro _ h; exact absurd rfl h
  | node part val kids ih =>
    intro hf _
    obtain ⟨h1, h2⟩ := hf
    cases hv : val with
    | some v => exact ⟨part, v, by have := E.get_app part (some v) kids []; simpa using this⟩
    | none =>
      subst hv
      split at h1
      · cases h1
      · rename_i hc
        have : ∃ c, (kids c).opt.isSome := by
          rcases List.exists_mem_of_length_pos (l := dom fun c => (kids c).opt) (by unfold cnt at hc; omega) with ⟨c, hc'⟩
          exact ⟨c, dom_mem.1 hc'⟩
        obtain ⟨c, hc'⟩ := this
        obtain ⟨k, v, hk⟩ := ih c (h2 c) (fun e => by rw [e] at hc'; cases hc')
        exact ⟨part ++ c :: k, v, by rw [E.get_app]; exact hk⟩
theorem two_mem {l : List UInt8} (hl : l.Nodup) (h : 2 ≤ l.length) : ∃ c d, c ∈ l ∧ d ∈ l ∧ c ≠ d := by
  match l with
  | [] => simp at h
  | [a] => simp at h
  | a :: b :: r => exact ⟨a, b, by simp, by simp, fun e => by subst e; simp at hl⟩
theorem prefix_part {p q : Key} {c d : UInt8} {r s : Key} (hne : c ≠ d) (h1 : p <+: q ++ c :: r) (h2 : p <+: q ++ d :: s) : p <+: q := by
  rcases Nat.lt_or_ge q.length p.length with h | h
  · exfalso
    obtain ⟨x, hx⟩ := h1
    obtain ⟨y, hy⟩ := h2
    have e1 : p[q.length]? = some c := by
      have := congrArg (·[q.length]?) hx
      simp only [List.getElem?_append_left h, List.getElem?_append_right (Nat.le_refl _), Nat.sub_self] at this
      simpa using this
    have e2 : p[q.length]? = some d := by
      have := congrArg (·[q.length]?) hy
      simp only [List.getElem?_append_left h, List.getElem?_append_right (Nat.le_refl _), Nat.sub_self] at this
      simpa using this
    rw [e1] at e2
    exact hne (by simpa using e2)
  · exact List.prefix_of_prefix_length_le h1 (List.prefix_append _ _) h
/-- the part is the longest beginning of all keys -/
theorem E.Fine.longest {part : Key} {val : Option Nat} {kids : UInt8 → E} (hf : (E.node part val kids).Fine) {p : Key} (h : ∀ k v, (E.node part val kids).get k = some v → p <+: k) : p <+: part := by
  obtain ⟨h1, h2⟩ := hf
  cases hv : val with
  | some v =>
    subst hv
    exact h part v (by have := E.get_app part (some v) kids []; simpa using this)
  | none =>
    subst hv
    split at h1
    · cases h1
    · obtain ⟨c, d, hc, hd, hne⟩ := two_mem (dom_rise fun c => (kids c).opt).nodup (by simpa [one, cnt] using h1)
      have key : ∀ c, c ∈ dom (fun c => (kids c).opt) → ∃ r v, (E.node part none kids).get (part ++ c :: r) = some v := by
        intro c hc
        obtain ⟨k, v, hk⟩ := (h2 c).some_key (fun e => by have := dom_mem.1 hc; rw [e] at this; cases this)
        exact ⟨k, v, by rw [E.get_app]; exact hk⟩
      obtain ⟨r, v, hr⟩ := key c hc
      obtain ⟨s, u, hs⟩ := key d hd
      exact prefix_part hne (h _ _ hr) (h _ _ hs)
/-- the canonical tree of what is held is one -/
theorem E.unique : ∀ {e e' : E}, e.Fine → e'.Fine → (∀ k, e.get k = e'.get k) → e = e' := by
  intro e
  induction e with
  | nil =>
    intro e' _ hf h
    cases e' with
    | nil => rfl
    | node part val kids =>
      obtain ⟨k, v, hk⟩ := hf.some_key (by simp)
      rw [← h k] at hk
      cases hk
  | node part val kids ih =>
    intro e' hf hf' h
    cases e' with
    | nil =>
      obtain ⟨k, v, hk⟩ := hf.some_key (by simp)
      rw [h k] at hk
      cases hk
    | node part' val' kids' =>
      have hp : part = part' := by
        have h1 : part <+: part' := hf'.longest fun k v hk => E.get_pre (by rw [h]; exact hk)
        have h2 : part' <+: part := hf.longest fun k v hk => E.get_pre (by rw [← h]; exact hk)
        exact h1.eq_of_length (Nat.le_antisymm h1.length_le h2.length_le)
      subst hp
      have hv : val = val' := by
        have := h (part ++ [])
        rw [E.get_app, E.get_app] at this
        exact this
      subst hv
      congr 1
      funext c
      refine ih c (hf.2 c) (hf'.2 c) fun k => ?_
      have := h (part ++ c :: k)
      rw [E.get_app, E.get_app] at this
      exact this
end Go.Proofs.YtbleadagnpckbaaGreatDoor
