/-  same: trees that share no node: how often two nodes are looked into, by shape alone.  -/
import Derived.Test.YtidkkkdlaclolaaSame
namespace Go.Proofs.Ytidkkkdlaclolaa
open Go Go.RowKit X
set_option linter.unusedSimpArgs false
set_option linter.unusedVariables false
set_option linter.unusedSectionVars false
/-- two trees that share nothing -/
def lookE : E → E → Bool × Nat
  | .nil, b => (b.opt.isNone, 0)
  | .node part val kids, b => match b with
    | .nil => (false, 0)
    | .node part' val' kids' => if cntE kids = cntE kids' ∧ part = part' ∧ val = val' then ((walk2 (fun c => lookE (kids c) (kids' c)) (dom fun c => (kids c).opt) (dom fun c => (kids' c).opt)).1, 1 + (walk2 (fun c => lookE (kids c) (kids' c)) (dom fun c => (kids c).opt) (dom fun c => (kids' c).opt)).2) else (false, 1)
theorem look_apart : ∀ {a b : T}, (∀ x, a.All x → ¬ b.All x) → lookT a b = lookE a.er b.er := by
  intro a
  induction a with
  | nil =>
    intro b _
    cases b <;> rfl
  | node a ow part val ks kids ih =>
    intro b h
    cases b with
    | nil => rfl
    | node a' ow' part' val' ks' kids' =>
      have hne : a ≠ a' := fun e => h a (.inl (.inl rfl)) (.inl (.inl e))
      have hf : (fun c => lookT (kids c) (kids' c)) = fun c => lookE (kids c).er (kids' c).er := funext fun c => ih c fun x hx hy => h x (.inr ⟨c, hx⟩) (.inr ⟨c, hy⟩)
      have e1 : cntE (fun c => (kids c).er) = cnt (ptrs kids) := cntE_er kids
      have e2 : cntE (fun c => (kids' c).er) = cnt (ptrs kids') := cntE_er kids'
      have e3 : (dom fun c => (kids c).er.opt) = dom (ptrs kids) := dom_er kids
      have e4 : (dom fun c => (kids' c).er.opt) = dom (ptrs kids') := dom_er kids'
      show lookT (.node a ow part val ks kids) (.node a' ow' part' val' ks' kids') = lookE (.node part val fun c => (kids c).er) (.node part' val' fun c => (kids' c).er)
      rw [lookT, if_neg hne, hf, lookE, e1, e2, e3, e4]
theorem walk2_self {f : UInt8 → Bool × Nat} : ∀ {l : List UInt8}, (∀ c ∈ l, (f c).1 = true) → walk2 f l l = (true, (l.map fun c => (f c).2).sum) := by
  intro l
  induction l with
  | nil => intro _; rfl
  | cons c r ih =>
    intro h
    rw [walk2, if_pos rfl, if_pos (h c (by simp)), ih fun d hd => h d (List.mem_cons_of_mem _ hd)]
    simp
theorem sum_filter_zero {p : UInt8 → Bool} {g : UInt8 → Nat} (h : ∀ c, p c = false → g c = 0) : ∀ {l : List UInt8}, ((l.filter p).map g).sum = (l.map g).sum := by
  intro l
  induction l with
  | nil => rfl
  | cons c r ih =>
    cases hp : p c with
    | true => rw [List.filter_cons_of_pos hp]; simp [ih]
    | false => rw [List.filter_cons_of_neg (by simp [hp])]; simp [ih, h c hp]
/-- a tree and a copy of it: as often as it has nodes -/
theorem lookE_self : ∀ (e : E), lookE e e = (true, e.size) := by
  intro e
  induction e with
  | nil => rfl
  | node part val kids ih =>
    have hf : (fun c => lookE (kids c) (kids c)) = fun c => (true, (kids c).size) := funext fun c => ih c
    rw [lookE, if_pos ⟨rfl, rfl, rfl⟩, hf, walk2_self fun c _ => rfl]
    have hs : ((dom fun c => (kids c).opt).map fun c => (kids c).size).sum = (byt.map fun c => (kids c).size).sum := by
      unfold dom
      exact sum_filter_zero fun c hc => by
        cases hk : kids c with
        | nil => rfl
        | node =>
          have hc : (kids c).opt.isSome = false := hc
          rw [hk] at hc; cases hc
    show (true, 1 + ((dom fun c => (kids c).opt).map fun c => (kids c).size).sum) = (true, (byt.map fun c => (kids c).size).sum + 1)
    rw [hs, Nat.add_comm]
theorem lookE_same {e e' : E} (h : e = e') : lookE e e' = (true, e.size) := by subst h; exact lookE_self e
end Go.Proofs.Ytidkkkdlaclolaa
