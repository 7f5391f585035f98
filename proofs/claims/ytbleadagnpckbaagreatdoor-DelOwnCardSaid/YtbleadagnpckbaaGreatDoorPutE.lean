/-  put, plain: the canonical tree of one key more.  -/
import Derived.Test.YtbleadagnpckbaaGreatDoorTree
namespace Go.Proofs.YtbleadagnpckbaaGreatDoor
open Go X
set_option linter.unusedSimpArgs false
set_option linter.unusedVariables false

/-- how many bytes two keys begin with alike -/
def common : Key → Key → Nat
  | a :: x, b :: y => if a = b then common x y + 1 else 0
  | _, _ => 0
theorem common_le : ∀ (a b : Key), common a b ≤ a.length ∧ common a b ≤ b.length := by
  intro a
  induction a with
  | nil => intro b; simp [common]
  | cons x r ih => intro b; cases b with
    | nil => simp [common]
    | cons y s => simp only [common]; split <;> simp [ih s]
theorem common_stop {a b : Key} {n : Nat} (h : ∀ i, i < n → a[i]? = b[i]?) (ha : n ≤ a.length) (hb : n ≤ b.length) (hs : a[n]? ≠ b[n]? ∨ n = a.length ∨ n = b.length) : common a b = n := by
  induction a generalizing b n with
  | nil => simp at ha; subst ha; simp [common]
  | cons x r ih =>
    cases b with
    | nil => simp at hb; subst hb; simp [common]
    | cons y s =>
      cases n with
      | zero => simp at hs; simp [common, hs]
      | succ n =>
        have h0 := h 0 (by omega)
        simp at h0
        subst h0
        simp only [common, if_true]
        rw [ih (n := n) (fun i hi => by have := h (i + 1) (by omega); simpa using this) (by simpa using ha) (by simpa using hb) (by simpa using hs)]
/-- two keys part behind what they begin with alike -/
theorem common_split : ∀ (a b : Key), ∃ p q r, a = p ++ q ∧ b = p ++ r ∧ p.length = common a b ∧ (∀ x y q' r', q = x :: q' → r = y :: r' → x ≠ y) := by
  intro a
  induction a with
  | nil => intro b; exact ⟨[], [], b, rfl, rfl, by simp [common], fun x y q' r' h => by cases h⟩
  | cons x r ih =>
    intro b
    cases b with
    | nil => exact ⟨[], x :: r, [], rfl, rfl, by simp [common], fun x y q' r' _ h => by cases h⟩
    | cons y s =>
      by_cases h : x = y
      · subst h
        obtain ⟨p, q, r', h1, h2, h3, h4⟩ := ih s
        exact ⟨x :: p, q, r', by rw [h1]; rfl, by rw [h2]; rfl, by simp [common, h3], h4⟩
      · exact ⟨[], x :: r, y :: s, rfl, rfl, by simp [common, h], fun a b q' r' h1 h2 => by cases h1; cases h2; exact h⟩
theorem common_app (p q r : Key) (h : ∀ x y q' r', q = x :: q' → r = y :: r' → x ≠ y) : common (p ++ q) (p ++ r) = p.length := by
  induction p with
  | nil =>
    cases q with
    | nil => simp [common]
    | cons x q' => cases r with
      | nil => simp [common]
      | cons y r' => simp [common, h x y q' r' rfl rfl]
  | cons a p ih => simp [common, ih]

def updE (kids : UInt8 → E) (b : UInt8) (e : E) : UInt8 → E := fun c => if c = b then e else kids c
def noE : UInt8 → E := fun _ => .nil
theorem updE_same (kids : UInt8 → E) (b : UInt8) (e : E) : updE kids b e b = e := by simp [updE]
theorem updE_other (kids : UInt8 → E) {b c : UInt8} (e : E) (h : c ≠ b) : updE kids b e c = kids c := by simp [updE, h]
theorem updE_opt (kids : UInt8 → E) (b : UInt8) (e : E) : (fun c => (updE kids b e c).opt) = upd (fun c => (kids c).opt) b e.opt := by
  funext c; unfold updE upd; split <;> rfl
theorem noE_opt : (fun c => (noE c).opt) = fun _ => none := rfl
abbrev cntE (kids : UInt8 → E) : Nat := cnt fun c => (kids c).opt
theorem cntE_upd (kids : UInt8 → E) (b : UInt8) (e : E) : cntE (updE kids b e) + (if (kids b).opt.isSome then 1 else 0) = cntE kids + (if e.opt.isSome then 1 else 0) := by
  unfold cntE
  rw [updE_opt]
  exact cnt_upd _ _ _
theorem cntE_no : cntE noE = 0 := by unfold cntE; rw [noE_opt]; simp [cnt, dom_none]

def splitE (part : Key) (val : Option Nat) (kids : UInt8 → E) (k : Key) (v : Nat) : E :=
  let p := part.take (common part k)
  match part.drop (common part k), k.drop (common part k) with
  | x :: q, [] => .node p (some v) (updE noE x (.node q val kids))
  | x :: q, y :: r => .node p none (updE (updE noE x (.node q val kids)) y (.node r (some v) noE))
  | [], _ => .nil
def putE : E → Key → Nat → E
  | .nil, k, v => .node k (some v) noE
  | .node part val kids, k, v =>
    if common part k = part.length then
      (match k.drop part.length with
      | [] => .node part (some v) kids
      | c :: r => .node part val (updE kids c (putE (kids c) r v)))
    else splitE part val kids k v

theorem get_no {part : Key} {val : Option Nat} {kids : UInt8 → E} {k : Key} (h : ¬ part <+: k) : (E.node part val kids).get k = none := by rw [E.get, if_neg h]
theorem get_nil {part : Key} {val : Option Nat} {kids : UInt8 → E} : (E.node part val kids).get part = val := by
  have := E.get_app part val kids []
  simpa using this
theorem get_cons {part : Key} {val : Option Nat} {kids : UInt8 → E} {c : UInt8} {r : Key} : (E.node part val kids).get (part ++ c :: r) = (kids c).get r := E.get_app part val kids (c :: r)
theorem get_nil' {p : Key} {x : UInt8} {q : Key} {val : Option Nat} {kids : UInt8 → E} : (E.node (p ++ x :: q) val kids).get p = none := get_no fun h => by have := h.length_le; simp at this; omega
theorem get_other {p q s : Key} {x y : UInt8} {val : Option Nat} {kids : UInt8 → E} (h : y ≠ x) : (E.node (p ++ x :: q) val kids).get (p ++ y :: s) = none := get_no fun hp => by
  rw [List.prefix_append_right_inj, List.cons_prefix_cons] at hp
  exact h hp.1.symm
theorem get_shift {p q s : Key} {x : UInt8} {val : Option Nat} {kids : UInt8 → E} : (E.node (p ++ x :: q) val kids).get (p ++ x :: s) = (E.node q val kids).get s := by
  by_cases h : q <+: s
  · obtain ⟨t, rfl⟩ := h
    rw [show p ++ x :: (q ++ t) = (p ++ x :: q) ++ t by simp, E.get_app, E.get_app]
  · rw [get_no h, get_no]
    intro hp
    rw [List.prefix_append_right_inj, List.cons_prefix_cons] at hp
    exact h hp.2
theorem putE_some {e : E} {k : Key} {v : Nat} : (putE e k v).opt.isSome = true := by
  cases e with
  | nil => rfl
  | node part val kids =>
    unfold putE
    split
    · split <;> rfl
    · rename_i h
      unfold splitE
      split <;> try rfl
      rename_i h1
      have := common_le part k
      have h2 := congrArg List.length h1
      simp at h2
      omega
theorem putE_app {p r : Key} {val : Option Nat} {kids : UInt8 → E} {v : Nat} : putE (.node p val kids) (p ++ r) v = (match r with | [] => .node p (some v) kids | c :: r => .node p val (updE kids c (putE (kids c) r v))) := by
  have : common p (p ++ r) = p.length := by
    have := common_app p [] r (fun _ _ _ _ h => by cases h)
    simpa using this
  rw [putE, if_pos this, List.drop_left]
  cases r <;> rfl
theorem putE_split {p q r : Key} {x : UInt8} {val : Option Nat} {kids : UInt8 → E} {v : Nat} (h : ∀ y r', r = y :: r' → x ≠ y) : putE (.node (p ++ x :: q) val kids) (p ++ r) v =
    (match r with | [] => .node p (some v) (updE noE x (.node q val kids)) | y :: r => .node p none (updE (updE noE x (.node q val kids)) y (.node r (some v) noE))) := by
  have : common (p ++ x :: q) (p ++ r) = p.length := common_app p (x :: q) r (fun a y q' r' h1 h2 => by cases h1; exact h y r' h2)
  rw [putE, if_neg (by rw [this]; simp), splitE, this, List.take_left, List.drop_left, List.drop_left]
  cases r <;> rfl
theorem putE_get : ∀ {e : E} {k : Key} {v : Nat} {k' : Key}, (putE e k v).get k' = if k' = k then some v else e.get k' := by
  intro e
  induction e with
  | nil =>
    intro k v k'
    show (E.node k (some v) noE).get k' = _
    by_cases h : k <+: k'
    · obtain ⟨r, rfl⟩ := h
      cases r with
      | nil => rw [List.append_nil, if_pos rfl, get_nil]
      | cons c r => rw [get_cons, if_neg (by simp)]; rfl
    · rw [get_no h, if_neg (fun e => h (by rw [e]; exact List.prefix_refl _))]; rfl
  | node part val kids ih =>
    intro k v k'
    obtain ⟨p, q, r, rfl, rfl, -, hne⟩ := common_split part k
    cases q with
    | nil =>
      rw [List.append_nil, putE_app]
      cases r with
      | nil =>
        rw [List.append_nil]
        by_cases h : p <+: k'
        · obtain ⟨s, rfl⟩ := h
          cases s with
          | nil => rw [List.append_nil, if_pos rfl, get_nil]
          | cons c s => rw [get_cons, if_neg (by simp), get_cons]
        · rw [get_no h, if_neg (fun e => h (by rw [e]; exact List.prefix_refl _)), get_no h]
      | cons y r =>
        by_cases h : p <+: k'
        · obtain ⟨s, rfl⟩ := h
          cases s with
          | nil => rw [List.append_nil, get_nil, if_neg (by simp), get_nil]
          | cons c s =>
            rw [get_cons, get_cons]
            by_cases e : c = y
            · subst e
              rw [updE_same, ih]
              by_cases e2 : s = r
              · subst e2; rw [if_pos rfl, if_pos rfl]
              · rw [if_neg e2, if_neg (by simpa using e2)]
            · rw [updE_other _ _ e, if_neg (fun h => e (by simp at h; exact h.1))]
        · rw [get_no h, if_neg (fun e => h (by rw [e]; exact List.prefix_append _ _)), get_no h]
    | cons x q =>
      have hx : ∀ y r', r = y :: r' → x ≠ y := fun y r' h => hne x y q r' rfl h
      rw [putE_split hx]
      by_cases h : p <+: k'
      · obtain ⟨s, rfl⟩ := h
        cases r with
        | nil =>
          rw [List.append_nil]
          cases s with
          | nil => rw [List.append_nil, if_pos rfl, get_nil]
          | cons c s =>
            rw [get_cons, if_neg (by simp)]
            by_cases e : c = x
            · subst e; rw [updE_same, get_shift]
            · rw [updE_other _ _ e, get_other e]; rfl
        | cons y r =>
          have hxy := hx y r rfl
          cases s with
          | nil => rw [List.append_nil, get_nil, if_neg (by simp), get_nil']
          | cons c s =>
            rw [get_cons]
            by_cases e : c = y
            · subst e
              rw [updE_same, get_other (Ne.symm hxy)]
              by_cases e2 : r <+: s
              · obtain ⟨t, rfl⟩ := e2
                cases t with
                | nil => rw [List.append_nil, get_nil, if_pos rfl]
                | cons z t => rw [get_cons, if_neg (by simp)]; rfl
              · rw [get_no e2, if_neg]
                intro h
                simp at h
                exact e2 (by rw [h]; exact List.prefix_refl _)
            · rw [updE_other _ _ e, if_neg (fun h => e (by simp at h; exact h.1))]
              by_cases e3 : c = x
              · subst e3; rw [updE_same, get_shift]
              · rw [updE_other _ _ e3, get_other e3]; rfl
      · have h' : ¬ (p ++ x :: q) <+: k' := fun hp => h ((List.prefix_append _ _).trans hp)
        rw [get_no h', if_neg (fun e => h (by rw [e]; exact List.prefix_append _ _))]
        cases r <;> exact get_no h
theorem noE_fine (c : UInt8) : (noE c).Fine := trivial
theorem updE_fine {kids : UInt8 → E} {b : UInt8} {e : E} (h : ∀ c, (kids c).Fine) (he : e.Fine) : ∀ c, (updE kids b e c).Fine := fun c => by
  unfold updE; split
  · exact he
  · exact h c
theorem fine_node {part : Key} {val : Option Nat} {kids : UInt8 → E} (h : cntE kids = 0 → val.isSome = true) (h2 : cntE kids ≠ 0 → 2 ≤ cntE kids + one val) (h3 : ∀ c, (kids c).Fine) : (E.node part val kids).Fine := by
  refine ⟨?_, h3⟩
  split
  · rename_i e; exact h e
  · rename_i e; exact h2 e
theorem fine_of {part : Key} {val : Option Nat} {kids : UInt8 → E} (h : (E.node part val kids).Fine) : (cntE kids = 0 → val.isSome = true) ∧ (cntE kids ≠ 0 → 2 ≤ cntE kids + one val) ∧ ∀ c, (kids c).Fine := by
  obtain ⟨h1, h2⟩ := h
  refine ⟨fun e => ?_, fun e => ?_, h2⟩
  · rw [if_pos e] at h1; exact h1
  · rw [if_neg e] at h1; exact h1
theorem fine_part {part part' : Key} {val : Option Nat} {kids : UInt8 → E} (h : (E.node part val kids).Fine) : (E.node part' val kids).Fine := h
theorem fine_leaf {part : Key} {v : Nat} : (E.node part (some v) noE).Fine := fine_node (fun _ => rfl) (fun h => absurd cntE_no h) noE_fine
theorem putE_fine : ∀ {e : E} {k : Key} {v : Nat}, e.Fine → (putE e k v).Fine := by
  intro e
  induction e with
  | nil => intro k v _; exact fine_leaf
  | node part val kids ih =>
    intro k v hf
    obtain ⟨h1, h2, h3⟩ := fine_of hf
    obtain ⟨p, q, r, rfl, rfl, -, hne⟩ := common_split part k
    cases q with
    | nil =>
      rw [List.append_nil, putE_app]
      cases r with
      | nil =>
        show (E.node p (some v) kids).Fine
        refine fine_node (fun _ => rfl) (fun h => ?_) h3
        show 2 ≤ cntE kids + 1
        have : 0 < cntE kids := Nat.pos_of_ne_zero h
        omega
      | cons y r =>
        have hc := cntE_upd kids y (putE (kids y) r v)
        rw [putE_some] at hc
        simp only [if_true] at hc
        show (E.node p val (updE kids y (putE (kids y) r v))).Fine
        refine fine_node (fun h => ?_) (fun h => ?_) (updE_fine h3 (ih y (h3 y)))
        · split at hc
          · rename_i hy
            have hpos : 0 < cntE kids := cnt_pos hy
            have h0 : cntE (updE kids y (putE (kids y) r v)) = 0 := h
            rw [h0] at hc
            omega
          · have h0 : cntE (updE kids y (putE (kids y) r v)) = 0 := h
            rw [h0] at hc
            omega
        · by_cases e : cntE kids = 0
          · have := h1 e
            simp [one, this]
            omega
          · have := h2 e
            split at hc <;> omega
    | cons x q =>
      have hx : ∀ y r', r = y :: r' → x ≠ y := fun y r' h => hne x y q r' rfl h
      rw [putE_split hx]
      have c1 : cntE (updE noE x (.node q val kids)) = 1 := by
        have := cntE_upd noE x (.node q val kids)
        rw [cntE_no] at this
        exact this
      have f1 : ∀ c, (updE noE x (.node q val kids) c).Fine := updE_fine noE_fine (fine_part hf)
      cases r with
      | nil => exact fine_node (fun _ => rfl) (fun _ => by rw [c1]; exact Nat.le_refl 2) f1
      | cons y r =>
        have c2 : cntE (updE (updE noE x (.node q val kids)) y (.node r (some v) noE)) = 2 := by
          have := cntE_upd (updE noE x (.node q val kids)) y (.node r (some v) noE)
          rw [updE_other _ _ (Ne.symm (hx y r rfl)), c1] at this
          exact this
        show (E.node p none (updE (updE noE x (.node q val kids)) y (.node r (some v) noE))).Fine
        refine fine_node (fun h => ?_) (fun _ => ?_) (updE_fine f1 fine_leaf)
        · rw [c2] at h; cases h
        · rw [c2]; decide
end Go.Proofs.YtbleadagnpckbaaGreatDoor
