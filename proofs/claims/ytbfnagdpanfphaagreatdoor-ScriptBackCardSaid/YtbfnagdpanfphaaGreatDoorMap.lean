/-  Plain: things by bytes: which there are, how many, the next one.  -/
import Derived.Test.YtbfnagdpanfphaaGreatDoorEng
import Derived.Lib.Bytealg
section
namespace Go.Proofs.YtbfnagdpanfphaaGreatDoor.X
open Go
set_option linter.unusedSimpArgs false
set_option linter.unusedVariables false

def byt : List UInt8 := (List.range 256).map UInt8.ofNat
theorem byt_mem (c : UInt8) : c ∈ byt := by
  unfold byt
  rw [List.mem_map]
  exact ⟨c.toNat, List.mem_range.2 c.toNat_lt, by simp⟩
theorem byt_sorted : byt.Pairwise (fun a b => a.toNat < b.toNat) := by
  unfold byt
  rw [List.pairwise_map]
  refine List.Pairwise.imp_of_mem ?_ (List.pairwise_lt_range (n := 256))
  intro a b ha hb h
  rw [List.mem_range] at ha hb
  have e : ∀ n, n < 256 → (UInt8.ofNat n).toNat = n := fun n hn => by simp; omega
  rw [e a ha, e b hb]
  exact h

def Rise (l : List UInt8) : Prop := l.Pairwise (fun a b => a.toNat < b.toNat)
theorem Rise.nodup {l : List UInt8} (h : Rise l) : l.Nodup := List.Pairwise.imp (fun h e => by subst e; omega) h
theorem Rise.ext {l m : List UInt8} (hl : Rise l) (hm : Rise m) (h : ∀ c, c ∈ l ↔ c ∈ m) : l = m := by
  induction l generalizing m with
  | nil =>
    cases m with
    | nil => rfl
    | cons x r => exact absurd ((h x).2 (by simp)) (by simp)
  | cons a r ih =>
    cases m with
    | nil => exact absurd ((h a).1 (by simp)) (by simp)
    | cons b s =>
      obtain ⟨ha, hr⟩ := List.pairwise_cons.1 hl
      obtain ⟨hb, hs⟩ := List.pairwise_cons.1 hm
      have hab : a = b := by
        have h1 := (h a).1 (by simp)
        have h2 := (h b).2 (by simp)
        simp only [List.mem_cons] at h1 h2
        rcases h1 with h1 | h1
        · exact h1
        · rcases h2 with h2 | h2
          · exact h2.symm
          · have := hb a h1; have := ha b h2; omega
      subst hab
      congr 1
      refine ih hr hs fun c => ?_
      have := h c
      simp only [List.mem_cons] at this
      constructor
      · intro hc
        rcases this.1 (.inr hc) with e | e
        · subst e; have := ha c hc; omega
        · exact e
      · intro hc
        rcases this.2 (.inr hc) with e | e
        · subst e; have := hb c hc; omega
        · exact e

section
variable {α : Type}
def dom (m : UInt8 → Option α) : List UInt8 := byt.filter fun c => (m c).isSome
def cnt (m : UInt8 → Option α) : Nat := (dom m).length
theorem dom_mem {m : UInt8 → Option α} {c : UInt8} : c ∈ dom m ↔ (m c).isSome := by simp [dom, byt_mem]
theorem dom_rise (m : UInt8 → Option α) : Rise (dom m) := List.Pairwise.filter _ byt_sorted
theorem dom_eq {m : UInt8 → Option α} {l : List UInt8} (h : Rise l) (hl : ∀ c, c ∈ l ↔ (m c).isSome) : dom m = l := (dom_rise m).ext h fun c => dom_mem.trans (hl c).symm
theorem dom_none : dom (fun _ => none : UInt8 → Option α) = [] := dom_eq List.Pairwise.nil (by simp)
def upd (m : UInt8 → Option α) (b : UInt8) (x : Option α) : UInt8 → Option α := fun c => if c = b then x else m c
theorem upd_same (m : UInt8 → Option α) (b : UInt8) (x : Option α) : upd m b x b = x := by simp [upd]
theorem upd_other (m : UInt8 → Option α) {b c : UInt8} (x : Option α) (h : c ≠ b) : upd m b x c = m c := by simp [upd, h]
theorem upd_id (m : UInt8 → Option α) (b : UInt8) : upd m b (m b) = m := by
  funext c; unfold upd; split
  · subst_vars; rfl
  · rfl
theorem upd_upd (m : UInt8 → Option α) (b : UInt8) (x y : Option α) : upd (upd m b x) b y = upd m b y := by
  funext c; unfold upd; split <;> rfl

theorem countP_upd {l : List UInt8} (hl : l.Nodup) {b : UInt8} (hb : b ∈ l) (p q : UInt8 → Bool) (h : ∀ c, c ≠ b → p c = q c) : l.countP p + (if q b then 1 else 0) = l.countP q + (if p b then 1 else 0) := by
  induction l with
  | nil => simp at hb
  | cons a r ih =>
    obtain ⟨ha, hr⟩ := List.nodup_cons.1 hl
    by_cases e : a = b
    · subst e
      have : r.countP p = r.countP q := List.countP_congr fun c hc => by rw [h c (fun e => ha (e ▸ hc))]
      simp only [List.countP_cons, this]
      omega
    · have hb' : b ∈ r := by
        rcases List.mem_cons.1 hb with h | h
        · exact absurd h.symm e
        · exact h
      have := ih hr hb'
      simp only [List.countP_cons, h a e]
      omega
theorem cnt_eq (m : UInt8 → Option α) : cnt m = byt.countP fun c => (m c).isSome := by simp [cnt, dom, List.countP_eq_length_filter]
theorem cnt_upd (m : UInt8 → Option α) (b : UInt8) (x : Option α) : cnt (upd m b x) + (if (m b).isSome then 1 else 0) = cnt m + (if x.isSome then 1 else 0) := by
  rw [cnt_eq, cnt_eq]
  have := countP_upd (Rise.nodup byt_sorted) (byt_mem b) (fun c => (upd m b x c).isSome) (fun c => (m c).isSome) (fun c hc => by rw [upd_other m x hc])
  simp only [upd_same] at this
  exact this
theorem cnt_le (m : UInt8 → Option α) : cnt m ≤ 256 := by
  unfold cnt dom
  refine Nat.le_trans (List.length_filter_le _ _) ?_
  simp [byt]
theorem cnt_pos {m : UInt8 → Option α} {c : UInt8} (h : (m c).isSome) : 0 < cnt m := List.length_pos_of_mem (dom_mem.2 h)
theorem cnt_full {m : UInt8 → Option α} (h : cnt m = 256) (c : UInt8) : (m c).isSome := by
  by_cases hc : (m c).isSome
  · exact hc
  · exfalso
    have h1 : cnt m < byt.length := by
      unfold cnt dom
      rcases Nat.lt_or_ge (byt.filter fun c => (m c).isSome).length byt.length with h | h
      · exact h
      · have := List.length_filter_eq_length_iff.1 (Nat.le_antisymm (List.length_filter_le _ _) h) c (byt_mem c)
        exact absurd this hc
    simp [byt] at h1
    omega
theorem cnt_zero {m : UInt8 → Option α} (h : cnt m = 0) (c : UInt8) : m c = none := by
  cases hc : m c with
  | none => rfl
  | some x => exact absurd (cnt_pos (m := m) (c := c) (by simp [hc])) (by omega)

/-- the next byte, from a number on -/
def nextB (m : UInt8 → Option α) (i : Nat) : Option UInt8 := (dom m).find? fun c => decide (i ≤ c.toNat)
theorem nextB_split {m : UInt8 → Option α} {i : Nat} {d r : List UInt8} (h : dom m = d ++ r) (hd : ∀ c ∈ d, c.toNat < i) (hr : ∀ c ∈ r, i ≤ c.toNat) : nextB m i = r.head? := by
  unfold nextB
  rw [h, List.find?_append, List.find?_eq_none.2 (fun c hc => by have := hd c hc; simp; omega)]
  cases r with
  | nil => rfl
  | cons a r => simp [hr a (by simp)]
theorem nextB_none {m : UInt8 → Option α} {i : Nat} : nextB m i = none ↔ ∀ c, i ≤ c.toNat → m c = none := by
  unfold nextB
  rw [List.find?_eq_none]
  constructor
  · intro h c hc
    cases hm : m c with
    | none => rfl
    | some x => exact absurd (h c (dom_mem.2 (by simp [hm]))) (by simpa using hc)
  · intro h c hc
    simp only [decide_eq_true_eq]
    intro hi
    have := h c hi
    have := dom_mem.1 hc
    simp_all
theorem nextB_some {m : UInt8 → Option α} {i : Nat} {c : UInt8} : nextB m i = some c ↔ ((m c).isSome ∧ i ≤ c.toNat ∧ ∀ d, i ≤ d.toNat → d.toNat < c.toNat → m d = none) := by
  constructor
  · intro h
    have h1 := List.find?_some h
    have h2 := List.mem_of_find?_eq_some h
    refine ⟨dom_mem.1 h2, by simpa using h1, fun d hi hd => ?_⟩
    obtain ⟨hp, as, bs, he, hn⟩ := List.find?_eq_some_iff_append.1 h
    cases hm : m d with
    | none => rfl
    | some x =>
      exfalso
      have hd' : d ∈ dom m := dom_mem.2 (by simp [hm])
      rw [he] at hd'
      have hr := dom_rise m
      rw [he] at hr
      obtain ⟨_, h5, _⟩ := List.pairwise_append.1 hr
      rcases List.mem_append.1 hd' with h6 | h6
      · have := hn d h6
        simp at this
        omega
      · rcases List.mem_cons.1 h6 with h7 | h7
        · subst h7; omega
        · have := (List.pairwise_cons.1 h5).1 d h7; omega
  · rintro ⟨h1, h2, h3⟩
    cases hn : nextB m i with
    | none => have := nextB_none.1 hn c h2; simp [this] at h1
    | some d =>
      obtain ⟨hp, as, bs, he, hb⟩ := List.find?_eq_some_iff_append.1 hn
      have h5 : d ∈ dom m := by rw [he]; simp
      have hid : i ≤ d.toNat := by simpa using hp
      congr 1
      rcases Nat.lt_trichotomy d.toNat c.toNat with h | h | h
      · have := h3 d hid h
        have := dom_mem.1 h5
        simp_all
      · exact UInt8.toNat_inj.1 h
      · exfalso
        have hc : c ∈ dom m := dom_mem.2 h1
        have hr := dom_rise m
        rw [he] at hc hr
        obtain ⟨_, h5, _⟩ := List.pairwise_append.1 hr
        rcases List.mem_append.1 hc with h6 | h6
        · have := hb c h6; simp at this; omega
        · rcases List.mem_cons.1 h6 with h7 | h7
          · subst h7; omega
          · have := (List.pairwise_cons.1 h5).1 c h7; omega
theorem nextB_zero (m : UInt8 → Option α) : nextB m 0 = (dom m).head? := nextB_split (d := []) rfl (by simp) (by simp)
theorem nextB_succ {m : UInt8 → Option α} {d r : List UInt8} {c : UInt8} (h : dom m = d ++ c :: r) : nextB m (c.toNat + 1) = r.head? := by
  have hr := dom_rise m
  rw [h] at hr
  obtain ⟨h1, h2, h3⟩ := List.pairwise_append.1 hr
  refine nextB_split (d := d ++ [c]) (r := r) (by simp [h]) (fun x hx => ?_) fun x hx => ?_
  · rcases List.mem_append.1 hx with hx | hx
    · have := h3 x hx c (by simp); omega
    · simp at hx; subst hx; omega
  · have := (List.pairwise_cons.1 h2).1 x hx; omega
end

/-- the room of so many kids -/
def kindN (n : Nat) : Nat := if n ≤ 4 then 4 else if n ≤ 16 then 16 else if n ≤ 48 then 48 else if n ≤ 256 then 256 else 0
theorem kindN_le {n : Nat} (h : n ≤ 256) : n ≤ kindN n := by unfold kindN; repeat' split
                                                             all_goals omega
end Go.Proofs.YtbfnagdpanfphaaGreatDoor.X
end
section
namespace Go.Proofs.YtbfnagdpanfphaaGreatDoor
open Go X
set_option linter.unusedSimpArgs false
set_option linter.unusedVariables false

abbrev Key := List UInt8

/-- a tree without its places -/
inductive E where
  | nil : E
  | node (part : Key) (val : Option Nat) (kids : UInt8 → E) : E
/-- a tree, with its places, owners, and the blocks of its kids (none: a leaf) -/
inductive T where
  | nil : T
  | node (a ow : Nat) (part : Key) (val : Option Nat) (ks : List Nat) (kids : UInt8 → T) : T
def E.opt : E → Option Unit
  | .nil => none
  | .node .. => some ()
def T.ptr : T → Option Addr
  | .nil => none
  | .node a .. => some ⟨a, 0, none⟩
def T.er : T → E
  | .nil => .nil
  | .node _ _ part val _ kids => .node part val fun c => (kids c).er
theorem T.er_opt (t : T) : t.er.opt.isSome = t.ptr.isSome := by cases t <;> rfl
theorem X.cnt_congr {α β : Type} {m : UInt8 → Option α} {m' : UInt8 → Option β} (h : ∀ c, (m c).isSome = (m' c).isSome) : dom m = dom m' := by
  unfold dom
  exact List.filter_congr fun c _ => h c
theorem X.cnt_congr' {α β : Type} {m : UInt8 → Option α} {m' : UInt8 → Option β} (h : ∀ c, (m c).isSome = (m' c).isSome) : cnt m = cnt m' := by unfold cnt; rw [cnt_congr h]

/-- what a tree holds by a key -/
def E.get : E → Key → Option Nat
  | .nil, _ => none
  | .node part val kids, k => if part <+: k then (match k.drop part.length with | [] => val | c :: r => (kids c).get r) else none
def T.get (t : T) (k : Key) : Option Nat := t.er.get k
def one (val : Option Nat) : Nat := if val.isSome then 1 else 0
/-- canonical: a node has a value, or parts -/
def E.Fine : E → Prop
  | .nil => True
  | .node _ val kids => (if cnt (fun c => (kids c).opt) = 0 then val.isSome = true else 2 ≤ cnt (fun c => (kids c).opt) + one val) ∧ ∀ c, (kids c).Fine
/-- that leaves are just those without kids -/
def T.Leafy : T → Prop
  | .nil => True
  | .node _ _ _ _ ks kids => (ks = [] ↔ cnt (fun c => (kids c).ptr) = 0) ∧ ∀ c, (kids c).Leafy
def T.Fine (t : T) : Prop := t.er.Fine ∧ t.Leafy

theorem E.get_app (part : Key) (val : Option Nat) (kids : UInt8 → E) (r : Key) : (E.node part val kids).get (part ++ r) = match r with | [] => val | c :: s => (kids c).get s := by
  rw [E.get, if_pos (List.prefix_append _ _), List.drop_left]
  cases r <;> rfl
theorem E.get_pre {part : Key} {val : Option Nat} {kids : UInt8 → E} {k : Key} {v : Nat} (h : (E.node part val kids).get k = some v) : part <+: k := by
  rw [E.get] at h
  split at h
  · assumption
  · cases h
theorem E.Fine.some_key : ∀ {e : E}, e.Fine → e ≠ .nil → ∃ k v, e.get k = some v := by
  intro e
  induction e with
  | nil => intro _ h; exact absurd rfl h
  | node part val kids ih =>
    intro hf _
    obtain ⟨h1, h2⟩ := hf
    cases hv : val with
    | some v => exact ⟨part, v, by have := E.get_app part (some v) kids []; simpa using this⟩
    | none =>
      subst hv
      split at h1
      · cases h1
      · rename_i hc
        have : ∃ c, (kids c).opt.isSome := by
          rcases List.exists_mem_of_length_pos (l := dom fun c => (kids c).opt) (by unfold cnt at hc; omega) with ⟨c, hc'⟩
          exact ⟨c, dom_mem.1 hc'⟩
        obtain ⟨c, hc'⟩ := this
        obtain ⟨k, v, hk⟩ := ih c (h2 c) (fun e => by rw [e] at hc'; cases hc')
        exact ⟨part ++ c :: k, v, by rw [E.get_app]; exact hk⟩
theorem two_mem {l : List UInt8} (hl : l.Nodup) (h : 2 ≤ l.length) : ∃ c d, c ∈ l ∧ d ∈ l ∧ c ≠ d := by
  match l with
  | [] => simp at h
  | [a] => simp at h
  | a :: b :: r => exact ⟨a, b, by simp, by simp, fun e => by subst e; simp at hl⟩
theorem prefix_part {p q : Key} {c d : UInt8} {r s : Key} (hne : c ≠ d) (h1 : p <+: q ++ c :: r) (h2 : p <+: q ++ d :: s) : p <+: q := by
  rcases Nat.lt_or_ge q.length p.length with h | h
  · exfalso
    obtain ⟨x, hx⟩ := h1
    obtain ⟨y, hy⟩ := h2
    have e1 : p[q.length]? = some c := by
      have := congrArg (·[q.length]?) hx
      simp only [List.getElem?_append_left h, List.getElem?_append_right (Nat.le_refl _), Nat.sub_self] at this
      simpa using this
    have e2 : p[q.length]? = some d := by
      have := congrArg (·[q.length]?) hy
      simp only [List.getElem?_append_left h, List.getElem?_append_right (Nat.le_refl _), Nat.sub_self] at this
      simpa using this
    rw [e1] at e2
    exact hne (by simpa using e2)
  · exact List.prefix_of_prefix_length_le h1 (List.prefix_append _ _) h
/-- the part is the longest beginning of all keys -/
theorem E.Fine.longest {part : Key} {val : Option Nat} {kids : UInt8 → E} (hf : (E.node part val kids).Fine) {p : Key} (h : ∀ k v, (E.node part val kids).get k = some v → p <+: k) : p <+: part := by
  obtain ⟨h1, h2⟩ := hf
  cases hv : val with
  | some v =>
    subst hv
    exact h part v (by have := E.get_app part (some v) kids []; simpa using this)
  | none =>
    subst hv
    split at h1
    · cases h1
    · obtain ⟨c, d, hc, hd, hne⟩ := two_mem (dom_rise fun c => (kids c).opt).nodup (by simpa [one, cnt] using h1)
      have key : ∀ c, c ∈ dom (fun c => (kids c).opt) → ∃ r v, (E.node part none kids).get (part ++ c :: r) = some v := by
        intro c hc
        obtain ⟨k, v, hk⟩ := (h2 c).some_key (fun e => by have := dom_mem.1 hc; rw [e] at this; cases this)
        exact ⟨k, v, by rw [E.get_app]; exact hk⟩
      obtain ⟨r, v, hr⟩ := key c hc
      obtain ⟨s, u, hs⟩ := key d hd
      exact prefix_part hne (h _ _ hr) (h _ _ hs)
/-- the canonical tree of what is held is one -/
theorem E.unique : ∀ {e e' : E}, e.Fine → e'.Fine → (∀ k, e.get k = e'.get k) → e = e' := by
  intro e
  induction e with
  | nil =>
    intro e' _ hf h
    cases e' with
    | nil => rfl
    | node part val kids =>
      obtain ⟨k, v, hk⟩ := hf.some_key (by simp)
      rw [← h k] at hk
      cases hk
  | node part val kids ih =>
    intro e' hf hf' h
    cases e' with
    | nil =>
      obtain ⟨k, v, hk⟩ := hf.some_key (by simp)
      rw [h k] at hk
      cases hk
    | node part' val' kids' =>
      have hp : part = part' := by
        have h1 : part <+: part' := hf'.longest fun k v hk => E.get_pre (by rw [h]; exact hk)
        have h2 : part' <+: part := hf.longest fun k v hk => E.get_pre (by rw [← h]; exact hk)
        exact h1.eq_of_length (Nat.le_antisymm h1.length_le h2.length_le)
      subst hp
      have hv : val = val' := by
        have := h (part ++ [])
        rw [E.get_app, E.get_app] at this
        exact this
      subst hv
      congr 1
      funext c
      refine ih c (hf.2 c) (hf'.2 c) fun k => ?_
      have := h (part ++ c :: k)
      rw [E.get_app, E.get_app] at this
      exact this
end Go.Proofs.YtbfnagdpanfphaaGreatDoor
end
section
namespace Go.Proofs.YtbfnagdpanfphaaGreatDoor
open Go X
set_option linter.unusedSimpArgs false
set_option linter.unusedVariables false

/-- how many bytes two keys begin with alike -/
def common : Key → Key → Nat
  | a :: x, b :: y => if a = b then common x y + 1 else 0
  | _, _ => 0
theorem common_le : ∀ (a b : Key), common a b ≤ a.length ∧ common a b ≤ b.length := by
  intro a
  induction a with
  | nil => intro b; simp [common]
  | cons x r ih => intro b; cases b with
    | nil => simp [common]
    | cons y s => simp only [common]; split <;> simp [ih s]
theorem common_stop {a b : Key} {n : Nat} (h : ∀ i, i < n → a[i]? = b[i]?) (ha : n ≤ a.length) (hb : n ≤ b.length) (hs : a[n]? ≠ b[n]? ∨ n = a.length ∨ n = b.length) : common a b = n := by
  induction a generalizing b n with
  | nil => simp at ha; subst ha; simp [common]
  | cons x r ih =>
    cases b with
    | nil => simp at hb; subst hb; simp [common]
    | cons y s =>
      cases n with
      | zero => simp at hs; simp [common, hs]
      | succ n =>
        have h0 := h 0 (by omega)
        simp at h0
        subst h0
        simp only [common, if_true]
        rw [ih (n := n) (fun i hi => by have := h (i + 1) (by omega); simpa using this) (by simpa using ha) (by simpa using hb) (by simpa using hs)]
/-- two keys part behind what they begin with alike -/
theorem common_split : ∀ (a b : Key), ∃ p q r, a = p ++ q ∧ b = p ++ r ∧ p.length = common a b ∧ (∀ x y q' r', q = x :: q' → r = y :: r' → x ≠ y) := by
  intro a
  induction a with
  | nil => intro b; exact ⟨[], [], b, rfl, rfl, by simp [common], fun x y q' r' h => by cases h⟩
  | cons x r ih =>
    intro b
    cases b with
    | nil => exact ⟨[], x :: r, [], rfl, rfl, by simp [common], fun x y q' r' _ h => by cases h⟩
    | cons y s =>
      by_cases h : x = y
      · subst h
        obtain ⟨p, q, r', h1, h2, h3, h4⟩ := ih s
        exact ⟨x :: p, q, r', by rw [h1]; rfl, by rw [h2]; rfl, by simp [common, h3], h4⟩
      · exact ⟨[], x :: r, y :: s, rfl, rfl, by simp [common, h], fun a b q' r' h1 h2 => by cases h1; cases h2; exact h⟩
theorem common_app (p q r : Key) (h : ∀ x y q' r', q = x :: q' → r = y :: r' → x ≠ y) : common (p ++ q) (p ++ r) = p.length := by
  induction p with
  | nil =>
    cases q with
    | nil => simp [common]
    | cons x q' => cases r with
      | nil => simp [common]
      | cons y r' => simp [common, h x y q' r' rfl rfl]
  | cons a p ih => simp [common, ih]

def updE (kids : UInt8 → E) (b : UInt8) (e : E) : UInt8 → E := fun c => if c = b then e else kids c
def noE : UInt8 → E := fun _ => .nil
theorem updE_same (kids : UInt8 → E) (b : UInt8) (e : E) : updE kids b e b = e := by simp [updE]
theorem updE_other (kids : UInt8 → E) {b c : UInt8} (e : E) (h : c ≠ b) : updE kids b e c = kids c := by simp [updE, h]
theorem updE_opt (kids : UInt8 → E) (b : UInt8) (e : E) : (fun c => (updE kids b e c).opt) = upd (fun c => (kids c).opt) b e.opt := by
  funext c; unfold updE upd; split <;> rfl
theorem noE_opt : (fun c => (noE c).opt) = fun _ => none := rfl
abbrev cntE (kids : UInt8 → E) : Nat := cnt fun c => (kids c).opt
theorem cntE_upd (kids : UInt8 → E) (b : UInt8) (e : E) : cntE (updE kids b e) + (if (kids b).opt.isSome then 1 else 0) = cntE kids + (if e.opt.isSome then 1 else 0) := by
  unfold cntE
  rw [updE_opt]
  exact cnt_upd _ _ _
theorem cntE_no : cntE noE = 0 := by unfold cntE; rw [noE_opt]; simp [cnt, dom_none]

def splitE (part : Key) (val : Option Nat) (kids : UInt8 → E) (k : Key) (v : Nat) : E :=
  let p := part.take (common part k)
  match part.drop (common part k), k.drop (common part k) with
  | x :: q, [] => .node p (some v) (updE noE x (.node q val kids))
  | x :: q, y :: r => .node p none (updE (updE noE x (.node q val kids)) y (.node r (some v) noE))
  | [], _ => .nil
def putE : E → Key → Nat → E
  | .nil, k, v => .node k (some v) noE
  | .node part val kids, k, v =>
    if common part k = part.length then
      (match k.drop part.length with
      | [] => .node part (some v) kids
      | c :: r => .node part val (updE kids c (putE (kids c) r v)))
    else splitE part val kids k v

theorem get_no {part : Key} {val : Option Nat} {kids : UInt8 → E} {k : Key} (h : ¬ part <+: k) : (E.node part val kids).get k = none := by rw [E.get, if_neg h]
theorem get_nil {part : Key} {val : Option Nat} {kids : UInt8 → E} : (E.node part val kids).get part = val := by
  have := E.get_app part val kids []
  simpa using this
theorem get_cons {part : Key} {val : Option Nat} {kids : UInt8 → E} {c : UInt8} {r : Key} : (E.node part val kids).get (part ++ c :: r) = (kids c).get r := E.get_app part val kids (c :: r)
theorem get_nil' {p : Key} {x : UInt8} {q : Key} {val : Option Nat} {kids : UInt8 → E} : (E.node (p ++ x :: q) val kids).get p = none := get_no fun h => by have := h.length_le; simp at this; omega
theorem get_other {p q s : Key} {x y : UInt8} {val : Option Nat} {kids : UInt8 → E} (h : y ≠ x) : (E.node (p ++ x :: q) val kids).get (p ++ y :: s) = none := get_no fun hp => by
  rw [List.prefix_append_right_inj, List.cons_prefix_cons] at hp
  exact h hp.1.symm
theorem get_shift {p q s : Key} {x : UInt8} {val : Option Nat} {kids : UInt8 → E} : (E.node (p ++ x :: q) val kids).get (p ++ x :: s) = (E.node q val kids).get s := by
  by_cases h : q <+: s
  · obtain ⟨t, rfl⟩ := h
    rw [show p ++ x :: (q ++ t) = (p ++ x :: q) ++ t by simp, E.get_app, E.get_app]
  · rw [get_no h, get_no]
    intro hp
    rw [List.prefix_append_right_inj, List.cons_prefix_cons] at hp
    exact h hp.2
theorem putE_some {e : E} {k : Key} {v : Nat} : (putE e k v).opt.isSome = true := by
  cases e with
  | nil => rfl
  | node part val kids =>
    unfold putE
    split
    · split <;> rfl
    · rename_i h
      unfold splitE
      split <;> try rfl
      rename_i h1
      have := common_le part k
      have h2 := congrArg List.length h1
      simp at h2
      omega
theorem putE_app {p r : Key} {val : Option Nat} {kids : UInt8 → E} {v : Nat} : putE (.node p val kids) (p ++ r) v = (match r with | [] => .node p (some v) kids | c :: r => .node p val (updE kids c (putE (kids c) r v))) := by
  have : common p (p ++ r) = p.length := by
    have := common_app p [] r (fun _ _ _ _ h => by cases h)
    simpa using this
  rw [putE, if_pos this, List.drop_left]
  cases r <;> rfl
theorem putE_split {p q r : Key} {x : UInt8} {val : Option Nat} {kids : UInt8 → E} {v : Nat} (h : ∀ y r', r = y :: r' → x ≠ y) : putE (.node (p ++ x :: q) val kids) (p ++ r) v =
    (match r with | [] => .node p (some v) (updE noE x (.node q val kids)) | y :: r => .node p none (updE (updE noE x (.node q val kids)) y (.node r (some v) noE))) := by
  have : common (p ++ x :: q) (p ++ r) = p.length := common_app p (x :: q) r (fun a y q' r' h1 h2 => by cases h1; exact h y r' h2)
  rw [putE, if_neg (by rw [this]; simp), splitE, this, List.take_left, List.drop_left, List.drop_left]
  cases r <;> rfl
theorem putE_get : ∀ {e : E} {k : Key} {v : Nat} {k' : Key}, (putE e k v).get k' = if k' = k then some v else e.get k' := by
  intro e
  induction e with
  | nil =>
    intro k v k'
    show (E.node k (some v) noE).get k' = _
    by_cases h : k <+: k'
    · obtain ⟨r, rfl⟩ := h
      cases r with
      | nil => rw [List.append_nil, if_pos rfl, get_nil]
      | cons c r => rw [get_cons, if_neg (by simp)]; rfl
    · rw [get_no h, if_neg (fun e => h (by rw [e]; exact List.prefix_refl _))]; rfl
  | node part val kids ih =>
    intro k v k'
    obtain ⟨p, q, r, rfl, rfl, -, hne⟩ := common_split part k
    cases q with
    | nil =>
      rw [List.append_nil, putE_app]
      cases r with
      | nil =>
        rw [List.append_nil]
        by_cases h : p <+: k'
        · obtain ⟨s, rfl⟩ := h
          cases s with
          | nil => rw [List.append_nil, if_pos rfl, get_nil]
          | cons c s => rw [get_cons, if_neg (by simp), get_cons]
        · rw [get_no h, if_neg (fun e => h (by rw [e]; exact List.prefix_refl _)), get_no h]
      | cons y r =>
        by_cases h : p <+: k'
        · obtain ⟨s, rfl⟩ := h
          cases s with
          | nil => rw [List.append_nil, get_nil, if_neg (by simp), get_nil]
          | cons c s =>
            rw [get_cons, get_cons]
            by_cases e : c = y
            · subst e
              rw [updE_same, ih]
              by_cases e2 : s = r
              · subst e2; rw [if_pos rfl, if_pos rfl]
              · rw [if_neg e2, if_neg (by simpa using e2)]
            · rw [updE_other _ _ e, if_neg (fun h => e (by simp at h; exact h.1))]
        · rw [get_no h, if_neg (fun e => h (by rw [e]; exact List.prefix_append _ _)), get_no h]
    | cons x q =>
      have hx : ∀ y r', r = y :: r' → x ≠ y := fun y r' h => hne x y q r' rfl h
      rw [putE_split hx]
      by_cases h : p <+: k'
      · obtain ⟨s, rfl⟩ := h
        cases r with
        | nil =>
          rw [List.append_nil]
          cases s with
          | nil => rw [List.append_nil, if_pos rfl, get_nil]
          | cons c s =>
            rw [get_cons, if_neg (by simp)]
            by_cases e : c = x
            · subst e; rw [updE_same, get_shift]
            · rw [updE_other _ _ e, get_other e]; rfl
        | cons y r =>
          have hxy := hx y r rfl
          cases s with
          | nil => rw [List.append_nil, get_nil, if_neg (by simp), get_nil']
          | cons c s =>
            rw [get_cons]
            by_cases e : c = y
            · subst e
              rw [updE_same, get_other (Ne.symm hxy)]
              by_cases e2 : r <+: s
              · obtain ⟨t, rfl⟩ := e2
                cases t with
                | nil => rw [List.append_nil, get_nil, if_pos rfl]
                | cons z t => rw [get_cons, if_neg (by simp)]; rfl
              · rw [get_no e2, if_neg]
                intro h
                simp at h
                exact e2 (by rw [h]; exact List.prefix_refl _)
            · rw [updE_other _ _ e, if_neg (fun h => e (by simp at h; exact h.1))]
              by_cases e3 : c = x
              · subst e3; rw [updE_same, get_shift]
              · rw [updE_other _ _ e3, get_other e3]; rfl
      · have h' : ¬ (p ++ x :: q) <+: k' := fun hp => h ((List.prefix_append _ _).trans hp)
        rw [get_no h', if_neg (fun e => h (by rw [e]; exact List.prefix_append _ _))]
        cases r <;> exact get_no h
theorem noE_fine (c : UInt8) : (noE c).Fine := trivial
theorem updE_fine {kids : UInt8 → E} {b : UInt8} {e : E} (h : ∀ c, (kids c).Fine) (he : e.Fine) : ∀ c, (updE kids b e c).Fine := fun c => by
  unfold updE; split
  · exact he
  · exact h c
theorem fine_node {part : Key} {val : Option Nat} {kids : UInt8 → E} (h : cntE kids = 0 → val.isSome = true) (h2 : cntE kids ≠ 0 → 2 ≤ cntE kids + one val) (h3 : ∀ c, (kids c).Fine) : (E.node part val kids).Fine := by
  refine ⟨?_, h3⟩
  split
  · rename_i e; exact h e
  · rename_i e; exact h2 e
theorem fine_of {part : Key} {val : Option Nat} {kids : UInt8 → E} (h : (E.node part val kids).Fine) : (cntE kids = 0 → val.isSome = true) ∧ (cntE kids ≠ 0 → 2 ≤ cntE kids + one val) ∧ ∀ c, (kids c).Fine := by
  obtain ⟨h1, h2⟩ := h
  refine ⟨fun e => ?_, fun e => ?_, h2⟩
  · rw [if_pos e] at h1; exact h1
  · rw [if_neg e] at h1; exact h1
theorem fine_part {part part' : Key} {val : Option Nat} {kids : UInt8 → E} (h : (E.node part val kids).Fine) : (E.node part' val kids).Fine := h
theorem fine_leaf {part : Key} {v : Nat} : (E.node part (some v) noE).Fine := fine_node (fun _ => rfl) (fun h => absurd cntE_no h) noE_fine
theorem putE_fine : ∀ {e : E} {k : Key} {v : Nat}, e.Fine → (putE e k v).Fine := by
  intro e
  induction e with
  | nil => intro k v _; exact fine_leaf
  | node part val kids ih =>
    intro k v hf
    obtain ⟨h1, h2, h3⟩ := fine_of hf
    obtain ⟨p, q, r, rfl, rfl, -, hne⟩ := common_split part k
    cases q with
    | nil =>
      rw [List.append_nil, putE_app]
      cases r with
      | nil =>
        show (E.node p (some v) kids).Fine
        refine fine_node (fun _ => rfl) (fun h => ?_) h3
        show 2 ≤ cntE kids + 1
        have : 0 < cntE kids := Nat.pos_of_ne_zero h
        omega
      | cons y r =>
        have hc := cntE_upd kids y (putE (kids y) r v)
        rw [putE_some] at hc
        simp only [if_true] at hc
        show (E.node p val (updE kids y (putE (kids y) r v))).Fine
        refine fine_node (fun h => ?_) (fun h => ?_) (updE_fine h3 (ih y (h3 y)))
        · split at hc
          · rename_i hy
            have hpos : 0 < cntE kids := cnt_pos hy
            have h0 : cntE (updE kids y (putE (kids y) r v)) = 0 := h
            rw [h0] at hc
            omega
          · have h0 : cntE (updE kids y (putE (kids y) r v)) = 0 := h
            rw [h0] at hc
            omega
        · by_cases e : cntE kids = 0
          · have := h1 e
            simp [one, this]
            omega
          · have := h2 e
            split at hc <;> omega
    | cons x q =>
      have hx : ∀ y r', r = y :: r' → x ≠ y := fun y r' h => hne x y q r' rfl h
      rw [putE_split hx]
      have c1 : cntE (updE noE x (.node q val kids)) = 1 := by
        have := cntE_upd noE x (.node q val kids)
        rw [cntE_no] at this
        exact this
      have f1 : ∀ c, (updE noE x (.node q val kids) c).Fine := updE_fine noE_fine (fine_part hf)
      cases r with
      | nil => exact fine_node (fun _ => rfl) (fun _ => by rw [c1]; exact Nat.le_refl 2) f1
      | cons y r =>
        have c2 : cntE (updE (updE noE x (.node q val kids)) y (.node r (some v) noE)) = 2 := by
          have := cntE_upd (updE noE x (.node q val kids)) y (.node r (some v) noE)
          rw [updE_other _ _ (Ne.symm (hx y r rfl)), c1] at this
          exact this
        show (E.node p none (updE (updE noE x (.node q val kids)) y (.node r (some v) noE))).Fine
        refine fine_node (fun h => ?_) (fun _ => ?_) (updE_fine f1 fine_leaf)
        · rw [c2] at h; cases h
        · rw [c2]; decide
end Go.Proofs.YtbfnagdpanfphaaGreatDoor
end
section
section
namespace Go.Proofs.YtbfnagdpanfphaaGreatDoor
open Go X
set_option linter.unusedSimpArgs false
set_option linter.unusedVariables false

abbrev kcmp : Key → Key → Int := Lib.compareBytes
theorem kcmp_cons (a b : UInt8) (x y : Key) : kcmp (a :: x) (b :: y) = if a < b then -1 else if b < a then 1 else kcmp x y := by
  show Lib.compareBytes _ _ = _
  rw [Lib.compareBytes]
theorem kcmp_nc (b : UInt8) (y : Key) : kcmp [] (b :: y) = -1 := rfl
theorem kcmp_cn (b : UInt8) (y : Key) : kcmp (b :: y) [] = 1 := rfl
theorem kcmp_self : ∀ a : Key, kcmp a a = 0 := by
  intro a
  induction a with
  | nil => rfl
  | cons x r ih => rw [kcmp_cons, if_neg (UInt8.lt_irrefl x), if_neg (UInt8.lt_irrefl x), ih]
theorem kcmp_eq : ∀ {a b : Key}, kcmp a b = 0 → a = b := by
  intro a
  induction a with
  | nil => intro b h; cases b with
    | nil => rfl
    | cons y s => rw [kcmp_nc] at h; cases h
  | cons x r ih => intro b h; cases b with
    | nil => rw [kcmp_cn] at h; cases h
    | cons y s =>
      rw [kcmp_cons] at h
      split at h
      · cases h
      · split at h
        · cases h
        · rename_i h1 h2
          rw [ih h, UInt8.le_antisymm (UInt8.not_lt.1 h2) (UInt8.not_lt.1 h1)]
theorem kcmp_zero {a b : Key} : kcmp a b = 0 ↔ a = b := ⟨kcmp_eq, fun h => h ▸ kcmp_self a⟩
theorem kcmp_rng : ∀ (a b : Key), kcmp a b = -1 ∨ kcmp a b = 0 ∨ kcmp a b = 1 := by
  intro a
  induction a with
  | nil => intro b; cases b with
    | nil => exact .inr (.inl rfl)
    | cons y s => exact .inl rfl
  | cons x r ih => intro b; cases b with
    | nil => exact .inr (.inr rfl)
    | cons y s =>
      rw [kcmp_cons]
      split
      · exact .inl rfl
      · split
        · exact .inr (.inr rfl)
        · exact ih s
theorem kcmp_neg : ∀ (a b : Key), kcmp b a = - kcmp a b := by
  intro a
  induction a with
  | nil => intro b; cases b <;> rfl
  | cons x r ih => intro b; cases b with
    | nil => rfl
    | cons y s =>
      rw [kcmp_cons, kcmp_cons]
      by_cases h1 : x < y
      · rw [if_pos h1, if_neg (UInt8.lt_asymm h1), if_pos h1]; rfl
      · by_cases h2 : y < x
        · rw [if_pos h2, if_neg h1, if_pos h2]
        · rw [if_neg h1, if_neg h2, if_neg h2, if_neg h1, ih]
theorem kcmp_trans : ∀ {a b c : Key}, kcmp a b < 0 → kcmp b c < 0 → kcmp a c < 0 := by
  intro a
  induction a with
  | nil => intro b c h1 h2; cases c with
    | nil => cases b with
      | nil => exact absurd h1 (by decide)
      | cons => rw [kcmp_cn] at h2; exact absurd h2 (by decide)
    | cons => rw [kcmp_nc]; decide
  | cons x r ih => intro b c h1 h2; cases b with
    | nil => rw [kcmp_cn] at h1; exact absurd h1 (by decide)
    | cons y s => cases c with
      | nil => rw [kcmp_cn] at h2; exact absurd h2 (by decide)
      | cons z t =>
        rw [kcmp_cons] at h1 h2 ⊢
        by_cases a1 : x < y
        · by_cases a2 : y < z
          · rw [if_pos (UInt8.lt_trans a1 a2)]; decide
          · by_cases a3 : z < y
            · rw [if_neg a2, if_pos a3] at h2; exact absurd h2 (by decide)
            · have : y = z := UInt8.le_antisymm (UInt8.not_lt.1 a3) (UInt8.not_lt.1 a2)
              subst this
              rw [if_pos a1]; decide
        · by_cases a3 : y < x
          · rw [if_neg a1, if_pos a3] at h1; exact absurd h1 (by decide)
          · have : x = y := UInt8.le_antisymm (UInt8.not_lt.1 a3) (UInt8.not_lt.1 a1)
            subst this
            rw [if_neg a1, if_neg a1] at h1
            by_cases a2 : x < z
            · rw [if_pos a2]; decide
            · by_cases a4 : z < x
              · rw [if_neg a2, if_pos a4] at h2; exact absurd h2 (by decide)
              · rw [if_neg a2, if_neg a4] at h2 ⊢
                exact ih h1 h2
theorem kcmp_app (p a b : Key) : kcmp (p ++ a) (p ++ b) = kcmp a b := by
  induction p with
  | nil => rfl
  | cons x p ih => rw [List.cons_append, List.cons_append, kcmp_cons, if_neg (UInt8.lt_irrefl x), if_neg (UInt8.lt_irrefl x), ih]
def klt (a b : Key) : Prop := kcmp a b < 0
instance (a b : Key) : Decidable (klt a b) := inferInstanceAs (Decidable (kcmp a b < 0))
theorem klt_irr {a : Key} : ¬ klt a a := by unfold klt; rw [kcmp_self]; decide
theorem klt_asym {a b : Key} (h : klt a b) : ¬ klt b a := fun h' => klt_irr (kcmp_trans h h')
theorem klt_ne {a b : Key} (h : klt a b) : a ≠ b := fun e => klt_irr (e ▸ h)
theorem klt_tri (a b : Key) : klt a b ∨ a = b ∨ klt b a := by
  unfold klt
  rw [kcmp_neg a b]
  rcases kcmp_rng a b with h | h | h
  · left; omega
  · right; left; exact kcmp_eq h
  · right; right; omega
theorem klt_trans {a b c : Key} (h : klt a b) (k : klt b c) : klt a c := kcmp_trans h k

/-! pairs -/
abbrev Kv := List (Key × Nat)
/-- they rise -/
def Rises (l : Kv) : Prop := l.Pairwise fun a b => klt a.1 b.1
/-- the first pair by a key -/
def look : Kv → Key → Option Nat
  | [], _ => none
  | p :: r, k => if p.1 = k then some p.2 else look r k
theorem look_app (l m : Kv) (k : Key) : look (l ++ m) k = (look l k).or (look m k) := by
  induction l with
  | nil => simp [look]
  | cons p r ih =>
    rw [List.cons_append, look, look]
    split
    · rfl
    · exact ih
theorem look_none {l : Kv} {k : Key} : look l k = none ↔ ∀ p ∈ l, p.1 ≠ k := by
  induction l with
  | nil => simp [look]
  | cons p r ih =>
    rw [look]
    split
    · rename_i h; simp [h]
    · rename_i h
      rw [ih]
      simp [h]
theorem look_mem {l : Kv} {k : Key} {v : Nat} (h : look l k = some v) : (k, v) ∈ l := by
  induction l with
  | nil => cases h
  | cons p r ih =>
    rw [look] at h
    split at h
    · rename_i e
      cases h
      rw [← e]
      exact List.mem_cons_self
    · exact List.mem_cons_of_mem _ (ih h)
theorem Rises.lk {l : Kv} (h : Rises l) {k : Key} {v : Nat} (hm : (k, v) ∈ l) : look l k = some v := by
  induction l with
  | nil => cases hm
  | cons p r ih =>
    obtain ⟨h1, h2⟩ := List.pairwise_cons.1 h
    rw [look]
    rcases List.mem_cons.1 hm with e | e
    · subst e; rw [if_pos rfl]
    · rw [if_neg (klt_ne (h1 _ e)), ih h2 e]
/-- what two lists that rise hold tells them -/
theorem Rises.ext {l m : Kv} (hl : Rises l) (hm : Rises m) (h : ∀ k, look l k = look m k) : l = m := by
  have key : ∀ {l m : Kv}, Rises l → Rises m → (∀ k, look l k = look m k) → ∀ p ∈ l, p ∈ m := fun {l m} hl hm h p hp => by
    have := hl.lk (k := p.1) (v := p.2) hp
    rw [h] at this
    exact look_mem this
  have k1 := key hl hm h
  have k2 := key hm hl fun k => (h k).symm
  clear h key
  induction l generalizing m with
  | nil =>
    cases m with
    | nil => rfl
    | cons q s => exact absurd (k2 q (by simp)) (by simp)
  | cons p r ih =>
    cases m with
    | nil => exact absurd (k1 p (by simp)) (by simp)
    | cons q s =>
      obtain ⟨h1, h2⟩ := List.pairwise_cons.1 hl
      obtain ⟨h3, h4⟩ := List.pairwise_cons.1 hm
      have e : p = q := by
        rcases List.mem_cons.1 (k1 p (by simp)) with e | e
        · exact e
        · rcases List.mem_cons.1 (k2 q (by simp)) with e' | e'
          · exact e'.symm
          · exact absurd (h1 q e') (klt_asym (h3 p e))
      subst e
      congr 1
      refine ih h2 h4 (fun x hx => ?_) fun x hx => ?_
      · rcases List.mem_cons.1 (k1 x (by simp [hx])) with e | e
        · subst e; exact absurd (h1 x hx) klt_irr
        · exact e
      · rcases List.mem_cons.1 (k2 x (by simp [hx])) with e | e
        · subst e; exact absurd (h3 x hx) klt_irr
        · exact e

/-! sorted -/
def insK : Kv → Key → Nat → Kv
  | [], k, v => [(k, v)]
  | p :: r, k, v => if klt p.1 k then p :: insK r k v else if p.1 = k then (k, v) :: r else (k, v) :: p :: r
theorem insK_look {l : Kv} (hl : Rises l) (k : Key) (v : Nat) (k' : Key) : look (insK l k v) k' = if k' = k then some v else look l k' := by
  induction l with
  | nil =>
    show (if k = k' then some v else none) = _
    by_cases e : k' = k
    · rw [if_pos e, if_pos e.symm]
    · rw [if_neg e, if_neg (Ne.symm e)]; rfl
  | cons p r ih =>
    obtain ⟨h1, h2⟩ := List.pairwise_cons.1 hl
    rw [insK]
    split
    · rename_i hlt
      rw [look, look, ih h2]
      by_cases e : p.1 = k'
      · rw [if_pos e, if_pos e, if_neg (fun e' => klt_ne hlt (e.trans e'))]
      · rw [if_neg e, if_neg e]
    · split
      · rename_i hn e
        rw [look, look]
        by_cases e' : k' = k
        · rw [if_pos e', if_pos e'.symm]
        · rw [if_neg e', if_neg (Ne.symm e'), if_neg (by rw [e]; exact Ne.symm e')]
      · rw [look]
        by_cases e' : k' = k
        · rw [if_pos e', if_pos e'.symm]
        · rw [if_neg e', if_neg (Ne.symm e')]
theorem insK_mem {l : Kv} {k : Key} {v : Nat} {p : Key × Nat} (h : p ∈ insK l k v) : p = (k, v) ∨ p ∈ l := by
  induction l with
  | nil => exact .inl (by simpa [insK] using h)
  | cons q r ih =>
    rw [insK] at h
    split at h
    · rcases List.mem_cons.1 h with e | e
      · exact .inr (by rw [e]; exact List.mem_cons_self)
      · exact (ih e).elim .inl fun h => .inr (List.mem_cons_of_mem _ h)
    · split at h
      · rcases List.mem_cons.1 h with e | e
        · exact .inl e
        · exact .inr (List.mem_cons_of_mem _ e)
      · rcases List.mem_cons.1 h with e | e
        · exact .inl e
        · exact .inr e
theorem insK_rises {l : Kv} (hl : Rises l) (k : Key) (v : Nat) : Rises (insK l k v) := by
  induction l with
  | nil => exact List.pairwise_singleton _ _
  | cons p r ih =>
    obtain ⟨h1, h2⟩ := List.pairwise_cons.1 hl
    rw [insK]
    split
    · rename_i hlt
      refine List.pairwise_cons.2 ⟨fun q hq => ?_, ih h2⟩
      rcases insK_mem hq with e | e
      · rw [e]; exact hlt
      · exact h1 q e
    · split
      · rename_i hn e
        exact List.pairwise_cons.2 ⟨fun q hq => by rw [← e]; exact h1 q hq, h2⟩
      · rename_i hn hne
        have hk : klt k p.1 := by
          rcases klt_tri p.1 k with h | h | h
          · exact absurd h hn
          · exact absurd h hne
          · exact h
        refine List.pairwise_cons.2 ⟨fun q hq => ?_, hl⟩
        rcases List.mem_cons.1 hq with e | e
        · rw [e]; exact hk
        · exact klt_trans hk (h1 q e)
/-- pairs that rise, of each key the last one's value -/
def sortK (l : Kv) : Kv := l.foldl (fun s p => insK s p.1 p.2) []
theorem sortK_snoc (l : Kv) (p : Key × Nat) : sortK (l ++ [p]) = insK (sortK l) p.1 p.2 := by simp [sortK]
theorem sortK_rises (l : Kv) : Rises (sortK l) := by
  unfold sortK
  have : ∀ (l : Kv) (s : Kv), Rises s → Rises (l.foldl (fun s p => insK s p.1 p.2) s) := by
    intro l
    induction l with
    | nil => intro s h; exact h
    | cons p r ih => intro s h; exact ih _ (insK_rises h _ _)
  exact this l [] List.Pairwise.nil
/-- the last pair by a key -/
def lookL (l : Kv) (k : Key) : Option Nat := look l.reverse k
theorem lookL_snoc (l : Kv) (p : Key × Nat) (k : Key) : lookL (l ++ [p]) k = if p.1 = k then some p.2 else lookL l k := by
  unfold lookL
  rw [List.reverse_append]
  rfl
theorem sortK_look (l : Kv) (k : Key) : look (sortK l) k = lookL l k := by
  have key : ∀ n (l : Kv), l.length = n → look (sortK l) k = lookL l k := by
    intro n
    induction n with
    | zero => intro l h; rw [List.eq_nil_of_length_eq_zero h]; rfl
    | succ n ih =>
      intro l h
      obtain ⟨m, p, rfl⟩ : ∃ m p, l = m ++ [p] := ⟨l.dropLast, l.getLast (fun e => by rw [e] at h; cases h), (List.dropLast_concat_getLast _).symm⟩
      rw [sortK_snoc, insK_look (sortK_rises m), lookL_snoc, ih m (by simpa using h)]
      by_cases e : k = p.1
      · rw [if_pos e, if_pos e.symm]
      · rw [if_neg e, if_neg (Ne.symm e)]
  exact key _ l rfl
theorem lookL_rises {l : Kv} (h : Rises l) (k : Key) : lookL l k = look l k := by
  cases e : look l k with
  | none =>
    have := look_none.1 e
    exact look_none.2 fun p hp => this p (List.mem_reverse.1 hp)
  | some v =>
    have hm := look_mem e
    cases e' : lookL l k with
    | none => exact absurd rfl (look_none.1 e' (k, v) (List.mem_reverse.2 hm))
    | some u =>
      have hm' : (k, u) ∈ l := List.mem_reverse.1 (look_mem e')
      rw [h.lk hm'] at e
      exact e
theorem sortK_id {l : Kv} (h : Rises l) : sortK l = l := (sortK_rises l).ext h fun k => by rw [sortK_look, lookL_rises h]
theorem insK_sort (l : Kv) (h : Rises l) (k : Key) (v : Nat) : insK l k v = sortK (l ++ [(k, v)]) := by rw [sortK_snoc, sortK_id h]
theorem insK_length (l : Kv) (k : Key) (v : Nat) : (insK l k v).length ≤ l.length + 1 := by
  induction l with
  | nil => simp [insK]
  | cons p r ih =>
    rw [insK]
    split
    · simp only [List.length_cons]; omega
    · split <;> simp
theorem sortK_length (l : Kv) : (sortK l).length ≤ l.length := by
  unfold sortK
  have : ∀ (l : Kv) (s : Kv), (l.foldl (fun s p => insK s p.1 p.2) s).length ≤ s.length + l.length := by
    intro l
    induction l with
    | nil => intro s; simp
    | cons p r ih =>
      intro s
      have := ih (insK s p.1 p.2)
      have h2 := insK_length s p.1 p.2
      simp only [List.foldl_cons, List.length_cons]
      omega
  have := this l []
  simpa using this
theorem sortK_mem {l : Kv} {p : Key × Nat} (h : p ∈ sortK l) : p ∈ l := by
  have := (sortK_rises l).lk (k := p.1) (v := p.2) h
  rw [sortK_look] at this
  exact List.mem_reverse.1 (look_mem this)

/-! canonical trees of what is held -/
structure Can (e : E) (g : Key → Option Nat) : Prop where
  fine : e.Fine
  get : ∀ k, e.get k = g k
theorem Can.uniq {e e' : E} {g : Key → Option Nat} (h : Can e g) (h' : Can e' g) : e = e' := E.unique h.fine h'.fine fun k => (h.get k).trans (h'.get k).symm
theorem Can.congr {e : E} {g g' : Key → Option Nat} (h : Can e g) (hg : ∀ k, g k = g' k) : Can e g' := ⟨h.fine, fun k => (h.get k).trans (hg k)⟩
theorem Can.nil : Can .nil (fun _ => none) := ⟨trivial, fun _ => rfl⟩
theorem Can.put {e : E} {g : Key → Option Nat} (h : Can e g) (k : Key) (v : Nat) : Can (putE e k v) fun k' => if k' = k then some v else g k' :=
  ⟨putE_fine h.fine, fun k' => by rw [putE_get, h.get]⟩

/-- how many nodes a tree has -/
def E.size : E → Nat
  | .nil => 0
  | .node _ _ kids => (byt.map fun c => (kids c).size).sum + 1
/-- how deep it is -/
def maxL : List Nat → Nat
  | [] => 0
  | n :: r => max n (maxL r)
theorem maxL_le {l : List Nat} {n : Nat} (h : n ∈ l) : n ≤ maxL l := by
  induction l with
  | nil => cases h
  | cons a r ih =>
    rw [maxL]
    rcases List.mem_cons.1 h with e | e
    · subst e; omega
    · have := ih e; omega
theorem maxL_le' {l : List Nat} {n : Nat} (h : ∀ m ∈ l, m ≤ n) : maxL l ≤ n := by
  induction l with
  | nil => exact Nat.zero_le n
  | cons a r ih =>
    have h1 := h a (by simp)
    have h2 := ih fun m hm => h m (by simp [hm])
    rw [maxL]
    omega
def E.deep : E → Nat
  | .nil => 0
  | .node _ _ kids => maxL (byt.map fun c => (kids c).deep) + 1
theorem E.deep_kid {part : Key} {val : Option Nat} {kids : UInt8 → E} (c : UInt8) : (kids c).deep < (E.node part val kids).deep := by
  rw [E.deep]
  have := maxL_le (l := byt.map fun c => (kids c).deep) (n := (kids c).deep) (List.mem_map.2 ⟨c, byt_mem c, rfl⟩)
  omega
/-- the longest key -/
def E.long : E → Nat
  | .nil => 0
  | .node part _ kids => maxL (byt.map fun c => if (kids c).opt.isSome then (kids c).long + 1 else 0) + part.length
end Go.Proofs.YtbfnagdpanfphaaGreatDoor
end
section
namespace Go.Proofs.YtbfnagdpanfphaaGreatDoor
open Go X
set_option linter.unusedSimpArgs false
set_option linter.unusedVariables false

theorem E.opt_none {e : E} (h : e.opt = none) : e = .nil := by cases e with
  | nil => rfl
  | node => cases h
theorem E.opt_some {e : E} (h : e.opt.isSome = true) : e ≠ .nil := fun h' => by rw [h'] at h; cases h
theorem E.isSome_iff {e : E} : e.opt.isSome = true ↔ e ≠ .nil := by cases e <;> simp [E.opt]
theorem cntE_zero {kids : UInt8 → E} (h : cntE kids = 0) : kids = noE := by
  funext c
  exact E.opt_none (cnt_zero h c)
theorem cnt_one {α : Type} {m : UInt8 → Option α} (h : cnt m = 1) {c d : UInt8} (hc : (m c).isSome) (hd : (m d).isSome) : c = d := by
  have h1 := dom_mem.2 hc
  have h2 := dom_mem.2 hd
  unfold cnt at h
  match hl : dom m, h with
  | [a], _ =>
    rw [hl] at h1 h2
    simp at h1 h2
    rw [h1, h2]
theorem cnt_two {α : Type} {m : UInt8 → Option α} {c d : UInt8} (hc : (m c).isSome) (hd : (m d).isSome) (hne : c ≠ d) : 2 ≤ cnt m := by
  have h1 := cnt_pos hc
  by_cases h : cnt m = 1
  · exact absurd (cnt_one h hc hd) hne
  · omega
/-- the first kid's byte -/
def fstE (kids : UInt8 → E) : UInt8 := (nextB (fun c => (kids c).opt) 0).getD 0
def liftE (part : Key) (c : UInt8) : E → E
  | .nil => .nil
  | .node p v ks => .node (part ++ c :: p) v ks
/-- a node, or what is left of it -/
def normE (part : Key) (val : Option Nat) (kids : UInt8 → E) : E :=
  match val with
  | some v => .node part (some v) kids
  | none => if cntE kids = 0 then .nil else if cntE kids = 1 then liftE part (fstE kids) (kids (fstE kids)) else .node part none kids
theorem fstE_some {kids : UInt8 → E} (h : cntE kids ≠ 0) : (kids (fstE kids)).opt.isSome = true := by
  unfold fstE
  cases e : nextB (fun c => (kids c).opt) 0 with
  | none =>
    exfalso
    apply h
    have : kids = noE := funext fun c => E.opt_none (nextB_none.1 e c (Nat.zero_le _))
    rw [this]; exact cntE_no
  | some c => exact (nextB_some.1 e).1
theorem liftE_get {part : Key} {c : UInt8} {e : E} {kids : UInt8 → E} (h1 : kids c = e) (h2 : ∀ d, d ≠ c → kids d = .nil) (k : Key) : (liftE part c e).get k = (E.node part none kids).get k := by
  subst h1
  by_cases hp : part <+: k
  · obtain ⟨s, rfl⟩ := hp
    cases s with
    | nil =>
      rw [List.append_nil, get_nil]
      cases hk : kids c with
      | nil => rfl
      | node p v ks => exact get_nil'
    | cons d s =>
      rw [get_cons]
      by_cases e : d = c
      · subst e
        cases hk : kids d with
        | nil => rfl
        | node p v ks => exact get_shift
      · rw [h2 d e]
        cases hk : kids c with
        | nil => rfl
        | node p v ks => exact get_other e
  · rw [get_no hp]
    cases hk : kids c with
    | nil => rfl
    | node p v ks => exact get_no fun h => hp ((List.prefix_append _ _).trans h)
theorem liftE_fine {part : Key} {c : UInt8} {e : E} (h : e.Fine) : (liftE part c e).Fine := by
  cases e with
  | nil => trivial
  | node => exact h
theorem normE_get {part : Key} {val : Option Nat} {kids : UInt8 → E} (k : Key) : (normE part val kids).get k = (E.node part val kids).get k := by
  unfold normE
  cases val with
  | some v => rfl
  | none =>
    show (if cntE kids = 0 then E.nil else if cntE kids = 1 then liftE part (fstE kids) (kids (fstE kids)) else .node part none kids).get k = _
    split
    · rename_i h
      rw [cntE_zero h]
      by_cases hp : part <+: k
      · obtain ⟨s, rfl⟩ := hp
        cases s with
        | nil => rw [List.append_nil, get_nil]; rfl
        | cons c s => rw [get_cons]; rfl
      · rw [get_no hp]; rfl
    · split
      · rename_i h0 h1
        have hs := fstE_some h0
        refine liftE_get rfl (fun d hd => ?_) k
        refine Classical.byContradiction fun hn => hd ?_
        exact cnt_one h1 (E.isSome_iff.2 hn) hs
      · rfl
theorem normE_fine {part : Key} {val : Option Nat} {kids : UInt8 → E} (h : ∀ c, (kids c).Fine) : (normE part val kids).Fine := by
  unfold normE
  cases val with
  | some v =>
    refine fine_node (fun _ => rfl) (fun h => ?_) h
    show 2 ≤ cntE kids + 1
    omega
  | none =>
    show (if cntE kids = 0 then E.nil else if cntE kids = 1 then liftE part (fstE kids) (kids (fstE kids)) else .node part none kids).Fine
    split
    · trivial
    · split
      · exact liftE_fine (h _)
      · refine fine_node (fun h => by omega) (fun h => ?_) h
        show 2 ≤ cntE kids + 0
        omega
/-- a node that stays -/
theorem normE_id {part : Key} {val : Option Nat} {kids : UInt8 → E} (h : 2 ≤ cntE kids + one val) : normE part val kids = .node part val kids := by
  unfold normE
  cases val with
  | some v => rfl
  | none =>
    have h : 2 ≤ cntE kids + 0 := h
    show (if cntE kids = 0 then E.nil else _) = _
    rw [if_neg (by omega), if_neg (by omega)]
theorem normE_one {part : Key} {kids : UInt8 → E} {c : UInt8} (h1 : (kids c).opt.isSome = true) (h2 : ∀ d, d ≠ c → kids d = .nil) : normE part none kids = liftE part c (kids c) := by
  have hc : cntE kids = 1 := by
    have := cntE_upd noE c (kids c)
    rw [cntE_no, h1] at this
    have e : updE noE c (kids c) = kids := by
      funext d
      by_cases e : d = c
      · subst e; rw [updE_same]
      · rw [updE_other _ _ e, h2 d e]; rfl
    rw [e] at this
    simpa [noE, E.opt] using this
  have hf : fstE kids = c := cnt_one hc (fstE_some (by omega)) h1
  unfold normE
  show (if cntE kids = 0 then E.nil else if cntE kids = 1 then liftE part (fstE kids) (kids (fstE kids)) else .node part none kids) = _
  rw [if_neg (by omega), if_pos hc, hf]

/-! without a key -/
def delE : E → Key → E
  | .nil, _ => .nil
  | .node part val kids, k => if part <+: k then (match k.drop part.length with
    | [] => normE part none kids
    | c :: r => normE part val (updE kids c (delE (kids c) r))) else .node part val kids
theorem delE_app {part r : Key} {val : Option Nat} {kids : UInt8 → E} : delE (.node part val kids) (part ++ r) = match r with
    | [] => normE part none kids
    | c :: r => normE part val (updE kids c (delE (kids c) r)) := by
  rw [delE, if_pos (List.prefix_append _ _), List.drop_left]
  cases r <;> rfl
theorem delE_no {part k : Key} {val : Option Nat} {kids : UInt8 → E} (h : ¬ part <+: k) : delE (.node part val kids) k = .node part val kids := by rw [delE, if_neg h]
theorem get_ext {part : Key} {val val' : Option Nat} {kids kids' : UInt8 → E} {k : Key} (h1 : k = part → val = val') (h2 : ∀ c r, k = part ++ c :: r → (kids c).get r = (kids' c).get r) : (E.node part val kids).get k = (E.node part val' kids').get k := by
  by_cases hp : part <+: k
  · obtain ⟨s, rfl⟩ := hp
    cases s with
    | nil => rw [List.append_nil] at *; rw [get_nil, get_nil, h1 rfl]
    | cons c s => rw [get_cons, get_cons, h2 c s rfl]
  · rw [get_no hp, get_no hp]
theorem delE_get : ∀ {e : E} {k k' : Key}, (delE e k).get k' = if k' = k then none else e.get k' := by
  intro e
  induction e with
  | nil => intro k k'; split <;> rfl
  | node part val kids ih =>
    intro k k'
    by_cases hp : part <+: k
    · obtain ⟨s, rfl⟩ := hp
      rw [delE_app]
      cases s with
      | nil =>
        show (normE part none kids).get k' = _
        rw [normE_get, List.append_nil]
        split
        · rename_i e; rw [e, get_nil]
        · rename_i e; exact get_ext (fun h => absurd h e) fun _ _ _ => rfl
      | cons c s =>
        show (normE part val (updE kids c (delE (kids c) s))).get k' = _
        rw [normE_get]
        by_cases e : k' = part ++ c :: s
        · rw [if_pos e, e, get_cons, updE_same, ih, if_pos rfl]
        · rw [if_neg e]
          refine get_ext (fun _ => rfl) fun d r hd => ?_
          by_cases e2 : d = c
          · subst e2
            rw [updE_same, ih, if_neg]
            intro e3; apply e; rw [hd, e3]
          · rw [updE_other _ _ e2]
    · rw [delE_no hp]
      split
      · rename_i e; rw [e, get_no hp]
      · rfl
theorem delE_fine : ∀ {e : E} {k : Key}, e.Fine → (delE e k).Fine := by
  intro e
  induction e with
  | nil => intro k h; exact h
  | node part val kids ih =>
    intro k h
    obtain ⟨h1, h2, h3⟩ := fine_of h
    by_cases hp : part <+: k
    · obtain ⟨s, rfl⟩ := hp
      rw [delE_app]
      cases s with
      | nil => exact normE_fine h3
      | cons c s => exact normE_fine (updE_fine h3 (ih c (h3 c)))
    · rw [delE_no hp]; exact h
theorem Can.del {e : E} {g : Key → Option Nat} (h : Can e g) (k : Key) : Can (delE e k) fun k' => if k' = k then none else g k' :=
  ⟨delE_fine h.fine, fun k' => by rw [delE_get, h.get]⟩

/-! a tree's top part -/
/-- the tree with bytes ahead of its part -/
def partE (part : Key) : E → E
  | .nil => .nil
  | .node _ v ks => .node part v ks
theorem partE_fine {part : Key} {e : E} (h : e.Fine) : (partE part e).Fine := by
  cases e with
  | nil => trivial
  | node => exact h
/-- all keys begin with what is dropped, and put ahead -/
theorem partE_get {p q a b : Key} {val : Option Nat} {kids : UInt8 → E} (k : Key) : (E.node (a ++ p) val kids).get k = if a <+: k then (E.node p val kids).get (k.drop a.length) else none := by
  split
  · rename_i h
    obtain ⟨s, rfl⟩ := h
    rw [List.drop_left]
    by_cases hp : p <+: s
    · obtain ⟨r, rfl⟩ := hp
      rw [← List.append_assoc, E.get_app, E.get_app]
    · rw [get_no hp, get_no fun h => hp ((List.prefix_append_right_inj _).1 h)]
  · rename_i h
    exact get_no fun h' => h ((List.prefix_append _ _).trans h')
end Go.Proofs.YtbfnagdpanfphaaGreatDoor
end
section
namespace Go.Proofs.YtbfnagdpanfphaaGreatDoor
open Go X
set_option linter.unusedSimpArgs false
set_option linter.unusedVariables false

/-- what is between two keys begins as they do -/
theorem sandwich : ∀ {p a x z : Key}, kcmp (p ++ a) x ≤ 0 → kcmp x (p ++ z) ≤ 0 → p <+: x := by
  intro p
  induction p with
  | nil => intro a x z _ _; exact List.nil_prefix
  | cons c p ih =>
    intro a x z h1 h2
    cases x with
    | nil => exact absurd h1 (by show ¬ ((1 : Int) ≤ 0); decide)
    | cons d x =>
      rw [List.cons_append, kcmp_cons] at h1 h2
      have hcd : ¬ d < c := fun h => by
        rw [if_neg (UInt8.lt_asymm h), if_pos h] at h1
        exact absurd h1 (by decide)
      have hdc : ¬ c < d := fun h => by
        rw [if_neg (UInt8.lt_asymm h), if_pos h] at h2
        exact absurd h2 (by decide)
      have e : c = d := UInt8.le_antisymm (UInt8.not_lt.1 hcd) (UInt8.not_lt.1 hdc)
      subst e
      rw [if_neg hcd, if_neg hcd] at h1 h2
      exact List.cons_prefix_cons.2 ⟨rfl, ih h1 h2⟩
theorem kle_of {a b : Key} (h : klt a b ∨ a = b) : kcmp a b ≤ 0 := by
  rcases h with h | h
  · exact Int.le_of_lt h
  · rw [h, kcmp_self]; decide
theorem Rises.first {l : Kv} {a : Key × Nat} (h : Rises (a :: l)) {x : Key × Nat} (hx : x ∈ a :: l) : klt a.1 x.1 ∨ a = x := by
  rcases List.mem_cons.1 hx with e | e
  · exact .inr e.symm
  · exact .inl ((List.pairwise_cons.1 h).1 x e)
theorem Rises.last {l : Kv} (h : Rises l) {z : Key × Nat} (hz : l.getLast? = some z) {x : Key × Nat} (hx : x ∈ l) : klt x.1 z.1 ∨ x = z := by
  obtain ⟨m, rfl⟩ := List.getLast?_eq_some_iff.1 hz
  rcases List.mem_append.1 hx with e | e
  · exact .inl ((List.pairwise_append.1 h).2.2 x e z (by simp))
  · exact .inr (by simpa using e)
/-- what the first and the last one begin with, all begin with -/
theorem Rises.common {l : Kv} {a z : Key × Nat} (h : Rises (a :: l)) (hz : (a :: l).getLast? = some z) {p : Key} (ha : p <+: a.1) (hp : p <+: z.1) : ∀ x ∈ a :: l, p <+: x.1 := by
  intro x hx
  obtain ⟨a', ha'⟩ := ha
  obtain ⟨z', hz'⟩ := hp
  refine sandwich (a := a') (z := z') ?_ ?_
  · rw [ha']; exact kle_of ((h.first hx).imp id fun e => by rw [e])
  · rw [hz']; exact kle_of ((h.last hz hx).imp id fun e => by rw [e])

def byteAt (n : Nat) (k : Key) : UInt8 := k.getD n 0
theorem byteAt_app (q : Key) (c : UInt8) (r : Key) : byteAt q.length (q ++ c :: r) = c := by simp [byteAt, List.getD]
/-- all keys begin with q, and go on -/
def Longer (q : Key) (l : Kv) : Prop := ∀ x ∈ l, ∃ c r, x.1 = q ++ c :: r
theorem Longer.of {q : Key} {l : Kv} (h : ∀ x ∈ l, q <+: x.1) (hn : ∀ x ∈ l, x.1 ≠ q) : Longer q l := fun x hx => by
  obtain ⟨s, hs⟩ := h x hx
  cases s with
  | nil => exact absurd (by simpa using hs.symm) (hn x hx)
  | cons c r => exact ⟨c, r, hs.symm⟩
theorem look_byte {q : Key} {l : Kv} {b c : UInt8} {r : Key} (h : ∀ x ∈ l, byteAt q.length x.1 = b) (hc : c ≠ b) : look l (q ++ c :: r) = none := by
  refine look_none.2 fun x hx e => hc ?_
  have := h x hx
  rw [e, byteAt_app] at this
  exact this
theorem look_bytes {q : Key} {l : Kv} {c : UInt8} {r : Key} (h : ∀ x ∈ l, byteAt q.length x.1 ≠ c) : look l (q ++ c :: r) = none := by
  refine look_none.2 fun x hx e => h x hx ?_
  rw [e, byteAt_app]
theorem look_q {q : Key} {l : Kv} (h : Longer q l) : look l q = none := by
  refine look_none.2 fun x hx e => ?_
  obtain ⟨c, r, hr⟩ := h x hx
  rw [hr] at e
  have := congrArg List.length e
  simp at this
/-- bytes rise with keys -/
theorem byte_le {q : Key} {x y : Key} {c d : UInt8} {r s : Key} (hx : x = q ++ c :: r) (hy : y = q ++ d :: s) (h : klt x y) : c ≤ d := by
  subst hx; subst hy
  unfold klt at h
  rw [kcmp_app, kcmp_cons] at h
  refine UInt8.not_lt.1 fun hd => ?_
  rw [if_neg (UInt8.lt_asymm hd), if_pos hd] at h
  exact absurd h (by decide)
/-- behind the first group no byte of it comes again -/
theorem Rises.groups {q : Key} {l : Kv} (h : Rises l) (hl : Longer q l) {n : Nat} {b : UInt8} (hb : ∀ x ∈ l.take n, byteAt q.length x.1 = b) (hn : 0 < n) (hs : ∀ y, l[n]? = some y → byteAt q.length y.1 ≠ b) : ∀ y ∈ l.drop n, byteAt q.length y.1 ≠ b := by
  intro y hy
  rcases Nat.lt_or_ge n l.length with hlt | hge
  · cases l with
    | nil => simp at hy
    | cons a m =>
      have ha : a ∈ (a :: m).take n := by
        cases n with
        | zero => omega
        | succ n => simp
      have hba := hb a ha
      have hz : (a :: m)[n]? = some (a :: m)[n] := List.getElem?_eq_getElem hlt
      have hzb := hs _ hz
      have hzm : (a :: m)[n] ∈ a :: m := List.getElem_mem hlt
      have hd : (a :: m).drop n = (a :: m)[n] :: (a :: m).drop (n + 1) := (List.drop_eq_getElem_cons hlt)
      have hr : Rises ((a :: m).drop n) := List.Pairwise.sublist (List.drop_sublist n _) h
      obtain ⟨c0, r0, e0⟩ := hl a (by simp)
      obtain ⟨c1, r1, e1⟩ := hl _ hzm
      obtain ⟨c2, r2, e2⟩ := hl y (List.mem_of_mem_drop hy)
      have haz : klt a.1 (a :: m)[n].1 := by
        have := (List.pairwise_cons.1 h).1 ((a :: m)[n]) (by
          cases n with
          | zero => omega
          | succ n => simp)
        exact this
      have hzy : klt (a :: m)[n].1 y.1 ∨ (a :: m)[n] = y := by
        rw [hd] at hr hy
        exact hr.first hy
      have k0 : b = c0 := by rw [← hba, e0, byteAt_app]
      have k1 : byteAt q.length (a :: m)[n].1 = c1 := by rw [e1, byteAt_app]
      have k2 : byteAt q.length y.1 = c2 := by rw [e2, byteAt_app]
      rw [k2, k0]
      rw [k1, k0] at hzb
      have h1 := byte_le e0 e1 haz
      rcases hzy with hzy | hzy
      · have h2 := byte_le e1 e2 hzy
        intro e
        subst e
        exact hzb (UInt8.le_antisymm h2 h1)
      · have : c1 = c2 := by rw [← k1, ← k2, hzy]
        rw [← this]; exact hzb
  · rw [List.drop_eq_nil_of_le hge] at hy; cases hy

theorem Can.leaf {k : Key} {v : Nat} {g : Key → Option Nat} (h : ∀ r, g r = if r = k then some v else none) : Can (.node k (some v) noE) g :=
  ⟨fine_leaf, fun r => by
    rw [h]
    by_cases e : r = k
    · subst e; rw [if_pos rfl, get_nil]
    · rw [if_neg e]
      by_cases hp : k <+: r
      · obtain ⟨s, rfl⟩ := hp
        cases s with
        | nil => simp at e
        | cons c s => rw [get_cons]; rfl
      · exact get_no hp⟩
theorem Can.node {part : Key} {val : Option Nat} {kids : UInt8 → E} {g : Key → Option Nat} (hk : ∀ c, Can (kids c) fun r => g (part ++ c :: r)) (hv : val = g part) (ho : ∀ k, ¬ part <+: k → g k = none) (h2 : 2 ≤ cntE kids + one val) : Can (.node part val kids) g := by
  refine ⟨fine_node (fun h => ?_) (fun _ => h2) fun c => (hk c).fine, fun k => ?_⟩
  · rw [h] at h2
    unfold one at h2
    split at h2
    · assumption
    · omega
  · by_cases hp : part <+: k
    · obtain ⟨s, rfl⟩ := hp
      cases s with
      | nil => rw [List.append_nil, get_nil, hv]
      | cons c s => rw [get_cons, (hk c).get]
    · rw [get_no hp, ho k hp]
/-- a kid of a canonical tree of what is held is there just if something is held -/
theorem Can.some {e : E} {g : Key → Option Nat} (h : Can e g) {k : Key} (hk : (g k).isSome) : e.opt.isSome := by
  refine E.isSome_iff.2 fun e' => ?_
  subst e'
  rw [← h.get] at hk
  cases hk
theorem Can.none {e : E} {g : Key → Option Nat} (h : Can e g) (hk : ∀ k, g k = none) : e = .nil := by
  refine Classical.byContradiction fun e' => ?_
  obtain ⟨k, v, hv⟩ := h.fine.some_key e'
  rw [h.get, hk] at hv
  cases hv
/-- a node of pairs, in groups -/
theorem Can.groups {part q : Key} {l done : Kv} {val : Option Nat} {kids : UInt8 → E} {p : Key} (hq : q = p ++ part) (hk : ∀ c, Can (kids c) fun r => look done (q ++ c :: r))
    (hd : ∀ c r, look done (q ++ c :: r) = look l (q ++ c :: r)) (hv : val = look l q) (hb : ∀ x ∈ l, q <+: x.1)
    (h2 : ∃ x ∈ l, ∃ c r, x.1 = q ++ c :: r ∧ (val.isSome ∨ ∃ y ∈ l, ∃ d s, y.1 = q ++ d :: s ∧ c ≠ d)) : Can (.node part val kids) fun r => look l (p ++ r) := by
  subst hq
  have hsome : ∀ x ∈ l, ∀ c r, x.1 = (p ++ part) ++ c :: r → (kids c).opt.isSome := fun x hx c r e => by
    refine (hk c).some (k := r) ?_
    show (look done ((p ++ part) ++ c :: r)).isSome = true
    rw [hd]
    cases h : look l ((p ++ part) ++ c :: r) with
    | none => exact absurd e (look_none.1 h x hx)
    | some => rfl
  refine Can.node (fun c => ?_) (by rw [hv]) (fun k hn => ?_) ?_
  · refine (hk c).congr fun r => ?_
    rw [hd, List.append_assoc]
  · refine look_none.2 fun x hx e => hn ?_
    obtain ⟨s, hs⟩ := hb x hx
    rw [e, List.append_assoc] at hs
    exact ⟨s, List.append_cancel_left hs⟩
  · obtain ⟨x, hx, c, r, e, h | ⟨y, hy, d, s, e', hne⟩⟩ := h2
    · have h0 := cnt_pos (m := fun c => (kids c).opt) (hsome x hx c r e)
      unfold one
      rw [if_pos h]
      show 2 ≤ cnt _ + 1
      omega
    · have := cnt_two (m := fun c => (kids c).opt) (hsome x hx c r e) (hsome y hy d s e') hne
      show 2 ≤ cnt _ + one val
      omega
/-- one group more -/
theorem Can.group {q : Key} {done g : Kv} {kids : UInt8 → E} {b : UInt8} {e : E} (hk : ∀ c, Can (kids c) fun r => look done (q ++ c :: r)) (he : Can e fun r => look g (q ++ b :: r))
    (hd : ∀ x ∈ done, byteAt q.length x.1 ≠ b) (hg : ∀ x ∈ g, byteAt q.length x.1 = b) : ∀ c, Can (updE kids b e c) fun r => look (done ++ g) (q ++ c :: r) := by
  intro c
  by_cases h : c = b
  · subst h
    rw [updE_same]
    refine he.congr fun r => ?_
    rw [look_app, look_bytes hd]; rfl
  · rw [updE_other _ _ h]
    refine (hk c).congr fun r => ?_
    rw [look_app, look_byte hg h]
    cases look done (q ++ c :: r) <;> rfl
end Go.Proofs.YtbfnagdpanfphaaGreatDoor
end
section
namespace Go.Proofs.YtbfnagdpanfphaaGreatDoor
open Go X
set_option linter.unusedSimpArgs false
set_option linter.unusedVariables false

/-- a number's digits -/
def decF : Nat → Nat → List UInt8
  | 0, n => [UInt8.ofNat (48 + n)]
  | f + 1, n => if n < 10 then [UInt8.ofNat (48 + n)] else decF f (n / 10) ++ [UInt8.ofNat (48 + n % 10)]
theorem decF_fuel : ∀ {f g n : Nat}, n ≤ f → n ≤ g → decF f n = decF g n := by
  intro f
  induction f with
  | zero =>
    intro g n h1 h2
    have : n = 0 := by omega
    subst this
    cases g <;> rfl
  | succ f ih =>
    intro g n h1 h2
    cases g with
    | zero =>
      have : n = 0 := by omega
      subst this
      rfl
    | succ g =>
      rw [decF, decF]
      split
      · rfl
      · rw [ih (g := g) (by omega) (by omega)]
def decK (n : Nat) : List UInt8 := decF n n
theorem decK_small {n : Nat} (h : n < 10) : decK n = [UInt8.ofNat (48 + n)] := by
  unfold decK
  cases n with
  | zero => rfl
  | succ n => rw [decF, if_pos h]
theorem decK_big {n : Nat} (h : ¬ n < 10) : decK n = decK (n / 10) ++ [UInt8.ofNat (48 + n % 10)] := by
  unfold decK
  cases n with
  | zero => exact absurd (by omega) h
  | succ n => rw [decF, if_neg h, decF_fuel (g := (n + 1) / 10) (by omega) (Nat.le_refl _)]
/-- a digit of sixteen -/
def hexD (n : Nat) : UInt8 := if n < 10 then UInt8.ofNat (48 + n) else UInt8.ofNat (87 + n)
def hexB (c : UInt8) : List UInt8 := [hexD (c.toNat / 16), hexD (c.toNat % 16)]
/-- a key as a text -/
def hexK (k : Key) : List UInt8 := k.flatMap hexB
theorem hexK_length (k : Key) : (hexK k).length = 2 * k.length := by
  unfold hexK
  induction k with
  | nil => rfl
  | cons c r ih => rw [List.flatMap_cons, List.length_append, ih]; simp [hexB]; omega
def valS : Option Nat → List UInt8
  | none => []
  | some v => 61 :: decK v
/-- a tree's shape -/
def E.shape : E → List UInt8
  | .nil => [46]
  | .node part val kids => if cntE kids = 0 then 76 :: (hexK part ++ valS val) else
      decK (kindN (cntE kids)) ++ 60 :: (hexK part ++ (valS val ++ (((dom fun c => (kids c).opt).flatMap fun c => 58 :: (hexB c ++ (kids c).shape)) ++ [62])))
end Go.Proofs.YtbfnagdpanfphaaGreatDoor
end
section
namespace Go.Proofs.YtbfnagdpanfphaaGreatDoor
open Go X
set_option linter.unusedSimpArgs false
set_option linter.unusedVariables false

theorem byteAt_get {k : Key} {n : Nat} (h : n < k.length) : k[n] = byteAt n k := by simp [byteAt, List.getD, List.getElem?_eq_getElem h]
theorem Longer.lt {q : Key} {l : Kv} (h : Longer q l) {x : Key × Nat} (hx : x ∈ l) : q.length < x.1.length := by
  obtain ⟨c, r, e⟩ := h x hx
  rw [e]; simp
theorem common_take (a b : Key) : a.take (common a b) <+: b := by
  obtain ⟨p, q, r, h1, h2, h3, -⟩ := common_split a b
  rw [← h3]
  conv => lhs; rw [h1]
  conv => rhs; rw [h2]
  rw [List.take_left]
  exact List.prefix_append _ _
theorem common_ne {a b : Key} (h1 : common a b < a.length) (h2 : common a b < b.length) : byteAt (common a b) a ≠ byteAt (common a b) b := by
  obtain ⟨p, q, r, e1, e2, e3, e4⟩ := common_split a b
  rw [← e3] at h1 h2 ⊢
  rw [e1] at h1 ⊢
  rw [e2] at h2 ⊢
  cases q with
  | nil => simp at h1
  | cons x q => cases r with
    | nil => simp at h2
    | cons y r => rw [byteAt_app, byteAt_app]; exact e4 x y q r rfl rfl
theorem split_at {q k : Key} (h : q <+: k) (hl : q.length < k.length) : ∃ r, k = q ++ byteAt q.length k :: r := by
  obtain ⟨s, rfl⟩ := h
  cases s with
  | nil => simp at hl
  | cons c r => exact ⟨r, by rw [byteAt_app]⟩
theorem common_ge {p a b : Key} (h1 : p <+: a) (h2 : p <+: b) : p.length ≤ common a b := by
  obtain ⟨s, rfl⟩ := h1
  obtain ⟨t, rfl⟩ := h2
  induction p with
  | nil => simp
  | cons c p ih => simp only [List.cons_append, common, if_true, List.length_cons]; omega
theorem common_comm : ∀ (a b : Key), common a b = common b a := by
  intro a
  induction a with
  | nil => intro b; cases b <;> rfl
  | cons x r ih => intro b; cases b with
    | nil => rfl
    | cons y s =>
      simp only [common]
      by_cases h : x = y
      · rw [if_pos h, if_pos h.symm, ih]
      · rw [if_neg h, if_neg (Ne.symm h)]
theorem prefix_of_common {a b : Key} : (a.take (common a b)).length = common a b := by
  rw [List.length_take]; have := common_le a b; omega

/-- pairs part behind q: the first may end there, the others go on -/
structure Parts (L : Kv) (x : Key × Nat) (q : Key) (L' : Kv) (val : Option Nat) : Prop where
  all : ∀ u ∈ L, q <+: u.1
  long : Longer q L'
  vl : val = look L q
  get : ∀ c r, look L' (q ++ c :: r) = look L (q ++ c :: r)
  two : ∃ u ∈ L, ∃ c r, u.1 = q ++ c :: r ∧ (val.isSome ∨ ∃ y ∈ L, ∃ d s, y.1 = q ++ d :: s ∧ c ≠ d)
theorem Parts.of {x : Key × Nat} {l : Kv} {q : Key} (hr : Rises (x :: l)) (hne : l ≠ []) (hall : ∀ u ∈ x :: l, q <+: u.1) (hmax : q.length = x.1.length ∨ ∃ u ∈ x :: l, q.length < u.1.length ∧ byteAt q.length u.1 ≠ byteAt q.length x.1) :
    Parts (x :: l) x q (if x.1.length = q.length then l else x :: l) (if x.1.length = q.length then some x.2 else none) := by
  have hq : ∀ u ∈ x :: l, u.1 = q → u = x := fun u hu e => by
    rcases hr.first hu with h | h
    · exfalso
      obtain ⟨s, hs⟩ := hall x (by simp)
      rw [e, ← hs] at h
      unfold klt at h
      have : kcmp (q ++ s) (q ++ []) < 0 := by rw [List.append_nil]; exact h
      rw [kcmp_app] at this
      cases s with
      | nil => exact absurd this (by decide)
      | cons c s => rw [kcmp_cn] at this; exact absurd this (by decide)
    · exact h.symm
  by_cases e : x.1.length = q.length
  · rw [if_pos e, if_pos e]
    have hxq : x.1 = q := ((hall x (by simp)).eq_of_length e.symm).symm
    have hl : Longer q l := Longer.of (fun u hu => hall u (by simp [hu])) fun u hu h => by
      have := hq u (by simp [hu]) h
      subst this
      exact klt_irr ((List.pairwise_cons.1 hr).1 u hu)
    obtain ⟨u, m, rfl⟩ := List.exists_cons_of_ne_nil hne
    obtain ⟨c, r, hcr⟩ := hl u (by simp)
    refine ⟨hall, hl, by rw [look, if_pos hxq], fun c r => ?_, u, by simp, c, r, hcr, .inl rfl⟩
    show look (u :: m) (q ++ c :: r) = if x.1 = q ++ c :: r then some x.2 else look (u :: m) (q ++ c :: r)
    rw [if_neg]
    intro h
    rw [hxq] at h
    have := congrArg List.length h
    simp at this
  · rw [if_neg e, if_neg e]
    have hxl : q.length < x.1.length := by have := (hall x (by simp)).length_le; omega
    have hl : Longer q (x :: l) := Longer.of hall fun u hu h => by
      have := hq u hu h
      subst this
      rw [h] at e; exact e rfl
    rcases hmax with h | ⟨u, hu, h1, h2⟩
    · exact absurd h.symm e
    · obtain ⟨c, r, hc⟩ := hl x (by simp)
      obtain ⟨d, s, hd⟩ := hl u hu
      refine ⟨hall, hl, (look_q hl).symm, fun _ _ => rfl, x, by simp, c, r, hc, .inr ⟨u, hu, d, s, hd, fun e => h2 ?_⟩⟩
      rw [hc, hd, byteAt_app, byteAt_app, e]
/-- .. where the first and the last one part -/
theorem Parts.ends {x z : Key × Nat} {l : Kv} (hr : Rises (x :: l)) (hne : l ≠ []) (hz : (x :: l).getLast? = some z) :
    Parts (x :: l) x (x.1.take (common x.1 z.1)) (if x.1.length = (x.1.take (common x.1 z.1)).length then l else x :: l) (if x.1.length = (x.1.take (common x.1 z.1)).length then some x.2 else none) := by
  have hp : x.1.take (common x.1 z.1) <+: x.1 := List.take_prefix _ _
  have hzm : z ∈ x :: l := List.mem_of_getLast? hz
  have hcl := common_le x.1 z.1
  refine Parts.of hr hne (hr.common hz hp (common_take _ _)) ?_
  rw [prefix_of_common]
  by_cases e : common x.1 z.1 = x.1.length
  · exact .inl e
  · right
    have hzl : common x.1 z.1 < z.1.length := by
      refine Classical.byContradiction fun hn => ?_
      have hz2 : common x.1 z.1 = z.1.length := by omega
      have h1 : z.1 <+: x.1 := by
        have := common_take z.1 x.1
        rw [common_comm, hz2, List.take_length] at this
        exact this
      obtain ⟨s, hs⟩ := h1
      have hxz : klt x.1 z.1 := by
        rcases hr.first hzm with h | h
        · exact h
        · exfalso
          obtain ⟨u, m, rfl⟩ := List.exists_cons_of_ne_nil hne
          have := hr.last hz (x := u) (by simp)
          have hxu := (List.pairwise_cons.1 hr).1 u (by simp)
          rcases this with h' | h'
          · rw [← h] at h'; exact klt_asym hxu h'
          · rw [h', ← h] at hxu; exact klt_irr hxu
      rw [← hs] at hxz
      have : kcmp (z.1 ++ s) (z.1 ++ []) < 0 := by rw [List.append_nil]; exact hxz
      rw [kcmp_app] at this
      cases s with
      | nil => exact absurd this (by decide)
      | cons c s => rw [kcmp_cn] at this; exact absurd this (by decide)
    exact ⟨z, hzm, hzl, (common_ne (by omega) hzl).symm⟩
end Go.Proofs.YtbfnagdpanfphaaGreatDoor
end
section
namespace Go.Proofs.YtbfnagdpanfphaaGreatDoor
open Go X
set_option linter.unusedSimpArgs false
set_option linter.unusedVariables false

def valL (k : Key) : Option Nat → Kv
  | none => []
  | some v => [(k, v)]
/-- the pairs, behind some bytes, rising -/
def E.list : E → Key → Kv
  | .nil, _ => []
  | .node part val kids, w => valL (w ++ part) val ++ (dom fun c => (kids c).opt).flatMap fun c => (kids c).list (w ++ part ++ [c])
theorem E.list_begins : ∀ {e : E} {w : Key} {p : Key × Nat}, p ∈ e.list w → w <+: p.1 := by
  intro e
  induction e with
  | nil => intro w p h; cases h
  | node part val kids ih =>
    intro w p h
    rw [E.list, List.mem_append, List.mem_flatMap] at h
    rcases h with h | ⟨c, hc, h⟩
    · cases val with
      | none => cases h
      | some v => rw [valL, List.mem_singleton] at h; rw [h]; exact List.prefix_append _ _
    · have := ih c h
      rw [List.append_assoc] at this
      exact (List.prefix_append _ _).trans this
theorem E.list_look : ∀ {e : E} {w r : Key}, look (e.list w) (w ++ r) = e.get r := by
  intro e
  induction e with
  | nil => intro w r; rfl
  | node part val kids ih =>
    intro w r
    rw [E.list, look_app]
    have hf : ∀ (l : List UInt8) (c : UInt8) (s : Key), look (l.flatMap fun c => (kids c).list (w ++ part ++ [c])) (w ++ part ++ c :: s) = if c ∈ l then (kids c).get s else none := by
      intro l c s
      induction l with
      | nil => rfl
      | cons a l ihl =>
        rw [List.flatMap_cons, look_app, ihl]
        by_cases e : a = c
        · subst e
          have := ih a (w := w ++ part ++ [a]) (r := s)
          rw [List.append_assoc _ [a]] at this
          rw [show w ++ part ++ a :: s = w ++ part ++ ([a] ++ s) by rfl, this]
          simp only [List.mem_cons, true_or, if_true]
          cases (kids a).get s <;> simp
        · have : look ((kids a).list (w ++ part ++ [a])) (w ++ part ++ c :: s) = none := look_none.2 fun p hp e' => by
            have h1 := E.list_begins hp
            rw [e', List.prefix_append_right_inj] at h1
            obtain ⟨x, hx⟩ := h1
            simp at hx
            exact e hx.1
          rw [this]
          simp only [List.mem_cons]
          by_cases hc : c ∈ l
          · rw [if_pos hc, if_pos (.inr hc)]; rfl
          · rw [if_neg hc, if_neg (fun h => h.elim (fun h => e h.symm) hc)]; rfl
    by_cases hp : part <+: r
    · obtain ⟨s, rfl⟩ := hp
      cases s with
      | nil =>
        rw [List.append_nil, get_nil]
        have : look ((dom fun c => (kids c).opt).flatMap fun c => (kids c).list (w ++ part ++ [c])) (w ++ part) = none := look_none.2 fun p hp e => by
          obtain ⟨c, -, h⟩ := List.mem_flatMap.1 hp
          have := (E.list_begins h).length_le
          rw [e] at this
          simp at this
          omega
        rw [this]
        cases val with
        | none => rfl
        | some v => show (if w ++ part = w ++ part then some v else none).or none = _; rw [if_pos rfl]; rfl
      | cons c s =>
        rw [get_cons, ← List.append_assoc, hf]
        have h0 : look (valL (w ++ part) val) (w ++ part ++ c :: s) = none := by
          cases val with
          | none => rfl
          | some v =>
            show (if w ++ part = w ++ part ++ c :: s then some v else none) = none
            rw [if_neg]
            intro h
            have := congrArg List.length h
            simp at this
        rw [h0]
        by_cases hc : c ∈ dom fun c => (kids c).opt
        · rw [if_pos hc]; rfl
        · rw [if_neg hc]
          have : kids c = .nil := E.opt_none (by
            cases h : (kids c).opt with
            | none => rfl
            | some => exact absurd (dom_mem.2 (by rw [h]; rfl)) hc)
          rw [this]; rfl
    · rw [get_no hp]
      have h1 : ∀ p ∈ valL (w ++ part) val ++ (dom fun c => (kids c).opt).flatMap fun c => (kids c).list (w ++ part ++ [c]), w ++ part <+: p.1 := fun p hp => by
        rcases List.mem_append.1 hp with h | h
        · cases val with
          | none => cases h
          | some v => rw [valL, List.mem_singleton] at h; rw [h]; exact List.prefix_refl _
        · obtain ⟨c, -, h⟩ := List.mem_flatMap.1 h
          exact (List.prefix_append _ _).trans (E.list_begins h)
      rw [← look_app]
      refine look_none.2 fun p hp' e => hp ?_
      have := h1 p hp'
      rw [e, List.prefix_append_right_inj] at this
      exact this
theorem klt_app (p : Key) {a b : Key} : klt (p ++ a) (p ++ b) ↔ klt a b := by unfold klt; rw [kcmp_app]
theorem klt_cons {c d : UInt8} {a b : Key} (h : c.toNat < d.toNat) : klt (c :: a) (d :: b) := by
  unfold klt
  rw [kcmp_cons, if_pos (UInt8.lt_iff_toNat_lt.2 h)]; decide
theorem E.list_rises : ∀ {e : E} {w : Key}, Rises (e.list w) := by
  intro e
  induction e with
  | nil => intro w; exact List.Pairwise.nil
  | node part val kids ih =>
    intro w
    rw [E.list]
    refine List.pairwise_append.2 ⟨?_, ?_, ?_⟩
    · cases val with
      | none => exact List.Pairwise.nil
      | some v => exact List.pairwise_singleton _ _
    · have key : ∀ l : List UInt8, Rise l → Rises (l.flatMap fun c => (kids c).list (w ++ part ++ [c])) := by
        intro l
        induction l with
        | nil => intro _; exact List.Pairwise.nil
        | cons a l ihl =>
          intro hl
          obtain ⟨h1, h2⟩ := List.pairwise_cons.1 hl
          rw [List.flatMap_cons]
          refine List.pairwise_append.2 ⟨ih a, ihl h2, fun x hx y hy => ?_⟩
          obtain ⟨d, hd, hy⟩ := List.mem_flatMap.1 hy
          obtain ⟨r, hr⟩ := E.list_begins hx
          obtain ⟨s, hs⟩ := E.list_begins hy
          rw [← hr, ← hs]
          have e1 : w ++ part ++ [a] ++ r = (w ++ part) ++ (a :: r) := by simp
          have e2 : w ++ part ++ [d] ++ s = (w ++ part) ++ (d :: s) := by simp
          rw [e1, e2]
          exact (klt_app _).2 (klt_cons (h1 d hd))
      exact key _ (dom_rise _)
    · intro x hx y hy
      cases val with
      | none => cases hx
      | some v =>
        rw [valL, List.mem_singleton] at hx
        obtain ⟨d, hd, hy⟩ := List.mem_flatMap.1 hy
        obtain ⟨s, hs⟩ := E.list_begins hy
        rw [hx, ← hs]
        have e1 : w ++ part ++ [d] ++ s = (w ++ part) ++ (d :: s) := by simp
        have e2 : (w ++ part, v).1 = (w ++ part) ++ [] := by simp
        rw [e1, e2]
        refine (klt_app _).2 ?_
        unfold klt
        rw [kcmp_nc]; decide
/-- the pairs of a canonical tree of pairs -/
theorem Can.list {e : E} {l : Kv} (h : Can e (look l)) (hr : Rises l) : e.list [] = l :=
  E.list_rises.ext hr fun k => by
    have := E.list_look (e := e) (w := []) (r := k)
    rw [List.nil_append] at this
    rw [this, h.get]
theorem sum_filter (p : UInt8 → Bool) (f : UInt8 → Nat) (l : List UInt8) (h : ∀ c, p c = false → f c = 0) : (l.map f).sum = ((l.filter p).map f).sum := by
  induction l with
  | nil => rfl
  | cons a r ih =>
    rw [List.map_cons, List.sum_cons, ih, List.filter_cons]
    split
    · rw [List.map_cons, List.sum_cons]
    · rename_i hh
      rw [h a (by simpa using hh)]; omega
theorem E.size_node (part : Key) (val : Option Nat) (kids : UInt8 → E) : (E.node part val kids).size = ((dom fun c => (kids c).opt).map fun c => (kids c).size).sum + 1 := by
  have h : ∀ c, (fun c => (kids c).opt.isSome) c = false → (fun c => (kids c).size) c = 0 := fun c hc => by
    have hc : (kids c).opt.isSome = false := hc
    have : kids c = .nil := E.opt_none (by simpa using hc)
    show (kids c).size = 0
    rw [this]; rfl
  have h2 := sum_filter (fun c => (kids c).opt.isSome) (fun c => (kids c).size) byt h
  rw [E.size, h2]
  unfold dom
  exact Eq.refl _
theorem sum_le_two {l : List UInt8} {f g : UInt8 → Nat} (h : ∀ c ∈ l, f c + 1 ≤ 2 * g c) : (l.map f).sum + l.length ≤ 2 * (l.map g).sum := by
  induction l with
  | nil => simp
  | cons a r ih =>
    have h1 := h a (by simp)
    have h2 := ih fun c hc => h c (by simp [hc])
    simp only [List.map_cons, List.sum_cons, List.length_cons]
    omega
/-- a canonical tree of n pairs has at most 2 n - 1 nodes -/
theorem E.size_le : ∀ {e : E} {w : Key}, e.Fine → e ≠ .nil → e.size + 1 ≤ 2 * (e.list w).length := by
  intro e
  induction e with
  | nil => intro w _ h; exact absurd rfl h
  | node part val kids ih =>
    intro w hf _
    obtain ⟨h1, h2, h3⟩ := fine_of hf
    rw [E.size_node, E.list, List.length_append, List.length_flatMap]
    have hs := sum_le_two (l := dom fun c => (kids c).opt) (f := fun c => (kids c).size) (g := fun c => ((kids c).list (w ++ part ++ [c])).length) fun c hc => ih c (h3 c) (E.isSome_iff.1 (dom_mem.1 hc))
    have hl : (valL (w ++ part) val).length = one val := by cases val <;> rfl
    rw [hl]
    by_cases hc : cntE kids = 0
    · have := h1 hc
      have h0 : (dom fun c => (kids c).opt).length = 0 := hc
      have hd : (dom fun c => (kids c).opt) = [] := List.eq_nil_of_length_eq_zero h0
      rw [hd]
      simp [one, this]
    · have h2 := h2 hc
      have h0 : (dom fun c => (kids c).opt).length = cntE kids := rfl
      omega
theorem Can.size {e : E} {l : Kv} (h : Can e (look l)) (hr : Rises l) : e.size ≤ 2 * l.length := by
  by_cases h0 : e = .nil
  · subst h0; exact Nat.zero_le _
  · have := E.size_le (w := []) h.fine h0
    rw [h.list hr] at this
    omega
/-- what all its parts and values are within -/
def E.Within (n : Nat) : E → Prop
  | .nil => True
  | .node part val kids => part.length ≤ n ∧ (∀ v, val = some v → v < 18446744073709551616) ∧ ∀ c, (kids c).Within n
theorem decK_len' (n : Nat) (h : n < 18446744073709551616) : (decK n).length ≤ 20 := by
  have key : ∀ d n, n < 10 ^ (d + 1) → (decK n).length ≤ d + 1 := by
    intro d
    induction d with
    | zero => intro n h; rw [decK_small (by simpa using h)]; simp
    | succ d ih =>
      intro n h
      by_cases e : n < 10
      · rw [decK_small e]; simp
      · rw [decK_big e, List.length_append]
        have := ih (n / 10) (by rw [Nat.div_lt_iff_lt_mul (by omega)]; rw [Nat.pow_succ] at h; exact h)
        simp; omega
  exact key 19 n (by omega)
theorem kindN_le2 (n : Nat) : kindN n ≤ 256 := by
  unfold kindN
  split
  · omega
  · split
    · omega
    · split
      · omega
      · split
        · omega
        · omega
theorem E.shape_len {n : Nat} : ∀ {e : E}, e.Within n → e ≠ .nil → e.shape.length + 3 ≤ e.size * (2 * n + 60) := by
  intro e
  induction e with
  | nil => intro _ h; exact absurd rfl h
  | node part val kids ih =>
    rintro ⟨h1, h2, h3⟩ _
    have hv : (valS val).length ≤ 21 := by
      cases val with
      | none => simp [valS]
      | some v =>
        have := decK_len' v (h2 v rfl)
        simp [valS]; omega
    have hx := hexK_length part
    have hk := decK_len' (kindN (cntE kids)) (by have := kindN_le2 (cntE kids); omega)
    have hs : ∀ l : List UInt8, (∀ c ∈ l, (kids c).opt.isSome) → (l.flatMap fun c => 58 :: (hexB c ++ (kids c).shape)).length ≤ (l.map fun c => (kids c).size).sum * (2 * n + 60) := by
      intro l
      induction l with
      | nil => intro _; simp
      | cons a l ihl =>
        intro hl
        have i1 := ihl fun c hc => hl c (by simp [hc])
        have i2 := ih a (h3 a) (E.isSome_iff.1 (hl a (by simp)))
        have hb : (hexB a).length = 2 := rfl
        rw [List.flatMap_cons, List.length_append, List.map_cons, List.sum_cons, Nat.add_mul, List.length_cons, List.length_append, hb]
        omega
    rw [E.shape, E.size_node]
    have hd := hs (dom fun c => (kids c).opt) fun c hc => dom_mem.1 hc
    generalize hS : ((dom fun c => (kids c).opt).map fun c => (kids c).size).sum = S at hd ⊢
    rw [Nat.add_mul]
    split
    · simp only [List.length_cons, List.length_append]
      omega
    · simp only [List.length_cons, List.length_append, List.length_nil]
      omega
theorem E.shape_len' {n m : Nat} {e : E} (h : e.Within n) (hm : e.size ≤ m) : e.shape.length ≤ m * (2 * n + 60) + 1 := by
  cases e with
  | nil => simp [E.shape]
  | node part val kids =>
    have h1 := E.shape_len h (by simp)
    have := Nat.mul_le_mul_right (2 * n + 60) hm
    omega
/-- trees of closed pairs -/
def canL (l : Kv) : E := l.foldl (fun e p => putE e p.1 p.2) .nil
theorem canL_can (l : Kv) : Can (canL l) (lookL l) := by
  have key : ∀ n (l : Kv), l.length = n → Can (canL l) (lookL l) := by
    intro n
    induction n with
    | zero => intro l h; rw [List.eq_nil_of_length_eq_zero h]; exact Can.nil
    | succ n ih =>
      intro l h
      obtain ⟨m, p, rfl⟩ : ∃ m p, l = m ++ [p] := ⟨l.dropLast, l.getLast (fun e => by rw [e] at h; cases h), (List.dropLast_concat_getLast _).symm⟩
      have h1 := (ih m (by simpa using h)).put p.1 p.2
      have h2 : canL (m ++ [p]) = putE (canL m) p.1 p.2 := by simp [canL]
      rw [h2]
      refine h1.congr fun k => ?_
      rw [lookL_snoc]
      by_cases e : k = p.1
      · rw [if_pos e, if_pos e.symm]
      · rw [if_neg e, if_neg (Ne.symm e)]
  exact key _ l rfl
theorem Can.closed {e : E} {l : Kv} (h : Can e (look l)) (hr : Rises l) : e = canL l := h.uniq ((canL_can l).congr fun k => lookL_rises hr k)
end Go.Proofs.YtbfnagdpanfphaaGreatDoor
end
section
namespace Go.Proofs.YtbfnagdpanfphaaGreatDoor
open Go X
set_option linter.unusedSimpArgs false
set_option linter.unusedVariables false

def subK (p : Key) (l : Kv) : Kv := l.filter fun x => decide (p <+: x.1)
def stripK (p : Key) (l : Kv) : Kv := (subK p l).map fun x => (x.1.drop p.length, x.2)
def underK (p : Key) (l : Kv) : Kv := l.map fun x => (p ++ x.1, x.2)
theorem look_sub (p : Key) (l : Kv) (k : Key) : look (subK p l) k = if p <+: k then look l k else none := by
  unfold subK
  induction l with
  | nil => rw [List.filter_nil]; split <;> rfl
  | cons x r ih =>
    rw [List.filter_cons]
    split
    · rename_i h
      have h : p <+: x.1 := of_decide_eq_true h
      rw [look, look, ih]
      by_cases e : x.1 = k
      · rw [if_pos e, if_pos e, if_pos (e ▸ h)]
      · rw [if_neg e, if_neg e]
    · rename_i h
      have h : ¬ p <+: x.1 := fun h' => h (decide_eq_true h')
      rw [ih, look]
      by_cases hp : p <+: k
      · rw [if_pos hp, if_pos hp, if_neg fun e => h (by rw [e]; exact hp)]
      · rw [if_neg hp, if_neg hp]
theorem look_strip (p : Key) (l : Kv) (k : Key) : look (stripK p l) k = look l (p ++ k) := by
  have h := look_sub p l (p ++ k)
  rw [if_pos (List.prefix_append _ _)] at h
  rw [← h]
  unfold stripK
  have hall : ∀ x ∈ subK p l, p <+: x.1 := fun x hx => of_decide_eq_true (List.mem_filter.1 hx).2
  generalize subK p l = m at hall
  induction m with
  | nil => rfl
  | cons x r ih =>
    obtain ⟨s, hs⟩ := hall x (by simp)
    rw [List.map_cons, look, look, ih fun y hy => hall y (by simp [hy])]
    have e1 : x.1.drop p.length = s := by rw [← hs, List.drop_left]
    show (if x.1.drop p.length = k then some x.2 else _) = _
    rw [e1, ← hs]
    by_cases e : s = k
    · rw [if_pos e, if_pos (by rw [e])]
    · rw [if_neg e, if_neg fun h => e (List.append_cancel_left h)]
theorem look_under (p : Key) (l : Kv) (k : Key) : look (underK p l) k = if p <+: k then look l (k.drop p.length) else none := by
  unfold underK
  induction l with
  | nil => rw [List.map_nil]; split <;> rfl
  | cons x r ih =>
    rw [List.map_cons, look, ih, look]
    by_cases hp : p <+: k
    · obtain ⟨s, rfl⟩ := hp
      rw [if_pos (List.prefix_append _ _), if_pos (List.prefix_append _ _), List.drop_left]
      by_cases e : x.1 = s
      · rw [if_pos e, if_pos (by rw [e])]
      · rw [if_neg e, if_neg fun h => e (List.append_cancel_left h)]
    · rw [if_neg hp, if_neg hp, if_neg fun h => hp (by rw [← h]; exact List.prefix_append _ _)]
theorem subK_rises {p : Key} {l : Kv} (h : Rises l) : Rises (subK p l) := List.Pairwise.filter _ h
theorem underK_rises {p : Key} {l : Kv} (h : Rises l) : Rises (underK p l) := by
  unfold underK Rises
  rw [List.pairwise_map]
  exact List.Pairwise.imp (fun h => (klt_app p).2 h) h
theorem stripK_rises {p : Key} {l : Kv} (h : Rises l) : Rises (stripK p l) := by
  unfold stripK Rises
  rw [List.pairwise_map]
  refine List.Pairwise.imp_of_mem ?_ (subK_rises h)
  intro a b ha hb hab
  obtain ⟨s, hs⟩ : p <+: a.1 := of_decide_eq_true (List.mem_filter.1 ha).2
  obtain ⟨t, ht⟩ : p <+: b.1 := of_decide_eq_true (List.mem_filter.1 hb).2
  show klt (a.1.drop p.length) (b.1.drop p.length)
  rw [← hs, ← ht, klt_app] at hab
  rw [← hs, ← ht, List.drop_left, List.drop_left]
  exact hab
theorem subK_length (p : Key) (l : Kv) : (subK p l).length ≤ l.length := List.length_filter_le _ _
theorem subK_mem {p : Key} {l : Kv} {x : Key × Nat} (h : x ∈ subK p l) : x ∈ l ∧ p <+: x.1 := ⟨(List.mem_filter.1 h).1, of_decide_eq_true (List.mem_filter.1 h).2⟩
end Go.Proofs.YtbfnagdpanfphaaGreatDoor
end
end
