/-  Plain: things by bytes: which there are, how many, the next one.  -/
import Derived.Test.YtbleadagnpckbaaGreatDoorEng
namespace Go.Proofs.YtbleadagnpckbaaGreatDoor.X
open Go
set_option linter.unusedSimpArgs false
set_option linter.unusedVariables false

def byt : List UInt8 := (List.range 256).map UInt8.ofNat
theorem byt_mem (c : UInt8) : c ∈ byt := by
  unfold byt
  rw [List.mem_map]
  exact ⟨c.toNat, List.mem_range.2 c.toNat_lt, by simp⟩
theorem byt_sorted : byt.Pairwise (fun a b => a.toNat < b.toNat) := by
  unfold byt
  rw [List.pairwise_map]
  refine List.Pairwise.imp_of_mem ?_ (List.pairwise_lt_range (n := 256))
  intro a b ha hb h
  rw [List.mem_range] at ha hb
  have e : ∀ n, n < 256 → (UInt8.ofNat n).toNat = n := fun n hn => by simp; omega
  rw [e a ha, e b hb]
  exact h

def Rise (l : List UInt8) : Prop := l.Pairwise (fun a b => a.toNat < b.toNat)
theorem Rise.nodup {l : List UInt8} (h : Rise l) : l.Nodup := List.Pairwise.imp (fun h e => by subst e; omega) h
theorem Rise.ext {l m : List UInt8} (hl : Rise l) (hm : Rise m) (h : ∀ c, c ∈ l ↔ c ∈ m) : l = m := by
  induction l generalizing m with
  | nil =>
    cases m with
    | nil => rfl
    | cons x r => exact absurd ((h x).2 (by simp)) (by simp)
  | cons a r ih =>
    cases m with
    | nil => exact absurd ((h a).1 (by simp)) (by simp)
    | cons b s =>
      obtain ⟨ha, hr⟩ := List.pairwise_cons.1 hl
      obtain ⟨hb, hs⟩ := List.pairwise_cons.1 hm
      have hab : a = b := by
        have h1 := (h a).1 (by simp)
        have h2 := (h b).2 (by simp)
        simp only [List.mem_cons] at h1 h2
        rcases h1 with h1 | h1
        · exact h1
        · rcases h2 with h2 | h2
          · exact h2.symm
          · have := hb a h1; have := ha b h2; omega
      subst hab
      congr 1
      refine ih hr hs fun c => ?_
      have := h c
      simp only [List.mem_cons] at this
      constructor
      · intro hc
        rcases this.1 (.inr hc) with e | e
        · subst e; have := ha c hc; omega
        · exact e
      · intro hc
        rcases this.2 (.inr hc) with e | e
        · subst e; have := hb c hc; omega
        · exact e

section
variable {α : Type}
def dom (m : UInt8 → Option α) : List UInt8 := byt.filter fun c => (m c).isSome
def cnt (m : UInt8 → Option α) : Nat := (dom m).length
theorem dom_mem {m : UInt8 → Option α} {c : UInt8} : c ∈ dom m ↔ (m c).isSome := by simp [dom, byt_mem]
theorem dom_rise (m : UInt8 → Option α) : Rise (dom m) := List.Pairwise.filter _ byt_sorted
theorem dom_eq {m : UInt8 → Option α} {l : List UInt8} (h : Rise l) (hl : ∀ c, c ∈ l ↔ (m c).isSome) : dom m = l := (dom_rise m).ext h fun c => dom_mem.trans (hl c).symm
theorem dom_none : dom (fun _ => none : UInt8 → Option α) = [] := dom_eq List.Pairwise.nil (by simp)
def upd (m : UInt8 → Option α) (b : UInt8) (x : Option α) : UInt8 → Option α := fun c => if c = b then x else m c
theorem upd_same (m : UInt8 → Option α) (b : UInt8) (x : Option α) : upd m b x b = x := by simp [upd]
theorem upd_other (m : UInt8 → Option α) {b c : UInt8} (x : Option α) (h : c ≠ b) : upd m b x c = m c := by simp [upd, h]
theorem upd_id (m : UInt8 → Option α) (b : UInt8) : upd m b (m b) = m := by
  funext c; unfold upd; split
  · subst_vars; rfl
  · rfl
theorem upd_upd (m : UInt8 → Option α) (b : UInt8) (x y : Option α) : upd (upd m b x) b y = upd m b y := by
  funext c; unfold upd; split <;> rfl

theorem countP_upd {l : List UInt8} (hl : l.Nodup) {b : UInt8} (hb : b ∈ l) (p q : UInt8 → Bool) (h : ∀ c, c ≠ b → p c = q c) : l.countP p + (if q b then 1 else 0) = l.countP q + (if p b then 1 else 0) := by
  induction l with
  | nil => simp at hb
  | cons a r ih =>
    obtain ⟨ha, hr⟩ := List.nodup_cons.1 hl
    by_cases e : a = b
    · subst e
      have : r.countP p = r.countP q := List.countP_congr fun c hc => by rw [h c (fun e => ha (e ▸ hc))]
      simp only [List.countP_cons, this]
      omega
    · have hb' : b ∈ r := by
        rcases List.mem_cons.1 hb with h | h
        · exact absurd h.symm e
        · exact h
      have := ih hr hb'
      simp only [List.countP_cons, h a e]
      omega
theorem cnt_eq (m : UInt8 → Option α) : cnt m = byt.countP fun c => (m c).isSome := by simp [cnt, dom, List.countP_eq_length_filter]
theorem cnt_upd (m : UInt8 → Option α) (b : UInt8) (x : Option α) : cnt (upd m b x) + (if (m b).isSome then 1 else 0) = cnt m + (if x.isSome then 1 else 0) := by
  rw [cnt_eq, cnt_eq]
  have := countP_upd (Rise.nodup byt_sorted) (byt_mem b) (fun c => (upd m b x c).isSome) (fun c => (m c).isSome) (fun c hc => by rw [upd_other m x hc])
  simp only [upd_same] at this
  exact this
theorem cnt_le (m : UInt8 → Option α) : cnt m ≤ 256 := by
  unfold cnt dom
  refine Nat.le_trans (List.length_filter_le _ _) ?_
  simp [byt]
theorem cnt_pos {m : UInt8 → Option α} {c : UInt8} (h : (m c).isSome) : 0 < cnt m := List.length_pos_of_mem (dom_mem.2 h)
theorem cnt_full {m : UInt8 → Option α} (h : cnt m = 256) (c : UInt8) : (m c).isSome := by
  by_cases hc : (m c).isSome
  · exact hc
  · exfalso
    have h1 : cnt m < byt.length := by
      unfold cnt dom
      rcases Nat.lt_or_ge (byt.filter fun c => (m c).isSome).length byt.length with h | h
      · exact h
      · have := List.length_filter_eq_length_iff.1 (Nat.le_antisymm (List.length_filter_le _ _) h) c (byt_mem c)
        exact absurd this hc
    simp [byt] at h1
    omega
theorem cnt_zero {m : UInt8 → Option α} (h : cnt m = 0) (c : UInt8) : m c = none := by
  cases hc : m c with
  | none => rfl
  | some x => exact absurd (cnt_pos (m := m) (c := c) (by simp [hc])) (by omega)

/-- the next byte, from a number on -/
def nextB (m : UInt8 → Option α) (i : Nat) : Option UInt8 := (dom m).find? fun c => decide (i ≤ c.toNat)
theorem nextB_split {m : UInt8 → Option α} {i : Nat} {d r : List UInt8} (h : dom m = d ++ r) (hd : ∀ c ∈ d, c.toNat < i) (hr : ∀ c ∈ r, i ≤ c.toNat) : nextB m i = r.head? := by
  unfold nextB
  rw [h, List.find?_append, List.find?_eq_none.2 (fun c hc => by have := hd c hc; simp; omega)]
  cases r with
  | nil => rfl
  | cons a r => simp [hr a (by simp)]
theorem nextB_none {m : UInt8 → Option α} {i : Nat} : nextB m i = none ↔ ∀ c, i ≤ c.toNat → m c = none := by
  unfold nextB
  rw [List.find?_eq_none]
  constructor
  · intro h c hc
    cases hm : m c with
    | none => rfl
    | some x => exact absurd (h c (dom_mem.2 (by simp [hm]))) (by simpa using hc)
  · intro h c hc
    simp only [decide_eq_true_eq]
    intro hi
    have := h c hi
    have := dom_mem.1 hc
    simp_all
theorem nextB_some {m : UInt8 → Option α} {i : Nat} {c : UInt8} : nextB m i = some c ↔ ((m c).isSome ∧ i ≤ c.toNat ∧ ∀ d, i ≤ d.toNat → d.toNat < c.toNat → m d = none) := by
  constructor
  · intro h
    have h1 := List.find?_some h
    have h2 := List.mem_of_find?_eq_some h
    refine ⟨dom_mem.1 h2, by simpa using h1, fun d hi hd => ?_⟩
    obtain ⟨hp, as, bs, he, hn⟩ := List.find?_eq_some_iff_append.1 h
    cases hm : m d with
    | none => rfl
    | some x =>
      exfalso
      have hd' : d ∈ dom m := dom_mem.2 (by simp [hm])
      rw [he] at hd'
      have hr := dom_rise m
      rw [he] at hr
      obtain ⟨_, h5, _⟩ := List.pairwise_append.1 hr
      rcases List.mem_append.1 hd' with h6 | h6
      · have := hn d h6
        simp at this
        omega
      · rcases List.mem_cons.1 h6 with h7 | h7
        · subst h7; omega
        · have := (List.pairwise_cons.1 h5).1 d h7; omega
  · rintro ⟨h1, h2, h3⟩
    cases hn : nextB m i with
    | none => have := nextB_none.1 hn c h2; simp [this] at h1
    | some d =>
      obtain ⟨hp, as, bs, he, hb⟩ := List.find?_eq_some_iff_append.1 hn
      have h5 : d ∈ dom m := by rw [he]; simp
      have hid : i ≤ d.toNat := by simpa using hp
      congr 1
      rcases Nat.lt_trichotomy d.toNat c.toNat with h | h | h
      · have := h3 d hid h
        have := dom_mem.1 h5
        simp_all
      · exact UInt8.toNat_inj.1 h
      · exfalso
        have hc : c ∈ dom m := dom_mem.2 h1
        have hr := dom_rise m
        rw [he] at hc hr
        obtain ⟨_, h5, _⟩ := List.pairwise_append.1 hr
        rcases List.mem_append.1 hc with h6 | h6
        · have := hb c h6; simp at this; omega
        · rcases List.mem_cons.1 h6 with h7 | h7
          · subst h7; omega
          · have := (List.pairwise_cons.1 h5).1 c h7; omega
theorem nextB_zero (m : UInt8 → Option α) : nextB m 0 = (dom m).head? := nextB_split (d := []) rfl (by simp) (by simp)
theorem nextB_succ {m : UInt8 → Option α} {d r : List UInt8} {c : UInt8} (h : dom m = d ++ c :: r) : nextB m (c.toNat + 1) = r.head? := by
  have hr := dom_rise m
  rw [h] at hr
  obtain ⟨h1, h2, h3⟩ := List.pairwise_append.1 hr
  refine nextB_split (d := d ++ [c]) (r := r) (by simp [h]) (fun x hx => ?_) fun x hx => ?_
  · rcases List.mem_append.1 hx with hx | hx
    · have := h3 x hx c (by simp); omega
    · simp at hx; subst hx; omega
  · have := (List.pairwise_cons.1 h2).1 x hx; omega
end

/-- the room of so many kids -/
def kindN (n : Nat) : Nat := if n ≤ 4 then 4 else if n ≤ 16 then 16 else if n ≤ 48 then 48 else if n ≤ 256 then 256 else 0
theorem kindN_le {n : Nat} (h : n ≤ 256) : n ≤ kindN n := by unfold kindN; repeat' split
                                                             all_goals omega
end Go.Proofs.YtbleadagnpckbaaGreatDoor.X
