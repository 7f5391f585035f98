/-  Slices: what is read of them, cut of them, appended to them.  -/
import Derived.Test.YtbleadagnpckbaaGreatDoorLib
import Derived.Laws.AppendOwn
import Derived.Laws.AppendOwnNone
namespace Go.Proofs.YtbleadagnpckbaaGreatDoor.X
open Go Go.RowKit
set_option linter.unusedSimpArgs false
set_option linter.unusedVariables false

/-- of one type -/
abbrev tyQ (e : TypeId) : Nat → TypeId → Prop := fun _ t => t = e
/-- v is a slice of n elements of sz cells each; its cells read as 'cells'; T says in which block, of which type, they lie -/
def Sl (w : World) (T : Nat → TypeId → Prop) (v : Value) (sz n : Nat) (cells : List Value) : Prop :=
  ∃ a cap, v = .slice a n cap ∧ cells.length = n * sz ∧ n ≤ cap ∧
    match a with
    | none => cap = 0
    | some ad => cap = 0 ∨ ∃ b o cs t fz, ad = ⟨b, o, none⟩ ∧ T b t ∧ w.heap[b]? = some (.cells cs t fz) ∧ o + cap * sz ≤ cs.size ∧ ∀ i, i < n * sz → cs[o + i]? = cells[i]?

section
variable {P : Program} {w w' : World} {T : Nat → TypeId → Prop} {v : Value} {sz n : Nat} {cells : List Value}

theorem Sl.nil : Sl w T (.slice none 0 0) sz 0 [] := ⟨none, 0, rfl, by simp, Nat.le_refl _, rfl⟩
theorem Sl.len (h : Sl w T v sz n cells) : cells.length = n * sz := let ⟨_, _, _, h, _⟩ := h; h
theorem Sl.ext {X : Nat → Prop} (h : Sl w T v sz n cells) (e : Ext X w w') (hx : ∀ b cs t fz, T b t → w.heap[b]? = some (.cells cs t fz) → ¬ X b) : Sl w' T v sz n cells := by
  obtain ⟨a, cap, rfl, hl, hc, ha⟩ := h
  refine ⟨a, cap, rfl, hl, hc, ?_⟩
  cases a with
  | none => exact ha
  | some ad =>
    rcases ha with h0 | ⟨b, o, cs, t, fz, h1, hT, h2, h3, h4⟩
    · exact .inl h0
    exact .inr ⟨b, o, cs, t, fz, h1, hT, by rw [e.same b (lt_of_get h2) (hx b cs t fz hT h2)]; exact h2, h3, h4⟩
theorem Sl.extN (h : Sl w T v sz n cells) (e : Ext No w w') : Sl w' T v sz n cells := h.ext e fun _ _ _ _ _ _ h => h
theorem Sl.weak {T' : Nat → TypeId → Prop} (h : Sl w T v sz n cells) (ht : ∀ b t, T b t → T' b t) : Sl w T' v sz n cells := by
  obtain ⟨a, cap, rfl, hl, hc, ha⟩ := h
  refine ⟨a, cap, rfl, hl, hc, ?_⟩
  cases a with
  | none => exact ha
  | some ad =>
    rcases ha with h0 | ⟨b, o, cs, t, fz, h1, hT, h2, h3, h4⟩
    · exact .inl h0
    exact .inr ⟨b, o, cs, t, fz, h1, ht b t hT, h2, h3, h4⟩
theorem Sl.drew (h : Sl w T v sz n cells) : Sl w.drew T v sz n cells := h
/-- where one block changes that holds things of another type -/
theorem Sl.ext1 {X : Nat → Prop} (h : Sl w T v sz n cells) (e : Ext X w w') (hx : ∀ b, X b → b < w.heap.size → ∃ cs T', Blk w b cs T' ∧ ¬ T b T') : Sl w' T v sz n cells :=
  h.ext e fun b cs t fz hT hb hX => by
    obtain ⟨cs', T', h1, h2⟩ := hx b hX (lt_of_get hb)
    have := h1.h.symm.trans hb
    simp at this
    rw [this.2.1] at h2
    exact h2 hT

theorem xLen_sl {K : Value → Prop} (h : Sl w T v sz n cells) (k : K (.int .i64 n)) : xLen v K := by
  obtain ⟨a, cap, rfl, _⟩ := h; exact k
/-- a cell of an element -/
theorem Sl.cell (h : Sl w T v sz n cells) {m o : Nat} (hm : m < n) (ho : o < sz) : ∃ a cap, v = .slice (some a) n cap ∧ w.cell? ((a.add (m * sz)).add o) = cells[m * sz + o]? := by
  obtain ⟨a, cap, rfl, hl, hc, ha⟩ := h
  cases a with
  | none => exact absurd ha (by omega)
  | some ad =>
    rcases ha with h0 | ⟨b, of, cs, t, fz, rfl, hT, h2, h3, h4⟩
    · omega
    refine ⟨_, cap, rfl, ?_⟩
    rw [Addr.add_lit, Addr.add_lit]
    have hlt : m * sz + o < n * sz := by
      have : (m + 1) * sz ≤ n * sz := Nat.mul_le_mul_right sz hm
      rw [Nat.succ_mul] at this; omega
    have := h4 (m * sz + o) hlt
    simp only [World.cell?, h2]
    simp
    rw [show of + m * sz + o = of + (m * sz + o) by omega]
    exact this
theorem Sl.rd1 {K : Value → Prop} {kd : IntKind} {i : Int} {x : Value} (h : Sl w T v 1 n cells) (m : Nat) (hi : i = (m : Int)) (hm : m < n) (hx : cells[m]? = some x) (k : K x) :
    xIxS v (.int kd i) 1 fun u => xAt u fun a => XLd w a K := by
  obtain ⟨a, cap, rfl, hc⟩ := h.cell hm (Nat.zero_lt_one)
  refine ⟨m, hi, hm, ⟨x, ?_, k⟩⟩
  simp only [Nat.mul_one, Nat.add_zero, Addr.add_zero'] at hc ⊢
  rw [hc, hx]
theorem Sl.rdF {K : Value → Prop} {kd : IntKind} {i : Int} {x : Value} {o : Nat} (h : Sl w T v sz n cells) (m : Nat) (hi : i = (m : Int)) (hm : m < n) (ho : o < sz) (hx : cells[m * sz + o]? = some x) (k : K x) :
    xIxS v (.int kd i) sz fun u => xFld u o fun p => xAt p fun a => XLd w a K := by
  obtain ⟨a, cap, rfl, hc⟩ := h.cell hm ho
  exact ⟨m, hi, hm, ⟨x, by rw [hc, hx], k⟩⟩
/-- a whole element -/
theorem Sl.rdN {K : Value → Prop} {kd : IntKind} {i : Int} (h : Sl w T v sz n cells) (m : Nat) (hi : i = (m : Int)) (hm : m < n) (k : K (.agg ((cells.drop (m * sz)).take sz).toArray)) :
    xIxS v (.int kd i) sz fun u => xAt u fun a => XLdN w a sz K := by
  have hl := h.len
  have hle : (m + 1) * sz ≤ n * sz := Nat.mul_le_mul_right sz hm
  rw [Nat.succ_mul] at hle
  have hex : ∃ a cap, v = .slice (some a) n cap ∧ ∀ o, o < sz → w.cell? ((a.add (m * sz)).add o) = cells[m * sz + o]? := by
    obtain ⟨a, cap, rfl, hl, hc, ha⟩ := h
    cases a with
    | none => exact absurd ha (by omega)
    | some ad =>
      rcases ha with h0 | ⟨b, of, cs, t, fz, rfl, hT, h2, h3, h4⟩
      · omega
      refine ⟨_, cap, rfl, fun o ho => ?_⟩
      rw [Addr.add_lit, Addr.add_lit]
      have := h4 (m * sz + o) (by omega)
      simp only [World.cell?, h2]
      simp
      rw [show of + m * sz + o = of + (m * sz + o) by omega]
      exact this
  obtain ⟨a, cap, rfl, hc⟩ := hex
  refine ⟨m, hi, hm, ⟨_, ?_, fun o ho => ?_, k⟩⟩
  · simp; omega
  · rw [hc o ho]; simp [List.getElem?_take, ho, List.getElem?_drop]

theorem Sl.cut {l h : Nat} (hs : Sl w T v sz n cells) (hl : l ≤ h) (hh : h ≤ n) : ∃ a cap, v = .slice a n cap ∧ n ≤ cap ∧
    ∀ m, h ≤ m → m ≤ cap → Sl w T (.slice (cutAddr a l m sz) (h - l) (m - l)) sz (h - l) ((cells.drop (l * sz)).take ((h - l) * sz)) := by
  obtain ⟨a, cap, rfl, hlen, hc, ha⟩ := hs
  refine ⟨a, cap, rfl, hc, fun m hm hm2 => ?_⟩
  have hmul : (h - l) * sz + l * sz = h * sz := by rw [← Nat.add_mul]; congr 1; omega
  have hle : h * sz ≤ n * sz := Nat.mul_le_mul_right sz hh
  refine ⟨_, _, rfl, by simp [hlen]; omega, by omega, ?_⟩
  unfold cutAddr
  by_cases e : m = l
  · rw [if_pos e]
    subst e
    have hml : h = m := by omega
    subst hml
    cases a with
    | none => simp
    | some ad =>
      exact .inl (by omega)
  · rw [if_neg e]
    cases a with
    | none => exact absurd ha (by omega)
    | some ad =>
      rcases ha with h0 | ⟨b, o, cs, t, fz, rfl, hT, h2, h3, h4⟩
      · omega
      have hcm : (m - l) * sz + l * sz ≤ cap * sz := by rw [← Nat.add_mul]; exact Nat.mul_le_mul_right sz (by omega)
      refine .inr ⟨b, o + l * sz, cs, t, fz, Addr.add_lit b o (l * sz), hT, h2, by omega, fun i hi => ?_⟩
      rw [show o + l * sz + i = o + (l * sz + i) by omega, h4 _ (by omega)]
      simp [List.getElem?_take, hi, List.getElem?_drop]
theorem Sl.cutL {K : Value → Prop} {kd : IntKind} {i : Int} (h : Sl w T v sz n cells) (l : Nat) (hi : i = (l : Int)) (hl : l ≤ n) (k : ∀ v', Sl w T v' sz (n - l) (cells.drop (l * sz)) → K v') :
    xCutS sz v (some (.int kd i)) none none K := by
  obtain ⟨a, cap, rfl, hc, hs⟩ := h.cut hl (Nat.le_refl n)
  refine xcutL l hi hl (k _ ?_)
  have := hs cap hc (Nat.le_refl _)
  rwa [List.take_of_length_le (by simp [h.len, Nat.sub_mul])] at this
theorem Sl.cutH {K : Value → Prop} {kd : IntKind} {i : Int} (hs : Sl w T v sz n cells) (h : Nat) (hi : i = (h : Int)) (hh : h ≤ n) (k : ∀ v', Sl w T v' sz h (cells.take (h * sz)) → K v') :
    xCutS sz v none (some (.int kd i)) none K := by
  obtain ⟨a, cap, rfl, hc, hs'⟩ := hs.cut (Nat.zero_le h) hh
  refine xcutH h hi (Nat.le_trans hh hc) (k _ ?_)
  have := hs' cap (Nat.le_trans hh hc) (Nat.le_refl _)
  simpa using this
theorem Sl.cutB {K : Value → Prop} {kd kd' : IntKind} {i j : Int} (hs : Sl w T v sz n cells) (l h : Nat) (hi : i = (l : Int)) (hj : j = (h : Int)) (hl : l ≤ h) (hh : h ≤ n)
    (k : ∀ v', Sl w T v' sz (h - l) ((cells.drop (l * sz)).take ((h - l) * sz)) → K v') : xCutS sz v (some (.int kd i)) (some (.int kd' j)) none K := by
  obtain ⟨a, cap, rfl, hc, hs'⟩ := hs.cut hl hh
  exact xcutB l h hi hj hl (Nat.le_trans hh hc) (k _ (hs' cap (Nat.le_trans hh hc) (Nat.le_refl _)))

/-! ### a slice that the call itself made -/
theorem grown_ext {row : Option Nat} (h : w.grownBy w' row) : Ext (fun b => row = some b) w w' := by
  obtain ⟨h1, h2, h3, h4, h5⟩ := h
  exact ⟨h1, h2, h3, h4, fun b hb hx => h5 b hb (fun e => hx e.symm)⟩
end
end Go.Proofs.YtbleadagnpckbaaGreatDoor.X
