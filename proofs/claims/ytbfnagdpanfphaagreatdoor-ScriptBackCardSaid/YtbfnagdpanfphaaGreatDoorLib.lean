/-  Heap facts and step rules for the forms without frames.  -/
import Derived.Test.YtbfnagdpanfphaaGreatDoorEng
import Derived.Below
import Derived.Laws.AppendOwn
import Derived.Laws.AppendOwnNone
import Derived.Laws.BytesArg
import Derived.Laws.CopyRow
import Derived.Laws.MakeOwn
import Derived.Laws.OwnMore
import Derived.Laws.LoneSync
import Derived.Lib.Bytealg
section
namespace Go.Proofs.YtbfnagdpanfphaaGreatDoor.X
open Go Go.RowKit
set_option linter.unusedSimpArgs false
set_option linter.unusedVariables false

/-- block b holds these cells (no byte of it is shared with a string) -/
structure Blk (w : World) (b : Nat) (cs : List Value) (T : TypeId) : Prop where
  h : w.heap[b]? = some (.cells cs.toArray T (0, 0))

/-- w' is w, but for the blocks of X, and new ones -/
structure Ext (X : Nat → Prop) (w w' : World) : Prop where
  os : w'.os = w.os
  tape : w'.tape = w.tape
  output : w'.output = w.output
  size : w.heap.size ≤ w'.heap.size
  same : ∀ b, b < w.heap.size → ¬ X b → w'.heap[b]? = w.heap[b]?

def No : Nat → Prop := fun _ => False

theorem Ext.refl (X : Nat → Prop) (w : World) : Ext X w w := ⟨rfl, rfl, rfl, Nat.le_refl _, fun _ _ _ => rfl⟩
theorem Ext.drew {X : Nat → Prop} {w w' : World} (h : Ext X w w') : Ext X w w'.drew := ⟨h.os, h.tape, h.output, h.size, h.same⟩
theorem Ext.mono {X Y : Nat → Prop} {w w' : World} (h : Ext X w w') (hx : ∀ b, b < w.heap.size → X b → Y b) : Ext Y w w' :=
  ⟨h.os, h.tape, h.output, h.size, fun b hb hy => h.same b hb fun hx' => hy (hx b hb hx')⟩
theorem Ext.trans {X Y : Nat → Prop} {w w' w'' : World} (h : Ext X w w') (k : Ext Y w' w'') (hy : ∀ b, b < w.heap.size → Y b → X b) : Ext X w w'' :=
  ⟨k.os.trans h.os, k.tape.trans h.tape, k.output.trans h.output, Nat.le_trans h.size k.size,
    fun b hb hx => (k.same b (Nat.lt_of_lt_of_le hb h.size) fun h' => hx (hy b hb h')).trans (h.same b hb hx)⟩
theorem Ext.transN {X : Nat → Prop} {w w' w'' : World} (h : Ext X w w') (k : Ext No w' w'') : Ext X w w'' := h.trans k fun _ _ h => h.elim
theorem Ext.transS {X : Nat → Prop} {w w' w'' : World} (h : Ext X w w') (k : Ext X w' w'') : Ext X w w'' := h.trans k fun _ _ h => h
/-- what is written behind a new block's making is new -/
theorem Ext.trans1 {X : Nat → Prop} {w w' w'' : World} {b : Nat} (h : Ext X w w') (k : Ext (· = b) w' w'') (hb : w.heap.size ≤ b) : Ext X w w'' :=
  h.trans k fun c hc e => by subst e; omega
theorem Ext.below {w w' : World} (h : Ext No w w') : Below w.heap.size w w' := ⟨h.os, h.tape, h.output, h.size, fun b hb => h.same b hb fun h => h⟩

theorem lt_of_get {w : World} {b : Nat} {o : Obj} (h : w.heap[b]? = some o) : b < w.heap.size := by
  rcases Nat.lt_or_ge b w.heap.size with h1 | h1
  · exact h1
  · rw [Array.getElem?_eq_none h1] at h; cases h
theorem Blk.lt {w : World} {b : Nat} {cs : List Value} {T : TypeId} (h : Blk w b cs T) : b < w.heap.size := lt_of_get h.h
theorem Blk.ext {X : Nat → Prop} {w w' : World} {b : Nat} {cs : List Value} {T : TypeId} (h : Blk w b cs T) (e : Ext X w w') (hx : ¬ X b) : Blk w' b cs T := ⟨by rw [e.same b h.lt hx]; exact h.h⟩
theorem Blk.drew {w : World} {b : Nat} {cs : List Value} {T : TypeId} (h : Blk w b cs T) : Blk w.drew b cs T := ⟨h.h⟩
theorem Blk.ne {w : World} {b b' : Nat} {cs cs' : List Value} {T T' : TypeId} (h : Blk w b cs T) (h' : Blk w b' cs' T') (ht : T ≠ T') : b ≠ b' := by
  intro e; subst e
  have := h.h.symm.trans h'.h
  simp at this
  exact ht this.2
theorem Blk.inj {w : World} {b : Nat} {cs cs' : List Value} {T T' : TypeId} (h : Blk w b cs T) (h' : Blk w b cs' T') : cs = cs' ∧ T = T' := by
  have := h.h.symm.trans h'.h
  simpa using this
theorem Blk.cell {w : World} {b : Nat} {cs : List Value} {T : TypeId} (h : Blk w b cs T) (o : Nat) : w.cell? ⟨b, o, none⟩ = cs[o]? := by simp [World.cell?, h.h]
theorem Blk.frozen {w : World} {b : Nat} {cs : List Value} {T : TypeId} (h : Blk w b cs T) (o : Nat) : w.frozen? ⟨b, o, none⟩ = false := by
  simp [World.frozen?, h.h]
theorem Blk.shape {w : World} {b : Nat} {cs : List Value} {T : TypeId} (h : Blk w b cs T) : w.shape? b = some (T, cs.length) := by simp [World.shape?, h.h]

section
variable {P : Program} {w : World}

/-! ### steps -/
theorem Ret.mono {f : FuncId} {args : List Value} {R K : Value → World → Prop} (h : Ret P f args w R) (k : ∀ v w', R v w' → K v w') : Ret P f args w K :=
  ⟨h.out.mono fun _ _ ⟨v, he, hr⟩ => ⟨v, he, k _ _ hr⟩⟩

theorem xnew {cs : List Value} {t : TypeId} {K : Addr → World → Prop} (k : ∀ b w1, b = w.heap.size → Blk w1 b cs t → w1.heap.size = b + 1 → Ext No w w1 → K ⟨b, 0, none⟩ w1) : XNew w cs t K :=
  ⟨k _ _ rfl ⟨by show (w.heap.push _)[w.heap.size]? = _; simp⟩ (by simp) ⟨rfl, rfl, rfl, by simp, fun b hb _ => by
    show (w.heap.push _)[b]? = _
    rw [Array.getElem?_push, if_neg (by omega)]⟩⟩

theorem Blk.ld {b o : Nat} {cs : List Value} {T : TypeId} {v : Value} {K : Value → Prop} (h : Blk w b cs T) (hv : cs[o]? = some v) (k : K v) : XLd w ⟨b, o, none⟩ K :=
  ⟨v, by rw [h.cell, hv], k⟩
/-- a whole struct -/
theorem Blk.ldN {b o n : Nat} {cs : List Value} {T : TypeId} {K : Value → Prop} (h : Blk w b cs T) (hn : o + n ≤ cs.length) (k : K (.agg ((cs.drop o).take n).toArray)) : XLdN w ⟨b, o, none⟩ n K := by
  refine ⟨_, by simp; omega, fun i hi => ?_, k⟩
  rw [show (⟨b, o, none⟩ : Addr).add i = ⟨b, o + i, none⟩ from Addr.add_lit b o i, h.cell]
  simp [List.getElem?_take, hi, List.getElem?_drop]
theorem Blk.ldA {b : Nat} {cs : List Value} {T : TypeId} {n : Nat} {K : Value → Prop} (h : Blk w b cs T) (hn : cs.length = n) (k : K (.agg cs.toArray)) : XLdN w ⟨b, 0, none⟩ n K := by
  subst hn
  refine h.ldN (by simp) ?_
  simpa using k

theorem setCell_blk {b o : Nat} {cs : List Value} {T : TypeId} {v : Value} (h : Blk w b cs T) : Blk (w.setCell ⟨b, o, none⟩ v) b (cs.set o v) T := by
  refine ⟨?_⟩
  have := h.h
  simp [World.setCell, Array.getElem?_modify, this]
theorem setCell_ext {b o : Nat} {v : Value} : Ext (· = b) w (w.setCell ⟨b, o, none⟩ v) :=
  ⟨rfl, rfl, rfl, by simp, fun c hc hx => by
    show (w.heap.modify b _)[c]? = _
    rw [Array.getElem?_modify, if_neg (Ne.symm hx)]⟩
theorem Blk.st {b o : Nat} {cs : List Value} {T : TypeId} {v : Value} {K : World → Prop} (h : Blk w b cs T) (ho : o < cs.length) (hv : v.oneCell' = true)
    (k : ∀ w1, Blk w1 b (cs.set o v) T → w1.heap.size = w.heap.size → Ext (· = b) w w1 → K w1) : XSt w ⟨b, o, none⟩ v K :=
  ⟨⟨cs[o], by rw [h.cell]; simp [ho]⟩, h.frozen o, hv, k _ (setCell_blk h) (by simp) setCell_ext⟩

theorem xi {n r : Int} {K : Int → Prop} (h : n = r) (k : K r) : XI n K := ⟨h ▸ k⟩
theorem xi0 {n : Int} {K : Int → Prop} (k : K n) : XI n K := ⟨k⟩
theorem wrapI {x : Int} (h : -9223372036854775808 ≤ x ∧ x ≤ 9223372036854775807) : IntKind.i64.wrap x = x := IntWalk.i64_in x h
theorem xix {i : Int} {n : Nat} {K : Nat → Prop} (m : Nat) (hi : i = (m : Int)) (hm : m < n) (k : K m) : XIx i n K := ⟨m, hi, hm, k⟩

theorem xif {b : Bool} {A B : Prop} (ha : b = true → A) (hb : b = false → B) : xIf (.bool b) A B := by
  cases b
  · exact hb rfl
  · exact ha rfl
theorem xifT {b : Bool} {A B : Prop} (h : b = true) (ha : A) : xIf (.bool b) A B := by subst h; exact ha
theorem xifF {b : Bool} {A B : Prop} (h : b = false) (hb : B) : xIf (.bool b) A B := by subst h; exact hb
/-- by what a test says -/
theorem xifD {p : Prop} [Decidable p] {A B : Prop} (ha : p → A) (hb : ¬ p → B) : xIf (.bool (decide p)) A B :=
  xif (fun h => ha (of_decide_eq_true h)) fun h => hb (of_decide_eq_false h)
theorem xifE {a b : Int} {A B : Prop} (ha : a = b → A) (hb : a ≠ b → B) : xIf (.bool (a == b)) A B :=
  xif (fun h => ha (by simpa using h)) fun h => hb (by simpa using h)
theorem xifN {a b : Int} {A B : Prop} (ha : a ≠ b → A) (hb : a = b → B) : xIf (.bool (a != b)) A B :=
  xif (fun h => ha (by simpa using h)) fun h => hb (by simpa using h)

theorem xjd {paths : (List Value → World → Prop) → Prop} {rest : List Value → (Nat → Value) → World → Prop} (h : paths fun vs w => ∀ g, rest vs g w) : XJ paths rest :=
  ⟨_, h, fun vs g w hj => hj g⟩
theorem xj {paths : (List Value → World → Prop) → Prop} {rest : List Value → (Nat → Value) → World → Prop} (J : List Value → World → Prop) (hp : paths J) (hr : ∀ vs g w, J vs w → rest vs g w) : XJ paths rest :=
  ⟨J, hp, hr⟩
theorem xloop {init : List Value} {body : (Nat → List Value → World → Prop) → Nat → List Value → (Nat → Value) → World → Prop} (I : Nat → List Value → World → Prop) (n : Nat) (h0 : I n init w)
    (hr : ∀ n vs g w', I n vs w' → body I n vs g w') : XLoop init w body := ⟨I, ⟨n, h0⟩, hr⟩
theorem xnext {I : Nat → List Value → World → Prop} {n : Nat} {vs : List Value} (m : Nat) (hm : m < n) (h : I m vs w) : XNext I n vs w := ⟨m, hm, h⟩

/-- a slice's bounds -/
theorem xcut {len cap : Nat} {lo hi mx : Option Value} {K : Nat → Nat → Nat → Prop} (l h m : Nat) (hm : match mx with | some (.int _ i) => i = (m : Int) ∧ m ≤ cap | none => m = cap | _ => False)
    (hh : match hi with | some (.int _ i) => i = (h : Int) ∧ h ≤ m | none => h = len ∧ mx = none | _ => False)
    (hl : match lo with | some (.int _ i) => i = (l : Int) ∧ l ≤ h | none => l = 0 | _ => False) (k : K l h m) : XCut len cap lo hi mx K := ⟨l, h, m, hm, hh, hl, k⟩
/-- x[l:] -/
theorem xcutL {len cap : Nat} {kd : IntKind} {i : Int} {K : Nat → Nat → Nat → Prop} (l : Nat) (hi : i = (l : Int)) (hl : l ≤ len) (k : K l len cap) : XCut len cap (some (.int kd i)) none none K :=
  xcut l len cap rfl ⟨rfl, rfl⟩ ⟨hi, hl⟩ k
/-- x[:h] -/
theorem xcutH {len cap : Nat} {kd : IntKind} {i : Int} {K : Nat → Nat → Nat → Prop} (h : Nat) (hi : i = (h : Int)) (hh : h ≤ cap) (k : K 0 h cap) : XCut len cap none (some (.int kd i)) none K :=
  xcut 0 h cap rfl ⟨hi, hh⟩ rfl k
/-- x[l:h] -/
theorem xcutB {len cap : Nat} {kd kd' : IntKind} {i j : Int} {K : Nat → Nat → Nat → Prop} (l h : Nat) (hi : i = (l : Int)) (hj : j = (h : Int)) (hl : l ≤ h) (hh : h ≤ cap) (k : K l h cap) :
    XCut len cap (some (.int kd i)) (some (.int kd' j)) none K := xcut l h cap rfl ⟨hj, hh⟩ ⟨hi, hl⟩ k

/-! ### addresses held against each other -/
theorem sameAddr_block {b o o' : Nat} : (sameAddr ⟨b, o, none⟩ ⟨b, o', none⟩).run P w = .ok (decide (o = o')) w := by
  have : ((⟨b, o, none⟩ : Addr) == (⟨b, o', none⟩ : Addr)) = decide (o = o') := by
    by_cases h : o = o' <;> simp [h]
  simp [sameAddr, this]
theorem stringish_no {b o : Nat} {cs : List Value} {T : TypeId} (h : Blk w b cs T) : (stringish ⟨b, o, none⟩).run P w = .ok false w := by
  simp [stringish, h.frozen, h.shape]
theorem noView_ok {b o : Nat} {cs : List Value} {T : TypeId} (h : Blk w b cs T) : (noView ⟨b, o, none⟩).run P w = .ok () w := by
  simp [noView, viewAt, h.shape]
theorem sameAddr_ne {b b' o o' : Nat} {cs cs' : List Value} {T T' : TypeId} (h : Blk w b cs T) (h' : Blk w b' cs' T') (hne : b ≠ b') :
    (sameAddr ⟨b, o, none⟩ ⟨b', o', none⟩).run P w = .ok false w := by
  simp [sameAddr, hne, h.frozen, h'.frozen, noView_ok h, noView_ok h', mayBeOne, stringish_no h, stringish_no h']
theorem xsame {a b : Addr} {t : Bool} {K : Bool → Prop} (h : (sameAddr a b).run P w = .ok t w) (k : K t) : XSame P w a b K := ⟨t, h, k⟩
end
end Go.Proofs.YtbfnagdpanfphaaGreatDoor.X
end
section
namespace Go.Proofs.YtbfnagdpanfphaaGreatDoor.X
open Go Go.RowKit
set_option linter.unusedSimpArgs false
set_option linter.unusedVariables false

/-- of one type -/
abbrev tyQ (e : TypeId) : Nat → TypeId → Prop := fun _ t => t = e
/-- v is a slice of n elements of sz cells each; its cells read as 'cells'; T says in which block, of which type, they lie -/
def Sl (w : World) (T : Nat → TypeId → Prop) (v : Value) (sz n : Nat) (cells : List Value) : Prop :=
  ∃ a cap, v = .slice a n cap ∧ cells.length = n * sz ∧ n ≤ cap ∧
    match a with
    | none => cap = 0
    | some ad => cap = 0 ∨ ∃ b o cs t fz, ad = ⟨b, o, none⟩ ∧ T b t ∧ w.heap[b]? = some (.cells cs t fz) ∧ o + cap * sz ≤ cs.size ∧ ∀ i, i < n * sz → cs[o + i]? = cells[i]?

section
variable {P : Program} {w w' : World} {T : Nat → TypeId → Prop} {v : Value} {sz n : Nat} {cells : List Value}

theorem Sl.nil : Sl w T (.slice none 0 0) sz 0 [] := ⟨none, 0, rfl, by simp, Nat.le_refl _, rfl⟩
theorem Sl.len (h : Sl w T v sz n cells) : cells.length = n * sz := let ⟨_, _, _, h, _⟩ := h; h
theorem Sl.ext {X : Nat → Prop} (h : Sl w T v sz n cells) (e : Ext X w w') (hx : ∀ b cs t fz, T b t → w.heap[b]? = some (.cells cs t fz) → ¬ X b) : Sl w' T v sz n cells := by
  obtain ⟨a, cap, rfl, hl, hc, ha⟩ := h
  refine ⟨a, cap, rfl, hl, hc, ?_⟩
  cases a with
  | none => exact ha
  | some ad =>
    rcases ha with h0 | ⟨b, o, cs, t, fz, h1, hT, h2, h3, h4⟩
    · exact .inl h0
    exact .inr ⟨b, o, cs, t, fz, h1, hT, by rw [e.same b (lt_of_get h2) (hx b cs t fz hT h2)]; exact h2, h3, h4⟩
theorem Sl.extN (h : Sl w T v sz n cells) (e : Ext No w w') : Sl w' T v sz n cells := h.ext e fun _ _ _ _ _ _ h => h
theorem Sl.weak {T' : Nat → TypeId → Prop} (h : Sl w T v sz n cells) (ht : ∀ b t, T b t → T' b t) : Sl w T' v sz n cells := by
  obtain ⟨a, cap, rfl, hl, hc, ha⟩ := h
  refine ⟨a, cap, rfl, hl, hc, ?_⟩
  cases a with
  | none => exact ha
  | some ad =>
    rcases ha with h0 | ⟨b, o, cs, t, fz, h1, hT, h2, h3, h4⟩
    · exact .inl h0
    exact .inr ⟨b, o, cs, t, fz, h1, ht b t hT, h2, h3, h4⟩
theorem Sl.drew (h : Sl w T v sz n cells) : Sl w.drew T v sz n cells := h
/-- where one block changes that holds things of another type -/
theorem Sl.ext1 {X : Nat → Prop} (h : Sl w T v sz n cells) (e : Ext X w w') (hx : ∀ b, X b → b < w.heap.size → ∃ cs T', Blk w b cs T' ∧ ¬ T b T') : Sl w' T v sz n cells :=
  h.ext e fun b cs t fz hT hb hX => by
    obtain ⟨cs', T', h1, h2⟩ := hx b hX (lt_of_get hb)
    have := h1.h.symm.trans hb
    simp at this
    rw [this.2.1] at h2
    exact h2 hT

theorem xLen_sl {K : Value → Prop} (h : Sl w T v sz n cells) (k : K (.int .i64 n)) : xLen v K := by
  obtain ⟨a, cap, rfl, _⟩ := h; exact k
/-- a cell of an element -/
theorem Sl.cell (h : Sl w T v sz n cells) {m o : Nat} (hm : m < n) (ho : o < sz) : ∃ a cap, v = .slice (some a) n cap ∧ w.cell? ((a.add (m * sz)).add o) = cells[m * sz + o]? := by
  obtain ⟨a, cap, rfl, hl, hc, ha⟩ := h
  cases a with
  | none => exact absurd ha (by omega)
  | some ad =>
    rcases ha with h0 | ⟨b, of, cs, t, fz, rfl, hT, h2, h3, h4⟩
    · omega
    refine ⟨_, cap, rfl, ?_⟩
    rw [Addr.add_lit, Addr.add_lit]
    have hlt : m * sz + o < n * sz := by
      have : (m + 1) * sz ≤ n * sz := Nat.mul_le_mul_right sz hm
      rw [Nat.succ_mul] at this; omega
    have := h4 (m * sz + o) hlt
    simp only [World.cell?, h2]
    simp
    rw [show of + m * sz + o = of + (m * sz + o) by omega]
    exact this
theorem Sl.rd1 {K : Value → Prop} {kd : IntKind} {i : Int} {x : Value} (h : Sl w T v 1 n cells) (m : Nat) (hi : i = (m : Int)) (hm : m < n) (hx : cells[m]? = some x) (k : K x) :
    xIxS v (.int kd i) 1 fun u => xAt u fun a => XLd w a K := by
  obtain ⟨a, cap, rfl, hc⟩ := h.cell hm (Nat.zero_lt_one)
  refine ⟨m, hi, hm, ⟨x, ?_, k⟩⟩
  simp only [Nat.mul_one, Nat.add_zero, Addr.add_zero'] at hc ⊢
  rw [hc, hx]
theorem Sl.rdF {K : Value → Prop} {kd : IntKind} {i : Int} {x : Value} {o : Nat} (h : Sl w T v sz n cells) (m : Nat) (hi : i = (m : Int)) (hm : m < n) (ho : o < sz) (hx : cells[m * sz + o]? = some x) (k : K x) :
    xIxS v (.int kd i) sz fun u => xFld u o fun p => xAt p fun a => XLd w a K := by
  obtain ⟨a, cap, rfl, hc⟩ := h.cell hm ho
  exact ⟨m, hi, hm, ⟨x, by rw [hc, hx], k⟩⟩
/-- a whole element -/
theorem Sl.rdN {K : Value → Prop} {kd : IntKind} {i : Int} (h : Sl w T v sz n cells) (m : Nat) (hi : i = (m : Int)) (hm : m < n) (k : K (.agg ((cells.drop (m * sz)).take sz).toArray)) :
    xIxS v (.int kd i) sz fun u => xAt u fun a => XLdN w a sz K := by
  have hl := h.len
  have hle : (m + 1) * sz ≤ n * sz := Nat.mul_le_mul_right sz hm
  rw [Nat.succ_mul] at hle
  have hex : ∃ a cap, v = .slice (some a) n cap ∧ ∀ o, o < sz → w.cell? ((a.add (m * sz)).add o) = cells[m * sz + o]? := by
    obtain ⟨a, cap, rfl, hl, hc, ha⟩ := h
    cases a with
    | none => exact absurd ha (by omega)
    | some ad =>
      rcases ha with h0 | ⟨b, of, cs, t, fz, rfl, hT, h2, h3, h4⟩
      · omega
      refine ⟨_, cap, rfl, fun o ho => ?_⟩
      rw [Addr.add_lit, Addr.add_lit]
      have := h4 (m * sz + o) (by omega)
      simp only [World.cell?, h2]
      simp
      rw [show of + m * sz + o = of + (m * sz + o) by omega]
      exact this
  obtain ⟨a, cap, rfl, hc⟩ := hex
  refine ⟨m, hi, hm, ⟨_, ?_, fun o ho => ?_, k⟩⟩
  · simp; omega
  · rw [hc o ho]; simp [List.getElem?_take, ho, List.getElem?_drop]

theorem Sl.cut {l h : Nat} (hs : Sl w T v sz n cells) (hl : l ≤ h) (hh : h ≤ n) : ∃ a cap, v = .slice a n cap ∧ n ≤ cap ∧
    ∀ m, h ≤ m → m ≤ cap → Sl w T (.slice (cutAddr a l m sz) (h - l) (m - l)) sz (h - l) ((cells.drop (l * sz)).take ((h - l) * sz)) := by
  obtain ⟨a, cap, rfl, hlen, hc, ha⟩ := hs
  refine ⟨a, cap, rfl, hc, fun m hm hm2 => ?_⟩
  have hmul : (h - l) * sz + l * sz = h * sz := by rw [← Nat.add_mul]; congr 1; omega
  have hle : h * sz ≤ n * sz := Nat.mul_le_mul_right sz hh
  refine ⟨_, _, rfl, by simp [hlen]; omega, by omega, ?_⟩
  unfold cutAddr
  by_cases e : m = l
  · rw [if_pos e]
    subst e
    have hml : h = m := by omega
    subst hml
    cases a with
    | none => simp
    | some ad =>
      exact .inl (by omega)
  · rw [if_neg e]
    cases a with
    | none => exact absurd ha (by omega)
    | some ad =>
      rcases ha with h0 | ⟨b, o, cs, t, fz, rfl, hT, h2, h3, h4⟩
      · omega
      have hcm : (m - l) * sz + l * sz ≤ cap * sz := by rw [← Nat.add_mul]; exact Nat.mul_le_mul_right sz (by omega)
      refine .inr ⟨b, o + l * sz, cs, t, fz, Addr.add_lit b o (l * sz), hT, h2, by omega, fun i hi => ?_⟩
      rw [show o + l * sz + i = o + (l * sz + i) by omega, h4 _ (by omega)]
      simp [List.getElem?_take, hi, List.getElem?_drop]
theorem Sl.cutL {K : Value → Prop} {kd : IntKind} {i : Int} (h : Sl w T v sz n cells) (l : Nat) (hi : i = (l : Int)) (hl : l ≤ n) (k : ∀ v', Sl w T v' sz (n - l) (cells.drop (l * sz)) → K v') :
    xCutS sz v (some (.int kd i)) none none K := by
  obtain ⟨a, cap, rfl, hc, hs⟩ := h.cut hl (Nat.le_refl n)
  refine xcutL l hi hl (k _ ?_)
  have := hs cap hc (Nat.le_refl _)
  rwa [List.take_of_length_le (by simp [h.len, Nat.sub_mul])] at this
theorem Sl.cutH {K : Value → Prop} {kd : IntKind} {i : Int} (hs : Sl w T v sz n cells) (h : Nat) (hi : i = (h : Int)) (hh : h ≤ n) (k : ∀ v', Sl w T v' sz h (cells.take (h * sz)) → K v') :
    xCutS sz v none (some (.int kd i)) none K := by
  obtain ⟨a, cap, rfl, hc, hs'⟩ := hs.cut (Nat.zero_le h) hh
  refine xcutH h hi (Nat.le_trans hh hc) (k _ ?_)
  have := hs' cap (Nat.le_trans hh hc) (Nat.le_refl _)
  simpa using this
theorem Sl.cutB {K : Value → Prop} {kd kd' : IntKind} {i j : Int} (hs : Sl w T v sz n cells) (l h : Nat) (hi : i = (l : Int)) (hj : j = (h : Int)) (hl : l ≤ h) (hh : h ≤ n)
    (k : ∀ v', Sl w T v' sz (h - l) ((cells.drop (l * sz)).take ((h - l) * sz)) → K v') : xCutS sz v (some (.int kd i)) (some (.int kd' j)) none K := by
  obtain ⟨a, cap, rfl, hc, hs'⟩ := hs.cut hl hh
  exact xcutB l h hi hj hl (Nat.le_trans hh hc) (k _ (hs' cap (Nat.le_trans hh hc) (Nat.le_refl _)))

/-! ### a slice that the call itself made -/
theorem grown_ext {row : Option Nat} (h : w.grownBy w' row) : Ext (fun b => row = some b) w w' := by
  obtain ⟨h1, h2, h3, h4, h5⟩ := h
  exact ⟨h1, h2, h3, h4, fun b hb hx => h5 b hb (fun e => hx e.symm)⟩
end
end Go.Proofs.YtbfnagdpanfphaaGreatDoor.X
end
section
namespace Go.Proofs.YtbfnagdpanfphaaGreatDoor.X
open Go Go.RowKit
set_option linter.unusedSimpArgs false
set_option linter.unusedVariables false

section
variable {P : Program} {w w' : World}

/-- a slice type t, its element's type e: size in cells, in bytes, zero value -/
structure EI (P : Program) (t e : TypeId) (sz bytes : Nat) (z : Value) : Prop where
  u : P.underlying t = some (.slice e)
  i : (P.info? e).map (fun i => (i.zero, i.size, i.bytes)) = some (some z, sz, bytes)
  zs : z.cells.size = sz
  pos : 0 < sz

theorem EI.parts {t e : TypeId} {sz bytes : Nat} {z : Value} (h : EI P t e sz bytes z) : ∃ i, P.info? e = some i ∧ i.zero = some z ∧ i.size = sz ∧ i.bytes = bytes := info_parts h.i

/-- a slice that this call made: its block holds its cells, and room behind them -/
abbrev Own (w : World) (B : Nat) (e : TypeId) (sz : Nat) (v : Value) (n : Nat) (xs : List Value) : Prop := w.ownsRow B e sz v n xs
theorem Own.nil (w : World) (B : Nat) (e : TypeId) (sz : Nat) : Own w B e sz (.slice none 0 0) 0 [] := ⟨by simp, .inl ⟨rfl, rfl⟩⟩
theorem Own.sl {B : Nat} {e : TypeId} {sz : Nat} {v : Value} {n : Nat} {xs : List Value} (h : Own w B e sz v n xs) : Sl w (tyQ e) v sz n xs := by
  obtain ⟨hl, h⟩ := h
  rcases h with ⟨rfl, rfl⟩ | ⟨g, cap, cur, rfl, hb, hg, hn, hm, hs, ht⟩
  · exact ⟨none, 0, rfl, hl, Nat.le_refl _, rfl⟩
  · refine ⟨_, cap, rfl, hl, hn, .inr ⟨g, 0, cur, e, (0, 0), rfl, rfl, hg, by omega, fun i hi => ?_⟩⟩
    rw [← ht, Nat.zero_add, List.getElem?_take, if_pos hi]
    simp
theorem Own.ext {X : Nat → Prop} {B : Nat} {e : TypeId} {sz : Nat} {v : Value} {n : Nat} {xs : List Value} (h : Own w B e sz v n xs) (he : Ext X w w') (hx : ∀ b, v.ownBlock = some b → ¬ X b) : Own w' B e sz v n xs := by
  refine ⟨h.1, ?_⟩
  rcases h.2 with hn | ⟨g, cap, cur, rfl, hb, hg, rest⟩
  · exact .inl hn
  · exact .inr ⟨g, cap, cur, rfl, hb, by rw [he.same g (lt_of_get hg) (hx g rfl)]; exact hg, rest⟩
theorem Own.extN {B : Nat} {e : TypeId} {sz : Nat} {v : Value} {n : Nat} {xs : List Value} (h : Own w B e sz v n xs) (he : Ext No w w') : Own w' B e sz v n xs := h.ext he fun _ _ h => h
theorem Own.drew {B : Nat} {e : TypeId} {sz : Nat} {v : Value} {n : Nat} {xs : List Value} (h : Own w B e sz v n xs) : Own w.drew B e sz v n xs := h
theorem Own.len {B : Nat} {e : TypeId} {sz : Nat} {v : Value} {n : Nat} {xs : List Value} (h : Own w B e sz v n xs) : xs.length = n * sz := h.1
theorem Own.ge {B : Nat} {e : TypeId} {sz : Nat} {v : Value} {n : Nat} {xs : List Value} (h : Own w B e sz v n xs) {b : Nat} (hb : v.ownBlock = some b) : B ≤ b ∧ b < w.heap.size := World.ownsRow.lt h b hb
theorem Own.mono {B B' : Nat} {e : TypeId} {sz : Nat} {v : Value} {n : Nat} {xs : List Value} (h : Own w B e sz v n xs) (hb : B' ≤ B) : Own w B' e sz v n xs := by
  refine ⟨h.1, ?_⟩
  rcases h.2 with hn | ⟨g, cap, cur, rfl, h1, rest⟩
  · exact .inl hn
  · exact .inr ⟨g, cap, cur, rfl, Nat.le_trans hb h1, rest⟩

/-- what is written to a slice of the call's own is new to whoever called -/
theorem Ext.own {X : Nat → Prop} {w'' : World} {B : Nat} {e : TypeId} {sz : Nat} {v : Value} {n : Nat} {xs : List Value} (h : Ext X w w') (ho : Own w' B e sz v n xs) (hB : w.heap.size ≤ B)
    (k : Ext (fun b => v.ownBlock = some b) w' w'') : Ext X w w'' := h.trans k fun b hb hv => by have := (ho.ge hv).1; omega

theorem Sl.cells_at {T : Nat → TypeId → Prop} {v : Value} {sz n cap : Nat} {ad : Addr} {ys : List Value} (h : Sl w T (.slice (some ad) n cap) sz n ys) : ∀ j u, ys[j]? = some u → w.cell? (ad.add j) = some u := by
  intro j u hj
  obtain ⟨a, cap', hv, hl, hc, ha⟩ := h
  simp only [Value.slice.injEq] at hv
  obtain ⟨rfl, -, rfl⟩ := hv
  have hlt : j < n * sz := by
    rw [← hl]
    rcases Nat.lt_or_ge j ys.length with h | h
    · exact h
    · rw [List.getElem?_eq_none h] at hj; cases hj
  rcases ha with h0 | ⟨b, o, cs, t, fz, rfl, hT, h2, h3, h4⟩
  · have : n = 0 := by omega
    subst this
    omega
  rw [Addr.add_lit]
  simp only [World.cell?, h2]
  simp only [Option.isSome_none, Bool.false_eq_true, if_false]
  rw [h4 j hlt, hj]

/-- append to a slice of the call's own; what the old slice reads stays, whatever is done to the new one -/
theorem app_own {t e ty : TypeId} {sz bytes : Nat} {z : Value} {B n m : Nat} {v x : Value} {xs ys : List Value} {T : Nat → TypeId → Prop} {K : Value → World → Prop} (hi : EI P t e sz bytes z) (ho : Own w B e sz v n xs) (hB : B ≤ w.heap.size)
    (hx : Sl w T x sz m ys) (h1 : ∀ u ∈ ys, u.oneCell' = true) (hb : (n + m) * bytes ≤ 140737488355328) (hn : n + m ≤ 4611686018427387904)
    (k : ∀ v' w', Own w' B e sz v' (n + m) (xs ++ ys) → Ext (fun b => v.ownBlock = some b) w w' → (∀ w'', Ext (fun b => v'.ownBlock = some b) w' w'' → Own w'' B e sz v' (n + m) (xs ++ ys) → Own w'' B e sz v n xs) →
      (∀ b, v'.ownBlock = some b → v.ownBlock = some b ∨ w.heap.size ≤ b) → K v' w') :
    XRun P (Builtin.append_ #[t, t] ty #[v, x]) w K := by
  obtain ⟨i, hi1, hi2, hi3, hi4⟩ := hi.parts
  have hx' := hx
  obtain ⟨a, xcap, rfl, hl, hc, ha⟩ := hx
  cases a with
  | none =>
    subst ha
    have : m = 0 := by omega
    subst this
    have hys : ys = [] := List.eq_nil_of_length_eq_zero (by simpa using hl)
    subst hys
    have := run_append_owned_none (P := P) w B t ty e i sz hi.u hi1 v n xs ho
    exact ⟨_, _, this, k v w (by simpa using ho) (Ext.refl _ _) (fun w'' _ h => by simpa using h) fun b hb => .inl hb⟩
  | some ad =>
    have hcells := hx'.cells_at (v := .pointer none)
    have hsmall : n + m ≤ 9223372036854775807 := by omega
    have hlen : (xs ++ ys).length = (n + m) * sz := by rw [List.length_append, ho.1, hl, Nat.add_mul]
    subst hi3; subst hi4
    have grown : ∀ (old : Nat),
      Own (w.drew.alloc (.cells (xs.toArray ++ ys.toArray ++ Builtin.zeroCells z.cells (grownCap w (n + m) old e - (n + m))) e)) B e i.size (.slice (some ⟨w.heap.size, 0, none⟩) (n + m) (grownCap w (n + m) old e)) (n + m) (xs ++ ys) ∧
      Ext No w (w.drew.alloc (.cells (xs.toArray ++ ys.toArray ++ Builtin.zeroCells z.cells (grownCap w (n + m) old e - (n + m))) e)) := by
      intro old
      have hge := grownCap_ge w (n + m) old e
      have hcm : grownCap w (n + m) old e ≤ maxLen := grownCap_le_maxLen w (n + m) old e (by unfold maxLen; omega)
      refine ⟨⟨hlen, .inr ⟨w.heap.size, _, _, rfl, hB, heap_alloc_new w.drew _, hge, hcm, ?_, ?_⟩⟩, ⟨rfl, rfl, rfl, by simp, fun k hk _ => heap_alloc_old w.drew _ hk⟩⟩
      · simp only [Array.size_append, List.size_toArray, size_zeroCells, hi.zs, ho.1, hl, ← Nat.add_mul]
        congr 1
        omega
      · simp only [Array.toList_append, List.append_assoc]
        rw [← List.append_assoc, ← hlen]
        exact List.take_left
    have keep : ∀ {old : Nat} {X : Nat → Prop} {w1 w2 : World}, (∀ b, v.ownBlock = some b → ¬ X b) → Ext No w w1 → Ext X w1 w2 → Own w2 B e i.size v n xs := fun {old X w1 w2} hX h1 h2 =>
      (ho.extN h1).ext h2 hX
    rcases ho.2 with ⟨rfl, rfl⟩ | ⟨g, cap, cur, rfl, hbg, hg, hnc, hcm, hcs, htake⟩
    · have hx : xs = [] := List.eq_nil_of_length_eq_zero (by simpa using ho.1)
      subst hx
      by_cases hm : m = 0
      · subst hm
        have hys : ys = [] := List.eq_nil_of_length_eq_zero (by simpa using hl)
        subst hys
        refine ⟨.slice none 0 0, w, ?_, k _ _ (by simpa using ho) (Ext.refl _ _) (fun w'' _ h => by simpa using h) fun b hb => .inl hb⟩
        have hf := run_firstCells_some (P := P) w i.size 0 ad 0 xcap [] (by simp) (by simp)
        simp [Builtin.append_, run_underlying hi.u, sizeOf, typeInfo, hi1, Builtin.lenOf, hf]
      · have hr := run_append_nil (P := P) w t ty e i z hi.u hi1 hi2 ad m xcap ys hl hcells (by omega) (by omega) (by simp only [Nat.zero_add] at hb; omega)
        have hgr := grown 0
        simp only [Nat.zero_add, List.nil_append, Array.empty_append] at hgr hr k ⊢
        refine ⟨_, _, hr, k _ _ hgr.1 (hgr.2.mono fun _ _ h => h.elim) (fun w'' h h' => keep (old := 0) (by intro b hb; cases hb) hgr.2 h) fun b hb => .inr ?_⟩
        simp only [Value.ownBlock, Option.some.injEq] at hb
        omega
    · by_cases hroom : n + m ≤ cap
      · have hfit : n * i.size + ys.length ≤ cur.size := by rw [hl, hcs, ← Nat.add_mul]; exact Nat.mul_le_mul_right _ hroom
        have hr := run_append_room (P := P) w t ty e i hi.u hi1 g n cap cur hg ad m xcap ys hl hcells h1 hroom hfit
        refine ⟨_, _, hr, k _ _ ⟨hlen, .inr ⟨g, cap, _, rfl, hbg, setRow_heap w g cur _ e _ hg, hroom, hcm, ?_, ?_⟩⟩ ⟨rfl, rfl, rfl, by simp, fun b _ hb => setRow_other w g b _ (fun e => hb (by simp [Value.ownBlock, e]))⟩ ?_ fun b hb => .inl hb⟩
        · simp only [List.size_toArray, List.length_append, List.length_take, List.length_drop, Array.length_toList]
          omega
        · rw [htake, ← hlen]
          exact List.take_left
        · rintro w'' - ⟨h5, h6⟩
          rcases h6 with ⟨h6, -⟩ | ⟨g', cap', cur', h6, h7, h8, h9, h10, h11, h12⟩
          · cases h6
          · simp only [Value.slice.injEq, Option.some.injEq, Addr.mk.injEq, and_true, true_and] at h6
            obtain ⟨rfl, rfl⟩ := h6
            refine ⟨ho.1, .inr ⟨g, cap, cur', rfl, hbg, h8, by omega, hcm, h11, ?_⟩⟩
            have := congrArg (List.take (n * i.size)) h12
            rw [List.take_take, Nat.min_eq_left (Nat.mul_le_mul_right _ (Nat.le_add_right n m)), ← ho.1, List.take_left, ho.1] at this
            exact this
      · have holds : ∀ j u, xs[j]? = some u → w.cell? ((⟨g, 0, none⟩ : Addr).add j) = some u := World.ownsRow.cells ho (g := g) rfl
        have hr := run_append_grow (P := P) w t ty e i z hi.u hi1 hi2 ⟨g, 0, none⟩ n cap xs ho.1 holds ad m xcap ys hl hcells (by omega) (by omega) (growslice_fits (by omega) hb)
        have hgr := grown cap
        refine ⟨_, _, hr, k _ _ hgr.1 (hgr.2.mono fun _ _ h => h.elim) (fun w'' h h' => keep (old := 0) (fun b hb hb' => ?_) hgr.2 h) fun b hb => .inr ?_⟩
        · have := ho.ge hb
          simp only [Value.ownBlock, Option.some.injEq] at hb'
          omega
        · simp only [Value.ownBlock, Option.some.injEq] at hb
          omega

/-- append to a slice whose room is used up: the old block stays -/
theorem app_full {t e ty : TypeId} {sz bytes : Nat} {z : Value} {n m : Nat} {ad : Option Addr} {x : Value} {xs ys : List Value} {T T0 : Nat → TypeId → Prop} {K : Value → World → Prop} (hi : EI P t e sz bytes z) (hv : Sl w T0 (.slice ad n n) sz n xs) (hT0 : ∀ b, T0 b e)
    (hx : Sl w T x sz m ys) (hb : (n + m) * bytes ≤ 140737488355328) (hn : n + m ≤ 4611686018427387904)
    (k : ∀ v' w', Sl w' T0 v' sz (n + m) (xs ++ ys) → Ext No w w' → K v' w') : XRun P (Builtin.append_ #[t, t] ty #[.slice ad n n, x]) w K := by
  obtain ⟨i, hi1, hi2, hi3, hi4⟩ := hi.parts
  subst hi3; subst hi4
  have hv' := hv
  have hx' := hx
  obtain ⟨a, cap, hva, hvl, hvc, hvb⟩ := hv
  simp only [Value.slice.injEq, true_and] at hva
  obtain ⟨rfl, rfl⟩ := hva
  have hv0 : ad = none → n = 0 := by intro h; subst h; exact hvb
  clear hvb
  obtain ⟨xa, xcap, rfl, hl, hc, ha⟩ := hx
  have hx0 : xa = none → m = 0 := by
    intro h; subst h
    have : xcap = 0 := ha
    omega
  clear ha
  have hlen : (xs ++ ys).length = (n + m) * i.size := by rw [List.length_append, hvl, hl, Nat.add_mul]
  by_cases hm : m = 0
  · subst hm
    have hys : ys = [] := List.eq_nil_of_length_eq_zero (by simpa using hl)
    subst hys
    refine ⟨_, w, ?_, k (.slice ad n n) w (by simpa using hv') (Ext.refl _ _)⟩
    have hf : (Builtin.firstCells i.size 0 (.slice xa 0 xcap)).run P w = .ok #[] w := by
      cases xa with
      | none => simp [Builtin.firstCells]
      | some xa => exact run_firstCells_some (P := P) w i.size 0 xa 0 xcap [] (by simp) (by simp)
    cases ad with
    | none =>
      have := hv0 rfl
      subst this
      simp [Builtin.append_, run_underlying hi.u, sizeOf, typeInfo, hi1, Builtin.lenOf, hf]
    | some ad => simp [Builtin.append_, run_underlying hi.u, sizeOf, typeInfo, hi1, Builtin.lenOf, hf, storeCells]
  · cases xa with
    | none => exact absurd (hx0 rfl) hm
    | some xa =>
      have hcells := hx'.cells_at (v := .pointer none)
      have grown : ∀ (old : Nat),
        Sl (w.drew.alloc (.cells (xs.toArray ++ ys.toArray ++ Builtin.zeroCells z.cells (grownCap w (n + m) old e - (n + m))) e)) T0 (.slice (some ⟨w.heap.size, 0, none⟩) (n + m) (grownCap w (n + m) old e)) i.size (n + m) (xs ++ ys) ∧
        Ext No w (w.drew.alloc (.cells (xs.toArray ++ ys.toArray ++ Builtin.zeroCells z.cells (grownCap w (n + m) old e - (n + m))) e)) := by
        intro old
        have hge := grownCap_ge w (n + m) old e
        have hal := heap_alloc_new w.drew (.cells (xs.toArray ++ ys.toArray ++ Builtin.zeroCells z.cells (grownCap w (n + m) old e - (n + m))) e)
        refine ⟨⟨_, _, rfl, hlen, hge, .inr ⟨w.heap.size, 0, _, _, _, rfl, hT0 _, hal, ?_, fun j hj => ?_⟩⟩, ⟨rfl, rfl, rfl, by simp, fun k hk _ => heap_alloc_old w.drew _ hk⟩⟩
        · simp only [Array.size_append, List.size_toArray, size_zeroCells, hi.zs, hvl, hl, ← Nat.add_mul, Nat.zero_add]
          exact Nat.mul_le_mul_right _ (by omega)
        · rw [Nat.zero_add, Array.getElem?_append_left (by simp [← hlen] at hj ⊢; omega)]
          simp
      cases ad with
      | none =>
        have := hv0 rfl
        subst this
        have hxs : xs = [] := List.eq_nil_of_length_eq_zero (by simpa using hvl)
        subst hxs
        have hr := run_append_nil (P := P) w t ty e i z hi.u hi1 hi2 xa m xcap ys hl hcells (by omega) (by omega) (by simp only [Nat.zero_add] at hb; omega)
        have hgr := grown 0
        simp only [Nat.zero_add, List.nil_append, Array.empty_append] at hgr hr k ⊢
        exact ⟨_, _, hr, k _ _ hgr.1 hgr.2⟩
      | some ad =>
        have hr := run_append_grow (P := P) w t ty e i z hi.u hi1 hi2 ad n n xs hvl (hv'.cells_at (v := .pointer none)) xa m xcap ys hl hcells (by omega) (by omega) (growslice_fits (by omega) hb)
        have hgr := grown n
        exact ⟨_, _, hr, k _ _ hgr.1 hgr.2⟩

/-- make([]T, n, c) -/
theorem make_own {t e : TypeId} {sz bytes : Nat} {z : Value} {n c : Nat} {a b : Int} {ka kb : IntKind} {K : Value → World → Prop} (hi : EI P t e sz bytes z) (ha : a = (n : Int)) (hb : b = (c : Int)) (hnc : n ≤ c) (hn : bytes * c ≤ 281474976710656) (hm : c ≤ 4611686018427387904)
    (k : ∀ b w', b = w.heap.size → w'.heap.size = b + 1 → Blk w' b (repL (cellsV z) c) e → Ext No w w' → K (.slice (some ⟨b, 0, none⟩) n c) w') : XRun P (Instr.makeSlice t (.int ka a) (.int kb b)) w K := by
  obtain ⟨i, hi1, hi2, hi3, hi4⟩ := hi.parts
  subst ha; subst hb; subst hi3; subst hi4
  have hr := run_make (P := P) w t e i z hi.u hi1 hi2 ka kb (n : Int) c (by omega) (by omega) (by have := Int.ofNat_le.2 hn; rw [Int.natCast_mul] at this; exact this) (by omega)
  simp only [Int.toNat_natCast] at hr
  refine ⟨_, _, hr, ?_⟩
  have e2 : madeCells z.cells (c * i.size) = (repL (cellsV z) c).toArray := by
    unfold madeCells
    rw [rep_eq z.cells c i.size hi.zs, cellsV_eq]
  rw [e2]
  exact k w.heap.size (w.alloc (.cells (repL (cellsV z) c).toArray e)) rfl (by simp) ⟨by show (w.heap.push _)[w.heap.size]? = _; simp⟩ ⟨rfl, rfl, rfl, by simp, fun c hc _ => by
    show (w.heap.push _)[c]? = _
    rw [Array.getElem?_push, if_neg (by omega)]⟩

/-- copy(dst, src) of things of one cell -/
theorem copy_row {t u e ty T : TypeId} {T' : Nat → TypeId → Prop} {bytes : Nat} {z : Value} {g o dl dc sn : Nat} {cur xs : List Value} {x : Value} {K : Value → World → Prop} (hi : EI P t e 1 bytes z) (hg : Blk w g cur T) (hx : Sl w T' x 1 sn xs)
    (hfit : o + min sn dl ≤ cur.length) (h1 : ∀ v ∈ xs, v.oneCell' = true)
    (k : ∀ w', Blk w' g (cur.take o ++ xs.take (min sn dl) ++ cur.drop (o + min sn dl)) T → w'.heap.size = w.heap.size → Ext (· = g) w w' → K (.int .i64 (min sn dl : Nat)) w') :
    XRun P (Builtin.copy_ #[t, u] ty #[.slice (some ⟨g, o, none⟩) dl dc, x]) w K := by
  obtain ⟨i, hi1, hi2, hi3, hi4⟩ := hi.parts
  have hx' := hx
  obtain ⟨a, cap, rfl, hl, hc, ha⟩ := hx
  rw [Nat.mul_one] at hl
  have hk : (xs.take (min sn dl)).length = min sn dl := by rw [List.length_take]; omega
  cases a with
  | none =>
    subst ha
    have : sn = 0 := by omega
    subst this
    have hxs : xs = [] := List.eq_nil_of_length_eq_zero hl
    subst hxs
    refine ⟨_, _, run_copy_nil (P := P) w t u ty e _ dl dc hi.u (by rw [hi1]; rfl), ?_⟩
    have := k w (by simpa using hg) rfl (Ext.refl _ _)
    simpa [goInt] using this
  | some ad =>
    have hr := run_copy_row (P := P) w t u ty e g o dl dc ad sn cap cur.toArray T (xs.take (min sn dl)) hi.u (by rw [hi1]; simp [hi3]) hg.h (by rw [hk])
      (fun j v hj => hx'.cells_at (v := .pointer none) j v (by
        rw [List.getElem?_take] at hj
        split at hj
        · exact hj
        · cases hj)) (by rw [hk]; simpa using hfit) (fun v hv => h1 v (List.mem_of_mem_take hv))
    refine ⟨_, _, hr, ?_⟩
    rw [hk]
    exact k _ ⟨setRow_heap w g _ _ T _ hg.h⟩ (by simp) ⟨rfl, rfl, rfl, by simp, fun b _ hb => setRow_other w g b _ hb⟩

/-- a whole struct is stored -/
theorem xstoreVar {t T : TypeId} {g o : Nat} {cur vs : List Value} {K : World → Prop} (hg : Blk w g cur T) (hi : (P.info? t).map (·.size) = some vs.length) (hfit : o + vs.length ≤ cur.length) (h1 : ∀ v ∈ vs, v.oneCell' = true)
    (k : ∀ w', Blk w' g (cur.take o ++ vs ++ cur.drop (o + vs.length)) T → w'.heap.size = w.heap.size → Ext (· = g) w w' → K w') : XDo P (storeVar t ⟨g, o, none⟩ (.agg vs.toArray)) w K := by
  have hr := run_storeCells_at P g o T vs 0 cur.toArray w hg.h (by simpa using hfit) h1
  refine ⟨_, ?_, k (w.setRow g (cur.take o ++ vs ++ cur.drop (o + vs.length)).toArray) ⟨setRow_heap w g _ _ T _ hg.h⟩ (by simp) ⟨rfl, rfl, rfl, by simp, fun b _ hb => setRow_other w g b _ hb⟩⟩
  cases hq : P.info? t with
  | none => simp [hq] at hi
  | some i =>
    have hs : vs.length = i.size := by simp [hq] at hi; omega
    simp only [Nat.add_zero] at hr
    simp [storeVar, sizeOf, typeInfo, hq, Value.cells, hs] at hr ⊢
    exact hr

/-- a []byte as a string -/
theorem conv_str {s d e : TypeId} {T : Nat → TypeId → Prop} {v : Value} {bs : List UInt8} {K : Value → World → Prop} (hs : P.underlying s = some (.slice e)) (he : P.underlying e = some (.int .u8)) (hd : P.underlying d = some .string)
    (hv : Sl w T v 1 bs.length (bs.map fun c => .int .u8 c.toNat)) (k : K (.string ⟨bs.toArray⟩) w) : XRun P (convert s d v) w K := by
  have hv' := hv
  obtain ⟨a, cap, rfl, hl, hc, ha⟩ := hv
  cases a with
  | none =>
    subst ha
    have : bs = [] := List.eq_nil_of_length_eq_zero (by omega)
    subst this
    exact ⟨_, _, run_convert_bytes_nil (P := P) w s e hs he _ _ d hd, k⟩
  | some ad =>
    have hcell := hv'.cells_at (v := .pointer none)
    have hcl : (loadCells ad bs.length).run P w = .ok ((bs.map fun c => (c.toNat : Int)).map (Value.int .u8)).toArray w := by
      have := run_loadCells_list (P := P) w ad ((bs.map fun c => (c.toNat : Int)).map (Value.int .u8)) (fun j v hj => hcell j v (by simpa [Function.comp_def] using hj))
      simpa using this
    have hrun : (convert s d (.slice (some ad) bs.length cap)).run P w = .ok (.string (strOfNums (bs.map fun c => (c.toNat : Int)))) w := by
      rw [run_convert_bytes_string w s d e _ bs.length cap hs he hd, run_bytesToString w _ bs.length cap _ hcl, foldl_push_bytes]
      simp [strOfNums, ByteArray.empty, ByteArray.emptyWithCapacity]
      rfl
    refine ⟨_, _, hrun, ?_⟩
    have : strOfNums (bs.map fun c => (c.toNat : Int)) = ⟨bs.toArray⟩ := by
      unfold strOfNums
      congr 2
      rw [List.map_map]
      conv => rhs; rw [← List.map_id bs]
      apply List.map_congr_left
      intro c _
      simp
    rw [this]
    exact k

/-! ### functions without a text -/
def extOk (P : Program) (f : FuncId) : Bool :=
  match P.funcs[f]? with
  | some fn => !(fn.name == "runtime.NumGoroutine") && fn.body.isNone && (Extern.findNext fn).isNone
  | none => false
theorem xext {f : FuncId} {args : List Value} {K : Value → World → Prop} {e : Array Value → Sem Value} (hb : bodied P f = false) (hq : extOk P f = true) (he : (P.funcs[f]?).bind Extern.find = some e) (k : XRun P (e args.toArray) w K) : xCall P f args w K := by
  unfold xCall
  rw [hb]
  obtain ⟨v, w', hr, hk⟩ := k
  refine ⟨v, w', ?_, hk⟩
  unfold extOk at hq
  cases hf : P.funcs[f]? with
  | none => rw [hf] at hq; cases hq
  | some fn =>
    rw [hf] at hq he
    simp only [Bool.and_eq_true, Bool.not_eq_true'] at hq
    obtain ⟨⟨h1, h2⟩, h3⟩ := hq
    have := run_callFunc_extern (P := P) hf h1 h2 (by simpa using h3) (by simpa using he) args.toArray w
    simp [this, hr, Result.andThen]
end
end Go.Proofs.YtbfnagdpanfphaaGreatDoor.X
end
