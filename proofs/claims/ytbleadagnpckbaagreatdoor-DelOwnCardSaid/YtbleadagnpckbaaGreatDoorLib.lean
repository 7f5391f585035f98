/-  Heap facts and step rules for the forms without frames.  -/
import Derived.Test.YtbleadagnpckbaaGreatDoorEng
import Derived.Below
namespace Go.Proofs.YtbleadagnpckbaaGreatDoor.X
open Go Go.RowKit
set_option linter.unusedSimpArgs false
set_option linter.unusedVariables false

/-- block b holds these cells (no byte of it is shared with a string) -/
structure Blk (w : World) (b : Nat) (cs : List Value) (T : TypeId) : Prop where
  h : w.heap[b]? = some (.cells cs.toArray T (0, 0))

/-- w' is w, but for the blocks of X, and new ones -/
structure Ext (X : Nat → Prop) (w w' : World) : Prop where
  os : w'.os = w.os
  tape : w'.tape = w.tape
  output : w'.output = w.output
  size : w.heap.size ≤ w'.heap.size
  same : ∀ b, b < w.heap.size → ¬ X b → w'.heap[b]? = w.heap[b]?

def No : Nat → Prop := fun _ => False

theorem Ext.refl (X : Nat → Prop) (w : World) : Ext X w w := ⟨rfl, rfl, rfl, Nat.le_refl _, fun _ _ _ => rfl⟩
theorem Ext.drew {X : Nat → Prop} {w w' : World} (h : Ext X w w') : Ext X w w'.drew := ⟨h.os, h.tape, h.output, h.size, h.same⟩
theorem Ext.mono {X Y : Nat → Prop} {w w' : World} (h : Ext X w w') (hx : ∀ b, b < w.heap.size → X b → Y b) : Ext Y w w' :=
  ⟨h.os, h.tape, h.output, h.size, fun b hb hy => h.same b hb fun hx' => hy (hx b hb hx')⟩
theorem Ext.trans {X Y : Nat → Prop} {w w' w'' : World} (h : Ext X w w') (k : Ext Y w' w'') (hy : ∀ b, b < w.heap.size → Y b → X b) : Ext X w w'' :=
  ⟨k.os.trans h.os, k.tape.trans h.tape, k.output.trans h.output, Nat.le_trans h.size k.size,
    fun b hb hx => (k.same b (Nat.lt_of_lt_of_le hb h.size) fun h' => hx (hy b hb h')).trans (h.same b hb hx)⟩
theorem Ext.transN {X : Nat → Prop} {w w' w'' : World} (h : Ext X w w') (k : Ext No w' w'') : Ext X w w'' := h.trans k fun _ _ h => h.elim
theorem Ext.transS {X : Nat → Prop} {w w' w'' : World} (h : Ext X w w') (k : Ext X w' w'') : Ext X w w'' := h.trans k fun _ _ h => h
/-- what is written behind a new block's making is new -/
theorem Ext.trans1 {X : Nat → Prop} {w w' w'' : World} {b : Nat} (h : Ext X w w') (k : Ext (· = b) w' w'') (hb : w.heap.size ≤ b) : Ext X w w'' :=
  h.trans k fun c hc e => by subst e; omega
theorem Ext.below {w w' : World} (h : Ext No w w') : Below w.heap.size w w' := ⟨h.os, h.tape, h.output, h.size, fun b hb => h.same b hb fun h => h⟩

theorem lt_of_get {w : World} {b : Nat} {o : Obj} (h : w.heap[b]? = some o) : b < w.heap.size := by
  rcases Nat.lt_or_ge b w.heap.size with h1 | h1
  · exact h1
  · rw [Array.getElem?_eq_none h1] at h; cases h
theorem Blk.lt {w : World} {b : Nat} {cs : List Value} {T : TypeId} (h : Blk w b cs T) : b < w.heap.size := lt_of_get h.h
theorem Blk.ext {X : Nat → Prop} {w w' : World} {b : Nat} {cs : List Value} {T : TypeId} (h : Blk w b cs T) (e : Ext X w w') (hx : ¬ X b) : Blk w' b cs T := ⟨by rw [e.same b h.lt hx]; exact h.h⟩
theorem Blk.drew {w : World} {b : Nat} {cs : List Value} {T : TypeId} (h : Blk w b cs T) : Blk w.drew b cs T := ⟨h.h⟩
theorem Blk.ne {w : World} {b b' : Nat} {cs cs' : List Value} {T T' : TypeId} (h : Blk w b cs T) (h' : Blk w b' cs' T') (ht : T ≠ T') : b ≠ b' := by
  intro e; subst e
  have := h.h.symm.trans h'.h
  simp at this
  exact ht this.2
theorem Blk.inj {w : World} {b : Nat} {cs cs' : List Value} {T T' : TypeId} (h : Blk w b cs T) (h' : Blk w b cs' T') : cs = cs' ∧ T = T' := by
  have := h.h.symm.trans h'.h
  simpa using this
theorem Blk.cell {w : World} {b : Nat} {cs : List Value} {T : TypeId} (h : Blk w b cs T) (o : Nat) : w.cell? ⟨b, o, none⟩ = cs[o]? := by simp [World.cell?, h.h]
theorem Blk.frozen {w : World} {b : Nat} {cs : List Value} {T : TypeId} (h : Blk w b cs T) (o : Nat) : w.frozen? ⟨b, o, none⟩ = false := by
  simp [World.frozen?, h.h]
theorem Blk.shape {w : World} {b : Nat} {cs : List Value} {T : TypeId} (h : Blk w b cs T) : w.shape? b = some (T, cs.length) := by simp [World.shape?, h.h]

section
variable {P : Program} {w : World}

/-! ### steps -/
theorem Ret.mono {f : FuncId} {args : List Value} {R K : Value → World → Prop} (h : Ret P f args w R) (k : ∀ v w', R v w' → K v w') : Ret P f args w K :=
  ⟨h.out.mono fun _ _ ⟨v, he, hr⟩ => ⟨v, he, k _ _ hr⟩⟩

theorem xnew {cs : List Value} {t : TypeId} {K : Addr → World → Prop} (k : ∀ b w1, b = w.heap.size → Blk w1 b cs t → w1.heap.size = b + 1 → Ext No w w1 → K ⟨b, 0, none⟩ w1) : XNew w cs t K :=
  ⟨k _ _ rfl ⟨by show (w.heap.push _)[w.heap.size]? = _; simp⟩ (by simp) ⟨rfl, rfl, rfl, by simp, fun b hb _ => by
    show (w.heap.push _)[b]? = _
    rw [Array.getElem?_push, if_neg (by omega)]⟩⟩

theorem Blk.ld {b o : Nat} {cs : List Value} {T : TypeId} {v : Value} {K : Value → Prop} (h : Blk w b cs T) (hv : cs[o]? = some v) (k : K v) : XLd w ⟨b, o, none⟩ K :=
  ⟨v, by rw [h.cell, hv], k⟩
/-- a whole struct -/
theorem Blk.ldN {b o n : Nat} {cs : List Value} {T : TypeId} {K : Value → Prop} (h : Blk w b cs T) (hn : o + n ≤ cs.length) (k : K (.agg ((cs.drop o).take n).toArray)) : XLdN w ⟨b, o, none⟩ n K := by
  refine ⟨_, by simp; omega, fun i hi => ?_, k⟩
  rw [show (⟨b, o, none⟩ : Addr).add i = ⟨b, o + i, none⟩ from Addr.add_lit b o i, h.cell]
  simp [List.getElem?_take, hi, List.getElem?_drop]
theorem Blk.ldA {b : Nat} {cs : List Value} {T : TypeId} {n : Nat} {K : Value → Prop} (h : Blk w b cs T) (hn : cs.length = n) (k : K (.agg cs.toArray)) : XLdN w ⟨b, 0, none⟩ n K := by
  subst hn
  refine h.ldN (by simp) ?_
  simpa using k

theorem setCell_blk {b o : Nat} {cs : List Value} {T : TypeId} {v : Value} (h : Blk w b cs T) : Blk (w.setCell ⟨b, o, none⟩ v) b (cs.set o v) T := by
  refine ⟨?_⟩
  have := h.h
  simp [World.setCell, Array.getElem?_modify, this]
theorem setCell_ext {b o : Nat} {v : Value} : Ext (· = b) w (w.setCell ⟨b, o, none⟩ v) :=
  ⟨rfl, rfl, rfl, by simp, fun c hc hx => by
    show (w.heap.modify b _)[c]? = _
    rw [Array.getElem?_modify, if_neg (Ne.symm hx)]⟩
theorem Blk.st {b o : Nat} {cs : List Value} {T : TypeId} {v : Value} {K : World → Prop} (h : Blk w b cs T) (ho : o < cs.length) (hv : v.oneCell' = true)
    (k : ∀ w1, Blk w1 b (cs.set o v) T → w1.heap.size = w.heap.size → Ext (· = b) w w1 → K w1) : XSt w ⟨b, o, none⟩ v K :=
  ⟨⟨cs[o], by rw [h.cell]; simp [ho]⟩, h.frozen o, hv, k _ (setCell_blk h) (by simp) setCell_ext⟩

theorem xi {n r : Int} {K : Int → Prop} (h : n = r) (k : K r) : XI n K := ⟨h ▸ k⟩
theorem xi0 {n : Int} {K : Int → Prop} (k : K n) : XI n K := ⟨k⟩
theorem wrapI {x : Int} (h : -9223372036854775808 ≤ x ∧ x ≤ 9223372036854775807) : IntKind.i64.wrap x = x := IntWalk.i64_in x h
theorem xix {i : Int} {n : Nat} {K : Nat → Prop} (m : Nat) (hi : i = (m : Int)) (hm : m < n) (k : K m) : XIx i n K := ⟨m, hi, hm, k⟩

theorem xif {b : Bool} {A B : Prop} (ha : b = true → A) (hb : b = false → B) : xIf (.bool b) A B := by
  cases b
  · exact hb rfl
  · exact ha rfl
theorem xifT {b : Bool} {A B : Prop} (h : b = true) (ha : A) : xIf (.bool b) A B := by subst h; exact ha
theorem xifF {b : Bool} {A B : Prop} (h : b = false) (hb : B) : xIf (.bool b) A B := by subst h; exact hb
/-- by what a test says -/
theorem xifD {p : Prop} [Decidable p] {A B : Prop} (ha : p → A) (hb : ¬ p → B) : xIf (.bool (decide p)) A B :=
  xif (fun h => ha (of_decide_eq_true h)) fun h => hb (of_decide_eq_false h)
theorem xifE {a b : Int} {A B : Prop} (ha : a = b → A) (hb : a ≠ b → B) : xIf (.bool (a == b)) A B :=
  xif (fun h => ha (by simpa using h)) fun h => hb (by simpa using h)
theorem xifN {a b : Int} {A B : Prop} (ha : a ≠ b → A) (hb : a = b → B) : xIf (.bool (a != b)) A B :=
  xif (fun h => ha (by simpa using h)) fun h => hb (by simpa using h)

theorem xjd {paths : (List Value → World → Prop) → Prop} {rest : List Value → (Nat → Value) → World → Prop} (h : paths fun vs w => ∀ g, rest vs g w) : XJ paths rest :=
  ⟨_, h, fun vs g w hj => hj g⟩
theorem xj {paths : (List Value → World → Prop) → Prop} {rest : List Value → (Nat → Value) → World → Prop} (J : List Value → World → Prop) (hp : paths J) (hr : ∀ vs g w, J vs w → rest vs g w) : XJ paths rest :=
  ⟨J, hp, hr⟩
theorem xloop {init : List Value} {body : (Nat → List Value → World → Prop) → Nat → List Value → (Nat → Value) → World → Prop} (I : Nat → List Value → World → Prop) (n : Nat) (h0 : I n init w)
    (hr : ∀ n vs g w', I n vs w' → body I n vs g w') : XLoop init w body := ⟨I, ⟨n, h0⟩, hr⟩
theorem xnext {I : Nat → List Value → World → Prop} {n : Nat} {vs : List Value} (m : Nat) (hm : m < n) (h : I m vs w) : XNext I n vs w := ⟨m, hm, h⟩

/-- a slice's bounds -/
theorem xcut {len cap : Nat} {lo hi mx : Option Value} {K : Nat → Nat → Nat → Prop} (l h m : Nat) (hm : match mx with | some (.int _ i) => i = (m : Int) ∧ m ≤ cap | none => m = cap | _ => False)
    (hh : match hi with | some (.int _ i) => i = (h : Int) ∧ h ≤ m | none => h = len ∧ mx = none | _ => False)
    (hl : match lo with | some (.int _ i) => i = (l : Int) ∧ l ≤ h | none => l = 0 | _ => False) (k : K l h m) : XCut len cap lo hi mx K := ⟨l, h, m, hm, hh, hl, k⟩
/-- x[l:] -/
theorem xcutL {len cap : Nat} {kd : IntKind} {i : Int} {K : Nat → Nat → Nat → Prop} (l : Nat) (hi : i = (l : Int)) (hl : l ≤ len) (k : K l len cap) : XCut len cap (some (.int kd i)) none none K :=
  xcut l len cap rfl ⟨rfl, rfl⟩ ⟨hi, hl⟩ k
/-- x[:h] -/
theorem xcutH {len cap : Nat} {kd : IntKind} {i : Int} {K : Nat → Nat → Nat → Prop} (h : Nat) (hi : i = (h : Int)) (hh : h ≤ cap) (k : K 0 h cap) : XCut len cap none (some (.int kd i)) none K :=
  xcut 0 h cap rfl ⟨hi, hh⟩ rfl k
/-- x[l:h] -/
theorem xcutB {len cap : Nat} {kd kd' : IntKind} {i j : Int} {K : Nat → Nat → Nat → Prop} (l h : Nat) (hi : i = (l : Int)) (hj : j = (h : Int)) (hl : l ≤ h) (hh : h ≤ cap) (k : K l h cap) :
    XCut len cap (some (.int kd i)) (some (.int kd' j)) none K := xcut l h cap rfl ⟨hj, hh⟩ ⟨hi, hl⟩ k

/-! ### addresses held against each other -/
theorem sameAddr_block {b o o' : Nat} : (sameAddr ⟨b, o, none⟩ ⟨b, o', none⟩).run P w = .ok (decide (o = o')) w := by
  have : ((⟨b, o, none⟩ : Addr) == (⟨b, o', none⟩ : Addr)) = decide (o = o') := by
    by_cases h : o = o' <;> simp [h]
  simp [sameAddr, this]
theorem stringish_no {b o : Nat} {cs : List Value} {T : TypeId} (h : Blk w b cs T) : (stringish ⟨b, o, none⟩).run P w = .ok false w := by
  simp [stringish, h.frozen, h.shape]
theorem noView_ok {b o : Nat} {cs : List Value} {T : TypeId} (h : Blk w b cs T) : (noView ⟨b, o, none⟩).run P w = .ok () w := by
  simp [noView, viewAt, h.shape]
theorem sameAddr_ne {b b' o o' : Nat} {cs cs' : List Value} {T T' : TypeId} (h : Blk w b cs T) (h' : Blk w b' cs' T') (hne : b ≠ b') :
    (sameAddr ⟨b, o, none⟩ ⟨b', o', none⟩).run P w = .ok false w := by
  simp [sameAddr, hne, h.frozen, h'.frozen, noView_ok h, noView_ok h', mayBeOne, stringish_no h, stringish_no h']
theorem xsame {a b : Addr} {t : Bool} {K : Bool → Prop} (h : (sameAddr a b).run P w = .ok t w) (k : K t) : XSame P w a b K := ⟨t, h, k⟩
end
end Go.Proofs.YtbleadagnpckbaaGreatDoor.X
