/-  slices.BinarySearch, and the row of few things.  -/
import Derived.Test.YtbfnagdpanfphaaGreatDoorKeys
section
section
namespace Go.Proofs.YtbfnagdpanfphaaGreatDoor
open Go Go.RowKit X
set_option linter.unusedSimpArgs false
set_option linter.unusedVariables false

theorem wrapU64 {x : Int} (h : 0 ≤ x ∧ x < 18446744073709551616) : IntKind.u64.wrap x = x := by
  simp only [IntKind.wrap, IntKind.bits, IntKind.signed]
  simp
  omega
theorem wrapU8 {x : Int} (h : 0 ≤ x ∧ x < 256) : IntKind.u8.wrap x = x := by
  simp only [IntKind.wrap, IntKind.bits, IntKind.signed]
  simp
  omega
theorem wrapU16 {x : Int} (h : 0 ≤ x ∧ x < 65536) : IntKind.u16.wrap x = x := by
  simp only [IntKind.wrap, IntKind.bits, IntKind.signed]
  simp
  omega
theorem half {n : Nat} : ((n : Int).fdiv (2 ^ min (Int.toNat 1) IntKind.u64.bits)) = ((n / 2 : Nat) : Int) := by
  have : (2 : Int) ^ min (Int.toNat 1) IntKind.u64.bits = 2 := by decide
  rw [this, Int.fdiv_eq_ediv_of_nonneg _ (by omega)]
  omega

/-- where a byte stands among bytes that rise, or would stand -/
structure At (bs : List UInt8) (b : UInt8) (i : Nat) : Prop where
  le : i ≤ bs.length
  lo : ∀ j c, j < i → bs[j]? = some c → c.toNat < b.toNat
  hi : ∀ j c, i ≤ j → bs[j]? = some c → b.toNat ≤ c.toNat

theorem X.Sl.rdb {w : World} {T : Nat → TypeId → Prop} {v : Value} {bs : List UInt8} {K : Value → Prop} {kd : IntKind} {i : Int} (h : Sl w T v 1 bs.length (bs.map bv)) (m : Nat) (hm : m < bs.length) (hi : i = (m : Int)) (k : K (bv (bs[m]))) :
    xIxS v (.int kd i) 1 fun u => xAt u fun a => XLd w a K := Sl.rd1 h m hi hm (by simp [hm]) k
/-! ### the row -/
def rowCells (room : Nat) (l : List (UInt8 × Addr)) : List Value :=
  .int .i64 room :: .int .i64 l.length :: ((l.map fun p => bv p.1) ++ List.replicate (16 - l.length) (bv 0) ++ ((l.map fun p => .pointer (some p.2)) ++ List.replicate (16 - l.length) (.pointer none)))
/-- what stands in a row by a byte -/
def lkp (l : List (UInt8 × Addr)) (b : UInt8) : Option Addr := (l.find? fun p => p.1 == b).map (·.2)
structure Row (w : World) (rb room : Nat) (l : List (UInt8 × Addr)) : Prop where
  blk : Blk w rb (rowCells room l) T_small_Row
  rise : Rise (l.map (·.1))
  le : l.length ≤ room
  top : room ≤ 16
  pos : 0 < room
theorem Row.ext {X : Nat → Prop} {w w' : World} {rb room : Nat} {l : List (UInt8 × Addr)} (h : Row w rb room l) (e : Ext X w w') (hx : ¬ X rb) : Row w' rb room l := ⟨h.blk.ext e hx, h.rise, h.le, h.top, h.pos⟩
theorem rowCells_length {room : Nat} {l : List (UInt8 × Addr)} (h : l.length ≤ 16) : (rowCells room l).length = 34 := by simp [rowCells]; omega
theorem rowCells_b {room : Nat} {l : List (UInt8 × Addr)} {i : Nat} (h : i < l.length) : (rowCells room l)[2 + i]? = some (bv l[i].1) := by
  have e : 2 + i = i + 1 + 1 := by omega
  rw [e, rowCells, List.getElem?_cons_succ, List.getElem?_cons_succ, List.getElem?_append_left (by simp; omega), List.getElem?_append_left (by simp; omega)]
  simp [h]
theorem rowCells_x {room : Nat} {l : List (UInt8 × Addr)} {i : Nat} (hl : l.length ≤ 16) (h : i < l.length) : (rowCells room l)[18 + i]? = some (.pointer (some l[i].2)) := by
  have e : 18 + i = (16 + i) + 1 + 1 := by omega
  rw [e, rowCells, List.getElem?_cons_succ, List.getElem?_cons_succ, List.getElem?_append_right (by simp; omega), List.getElem?_append_left (by simp; omega)]
  have : 16 + i - (List.map (fun p => bv p.1) l ++ List.replicate (16 - l.length) (bv 0)).length = i := by simp; omega
  rw [this]
  simp [h]
/-- the cells of a block as a slice -/
theorem X.Blk.sl {w : World} {b o n cap : Nat} {cs : List Value} {T : TypeId} (h : Blk w b cs T) (hc : o + cap ≤ cs.length) (hn : n ≤ cap) : Sl w (tyQ T) (.slice (some ⟨b, o, none⟩) n cap) 1 n ((cs.drop o).take n) :=
  ⟨_, cap, rfl, by simp; omega, hn, .inr ⟨b, o, _, T, (0, 0), rfl, rfl, h.h, by simpa using hc, fun i hi => by
    simp [List.getElem?_take, show i < n by omega, List.getElem?_drop]⟩⟩
theorem X.Blk.sln {w : World} {b n sz : Nat} {cs : List Value} {T : TypeId} (h : Blk w b cs T) (hl : cs.length = n * sz) : Sl w (tyQ T) (.slice (some ⟨b, 0, none⟩) n n) sz n cs :=
  ⟨_, n, rfl, hl, Nat.le_refl _, .inr ⟨b, 0, _, T, (0, 0), rfl, rfl, h.h, by simp [hl], fun i hi => by simp⟩⟩
theorem lkp_none {l : List (UInt8 × Addr)} {b : UInt8} (h : b ∉ l.map (·.1)) : lkp l b = none := by
  unfold lkp
  rw [List.find?_eq_none.2]
  · rfl
  · intro p hp
    simp only [beq_iff_eq]
    intro e
    exact h (List.mem_map.2 ⟨p, hp, e⟩)
theorem lkp_at {l : List (UInt8 × Addr)} (hr : Rise (l.map (·.1))) {i : Nat} (hi : i < l.length) : lkp l l[i].1 = some l[i].2 := by
  unfold lkp
  have hn := hr.nodup
  rw [(List.find?_eq_some_iff_getElem (p := fun p => p.1 == l[i].1) (b := l[i])).2]
  · rfl
  · refine ⟨by simp, i, hi, rfl, fun j hj => ?_⟩
    simp only [Bool.not_eq_true', beq_eq_false_iff_ne]
    intro e
    have := (List.getElem_inj (i := j) (j := i) (h₀ := by simp; omega) (h₁ := by simpa using hi) hn).1 (by simpa using e)
    omega
theorem lkp_dom {l : List (UInt8 × Addr)} (hr : Rise (l.map (·.1))) : dom (lkp l) = l.map (·.1) := by
  refine dom_eq hr fun c => ?_
  constructor
  · intro h
    obtain ⟨i, hi, e⟩ := List.mem_iff_getElem.1 h
    simp only [List.length_map] at hi
    simp only [List.getElem_map] at e
    subst e
    rw [lkp_at hr hi]
    rfl
  · intro h
    by_cases hc : c ∈ l.map (·.1)
    · exact hc
    · rw [lkp_none hc] at h; cases h
theorem lkp_cnt {l : List (UInt8 × Addr)} (hr : Rise (l.map (·.1))) : cnt (lkp l) = l.length := by unfold cnt; rw [lkp_dom hr]; simp

section
variable {w : World} {rb room : Nat} {l : List (UInt8 × Addr)}
abbrev rp (rb : Nat) : Value := .pointer (some ⟨rb, 0, none⟩)
theorem Row.n (h : Row w rb room l) {K : Value → Prop} (k : K (.int .i64 l.length)) : XLd w ⟨rb, 1, none⟩ K := h.blk.ld rfl k
theorem Row.r (h : Row w rb room l) {K : Value → Prop} (k : K (.int .i64 room)) : XLd w ⟨rb, 0, none⟩ K := h.blk.ld rfl k
theorem Row.le16 (h : Row w rb room l) : l.length ≤ 16 := Nat.le_trans h.le h.top
theorem Row.bs (h : Row w rb room l) : Sl w (tyQ T_small_Row) (.slice (some ⟨rb, 2, none⟩) l.length 16) 1 (l.map (·.1)).length ((l.map (·.1)).map bv) := by
  have := h.blk.sl (o := 2) (n := l.length) (cap := 16) (by rw [rowCells_length h.le16]; omega) h.le16
  have e : ((rowCells room l).drop 2).take l.length = (l.map (·.1)).map bv := by
    rw [rowCells]
    simp only [List.drop_succ_cons, List.drop_zero, List.append_assoc]
    rw [List.take_append_of_le_length (by simp), List.take_of_length_le (by simp)]
    simp
  rw [e] at this
  simpa using this
end
end Go.Proofs.YtbfnagdpanfphaaGreatDoor
end
section
namespace Go.Proofs.YtbfnagdpanfphaaGreatDoor
open Go Go.RowKit X
set_option linter.unusedSimpArgs false
set_option linter.unusedVariables false

theorem splice {α : Type} {A B C ys : List α} {a : Nat} (ha : A.length = a) (hb : B.length = ys.length) : (A ++ B ++ C).take a ++ ys ++ (A ++ B ++ C).drop (a + ys.length) = A ++ ys ++ C := by
  subst ha
  rw [List.append_assoc A B C, List.take_left, ← List.append_assoc A B C, ← hb, ← List.length_append, List.drop_left]
theorem set_mid {α : Type} (A : List α) (x y : α) (C : List α) : (A ++ x :: C).set A.length y = A ++ y :: C := by
  induction A with
  | nil => rfl
  | cons a A ih => simp [ih]
theorem set_mid' {α : Type} {A : List α} {x y : α} {C : List α} {i : Nat} (h : A.length = i) : (A ++ x :: C).set i y = A ++ y :: C := by subst h; exact set_mid A x y C

theorem At.mem {bs : List UInt8} {b : UInt8} {i : Nat} (h : At bs b i) (hr : Rise bs) : b ∈ bs ↔ bs[i]? = some b := by
  constructor
  · intro hb
    obtain ⟨j, hj, e⟩ := List.mem_iff_getElem.1 hb
    have hj' : bs[j]? = some b := by rw [List.getElem?_eq_getElem hj, e]
    rcases Nat.lt_trichotomy j i with h1 | h1 | h1
    · have := h.lo j b h1 hj'; omega
    · subst h1; exact hj'
    · have h2 := h.hi i bs[i] (Nat.le_refl _) (List.getElem?_eq_getElem (by omega))
      have h3 := List.pairwise_iff_getElem.1 hr i j (by omega) hj h1
      rw [e] at h3
      omega
  · intro hb
    exact List.mem_of_getElem? hb
theorem At.find {bs : List UInt8} {b : UInt8} {i : Nat} (h : At bs b i) : bs.find? (fun c => decide (b.toNat ≤ c.toNat)) = bs[i]? := by
  have e : bs = bs.take i ++ bs.drop i := (List.take_append_drop i bs).symm
  conv => lhs; rw [e]
  rw [List.find?_append, List.find?_eq_none.2]
  · show (bs.drop i).find? _ = _
    cases hd : bs.drop i with
    | nil =>
      have : bs.length ≤ i := by simpa using hd
      rw [List.getElem?_eq_none this]; rfl
    | cons x r =>
      have hx : bs[i]? = some x := by
        have := congrArg (·[0]?) hd
        simpa using this
      have := h.hi i x (Nat.le_refl _) hx
      rw [hx, List.find?_cons_of_pos]
      simpa using this
  · intro c hc
    obtain ⟨j, hj, e⟩ := List.mem_iff_getElem.1 hc
    simp only [List.length_take] at hj
    simp only [List.getElem_take] at e
    have := h.lo j c (by omega) (by rw [List.getElem?_eq_getElem (by omega), e])
    simp only [decide_eq_true_eq]
    omega
theorem bv_of {n : Nat} (h : n < 256) : Value.int .u8 (n : Int) = bv (UInt8.ofNat n) := by
  congr 1
  have : (UInt8.ofNat n).toNat = n := by simp; omega
  rw [this]
theorem ofNat_toNat {n : Nat} (h : n < 256) : (UInt8.ofNat n).toNat = n := by simp; omega

/-- what 'Next' answers -/
def nextV (m : UInt8 → Option Addr) (i : Nat) : Value :=
  match nextB m i with
  | some c => .tuple #[bv c, .pointer (m c), .bool true]
  | none => .tuple #[.int .u8 0, .pointer none, .bool false]
/-- what 'Get' answers -/
def getV (m : UInt8 → Option Addr) (b : UInt8) : Value := .tuple #[.pointer (m b), .bool (m b).isSome]

section
variable {w : World} {rb room : Nat} {l : List (UInt8 × Addr)}
theorem Row.drew (h : Row w rb room l) : Row w.drew rb room l := ⟨h.blk.drew, h.rise, h.le, h.top, h.pos⟩
theorem Row.x (h : Row w rb room l) {K : Value → Prop} (i : Nat) (hi : i < l.length) (k : K (.pointer (some l[i].2))) : XLd w ⟨rb, 18 + i, none⟩ K := h.blk.ld (rowCells_x h.le16 hi) k
theorem Row.b (h : Row w rb room l) {K : Value → Prop} (i : Nat) (hi : i < l.length) (k : K (bv l[i].1)) : XLd w ⟨rb, 2 + i, none⟩ K := h.blk.ld (rowCells_b hi) k
/-- an array's element -/
theorem xixA {b o n : Nat} {kd : IntKind} {i : Int} {K : Value → Prop} (m : Nat) (hi : i = (m : Int)) (hm : m < n) (k : K (.pointer (some ⟨b, o + m, none⟩))) : xIxA (.pointer (some ⟨b, o, none⟩)) (.int kd i) n 1 K := by
  refine ⟨m, hi, hm, ?_⟩
  simp only [Addr.add_lit, Nat.mul_one]
  exact k

end
end Go.Proofs.YtbfnagdpanfphaaGreatDoor
end
section
namespace Go.Proofs.YtbfnagdpanfphaaGreatDoor
open Go Go.RowKit X
set_option linter.unusedSimpArgs false
set_option linter.unusedVariables false

theorem X.Ext.undrew {X : Nat → Prop} {w w' : World} (h : Ext X w.drew w') : Ext X w w' := ⟨h.os, h.tape, h.output, h.size, h.same⟩
/-- an array's part, as a slice -/
theorem cut_lo {b o n : Nat} {kd : IntKind} {i : Int} {K : Value → Prop} (l : Nat) (hi : i = (l : Int)) (hl : l ≤ n) (k : ∀ o', (l < n → o' = o + l) → o' ≤ o + l → K (.slice (some ⟨b, o', none⟩) (n - l) (n - l))) : xCutA n 1 (.pointer (some ⟨b, o, none⟩)) (some (.int kd i)) none none K := by
  refine xcutL l hi hl ?_
  show K (.slice (some (if n = l then ⟨b, o, none⟩ else (⟨b, o, none⟩ : Addr).add (l * 1))) (n - l) (n - l))
  by_cases e : n = l
  · rw [if_pos e]; exact k o (fun h => by omega) (by omega)
  · rw [if_neg e, Addr.add_lit, Nat.mul_one]; exact k _ (fun _ => rfl) (Nat.le_refl _)
theorem cut_b {b o n : Nat} {kd kd' : IntKind} {i j : Int} {K : Value → Prop} (l h : Nat) (hi : i = (l : Int)) (hj : j = (h : Int)) (hl : l ≤ h) (hh : h ≤ n) (k : ∀ o', (l < n → o' = o + l) → o' ≤ o + l → K (.slice (some ⟨b, o', none⟩) (h - l) (n - l))) :
    xCutA n 1 (.pointer (some ⟨b, o, none⟩)) (some (.int kd i)) (some (.int kd' j)) none K := by
  refine xcutB l h hi hj hl hh ?_
  show K (.slice (some (if n = l then ⟨b, o, none⟩ else (⟨b, o, none⟩ : Addr).add (l * 1))) (h - l) (n - l))
  by_cases e : n = l
  · rw [if_pos e]; exact k o (fun h => by omega) (by omega)
  · rw [if_neg e, Addr.add_lit, Nat.mul_one]; exact k _ (fun _ => rfl) (Nat.le_refl _)

section
variable {w : World} {rb room : Nat}
/-- copy within a block: the cells at s (n of them) to o -/
theorem copy_in {t u ty e T : TypeId} {bytes : Nat} {z : Value} {A B C ys : List Value} {o s n dl dc sc : Nat} {K : Value → World → Prop} (hi : EI P t e 1 bytes z) (hg : Blk w rb (A ++ B ++ C) T) (ho : n ≠ 0 → A.length = o) (ho2 : o + n ≤ (A ++ B ++ C).length) (hb : B.length = n)
    (hs : ((A ++ B ++ C).drop s).take n = ys) (hsl : s + sc ≤ (A ++ B ++ C).length) (hn : n ≤ sc) (hd : n ≤ dl) (h1 : ∀ v ∈ ys, v.oneCell' = true)
    (k : ∀ w', Blk w' rb (A ++ ys ++ C) T → w'.heap.size = w.heap.size → Ext (· = rb) w w' → K (.int .i64 (n : Nat)) w') :
    XRun P (Builtin.copy_ #[t, u] ty #[.slice (some ⟨rb, o, none⟩) dl dc, .slice (some ⟨rb, s, none⟩) n sc]) w K := by
  have hy : ys.length = n := by
    have := congrArg List.length hs
    simp only [List.length_take, List.length_drop] at this
    omega
  have hsl' := hg.sl (o := s) (n := n) (cap := sc) hsl hn
  rw [hs] at hsl'
  refine copy_row hi hg hsl' (by rw [Nat.min_eq_left hd]; exact ho2) h1 fun w' hw hz he => ?_
  rw [Nat.min_eq_left hd, List.take_of_length_le (l := ys) (by omega)] at hw
  rw [Nat.min_eq_left hd]
  refine k w' ?_ hz he
  by_cases hn0 : n = 0
  · subst hn0
    have h1 : ys = [] := List.eq_nil_of_length_eq_zero hy
    have h2 : B = [] := List.eq_nil_of_length_eq_zero hb
    subst h1; subst h2
    simpa using hw
  · have := splice (A := A) (B := B) (C := C) (ys := ys) (ho hn0) (by omega)
    rw [hy] at this
    rw [this] at hw
    exact hw
theorem lkp_append {p q : List (UInt8 × Addr)} {c : UInt8} : lkp (p ++ q) c = (lkp p c).or (lkp q c) := by
  unfold lkp
  rw [List.find?_append]
  cases List.find? (fun x => x.1 == c) p <;> rfl
theorem lkp_cons {b : UInt8} {x : Addr} {q : List (UInt8 × Addr)} {c : UInt8} : lkp ((b, x) :: q) c = if c = b then some x else lkp q c := by
  unfold lkp
  rw [List.find?_cons]
  by_cases h : b = c
  · subst h; simp
  · have : (b == c) = false := by simpa using h
    rw [if_neg (fun e => h e.symm)]
    simp [this]
/-- a row that has the byte at p.length -/
theorem row_mid {p q : List (UInt8 × Addr)} {b : UInt8} {x : Addr} : rowCells room (p ++ (b, x) :: q) =
    (.int .i64 room :: .int .i64 (p.length + q.length + 1 : Nat) :: (p.map fun p => bv p.1)) ++ bv b :: ((q.map fun p => bv p.1) ++ List.replicate (16 - (p.length + q.length + 1)) (bv 0) ++
      (p.map fun p => .pointer (some p.2)) ++ .pointer (some x) :: ((q.map fun p => .pointer (some p.2)) ++ List.replicate (16 - (p.length + q.length + 1)) (.pointer none))) := by
  have : (p ++ (b, x) :: q).length = p.length + q.length + 1 := by simp; omega
  unfold rowCells
  rw [this]
  simp [List.append_assoc]
theorem rise_lkp {p q : List (UInt8 × Addr)} {b : UInt8} {x : Addr} (hr : Rise ((p ++ (b, x) :: q).map (·.1))) : (∀ c ∈ p.map (·.1), c.toNat < b.toNat) ∧ (∀ c ∈ q.map (·.1), b.toNat < c.toNat) := by
  simp only [List.map_append, List.map_cons] at hr
  obtain ⟨h1, h2, h3⟩ := List.pairwise_append.1 hr
  exact ⟨fun c hc => h3 c hc b (by simp), fun c hc => (List.pairwise_cons.1 h2).1 c hc⟩
theorem lkp_here {p q : List (UInt8 × Addr)} {b : UInt8} {x : Addr} (hp : ∀ c ∈ p.map (·.1), c.toNat < b.toNat) {c : UInt8} : lkp (p ++ (b, x) :: q) c = if c = b then some x else (lkp (p ++ q) c) := by
  rw [lkp_append, lkp_cons, lkp_append]
  by_cases h : c = b
  · subst h
    rw [lkp_none (l := p) (b := c) (fun hc => by have := hp c hc; omega)]
    simp
  · simp [h]

end
end Go.Proofs.YtbfnagdpanfphaaGreatDoor
end
section
namespace Go.Proofs.YtbfnagdpanfphaaGreatDoor
open Go Go.RowKit X
set_option linter.unusedSimpArgs false
set_option linter.unusedVariables false

theorem snoc {α : Type} : ∀ (a : α) (l : List α), ∃ B r, a :: l = B ++ [r] ∧ B.length = l.length
  | a, [] => ⟨[], a, rfl, rfl⟩
  | a, x :: l => by
    obtain ⟨B, r, h1, h2⟩ := snoc x l
    exact ⟨a :: B, r, by rw [h1]; rfl, by simp [h2]⟩
section
variable {w : World} {rb room : Nat}
theorem rise_drop {p q : List (UInt8 × Addr)} {b : UInt8} {x : Addr} (hr : Rise ((p ++ (b, x) :: q).map (·.1))) : Rise ((p ++ q).map (·.1)) := by
  simp only [List.map_append, List.map_cons] at hr ⊢
  obtain ⟨h1, h2, h3⟩ := List.pairwise_append.1 hr
  exact List.pairwise_append.2 ⟨h1, (List.pairwise_cons.1 h2).2, fun a ha c hc => h3 a ha c (by simp [hc])⟩
theorem lkp_gone {p q : List (UInt8 × Addr)} {b : UInt8} {x : Addr} (hr : Rise ((p ++ (b, x) :: q).map (·.1))) : lkp (p ++ q) = upd (lkp (p ++ (b, x) :: q)) b none := by
  obtain ⟨h1, h2⟩ := rise_lkp hr
  funext c
  unfold upd
  rw [lkp_here h1]
  by_cases h : c = b
  · subst h
    rw [if_pos rfl]
    refine lkp_none fun hc => ?_
    rw [List.map_append] at hc
    rcases List.mem_append.1 hc with hc | hc
    · have := h1 c hc; omega
    · have := h2 c hc; omega
  · rw [if_neg h, if_neg h]

end
end Go.Proofs.YtbfnagdpanfphaaGreatDoor
end
end
section
section
namespace Go.Proofs.YtbfnagdpanfphaaGreatDoor
open Go Go.RowKit X
set_option linter.unusedSimpArgs false
set_option linter.unusedVariables false

/-- the block of a slice -/
def SX (v : Value) : Nat → Prop := fun b => v.ownBlock = some b
theorem X.Own.st {w : World} {B : Nat} {e : TypeId} {v y : Value} {n : Nat} {xs : List Value} {kd : IntKind} {i : Int} {K : World → Prop} (h : Own w B e 1 v n xs) (m : Nat) (hi : i = (m : Int)) (hm : m < n) (hy : y.oneCell' = true)
    (k : ∀ w1, Own w1 B e 1 v n (xs.set m y) → w1.heap.size = w.heap.size → Ext (SX v) w w1 → K w1) : xIxS v (.int kd i) 1 fun u => xAt u fun a => XSt w a y K := by
  obtain ⟨hl, hh⟩ := h
  rcases hh with ⟨rfl, rfl⟩ | ⟨g, cap, cur, rfl, hb, hg, hn, hc, hs, ht⟩
  · omega
  · rw [Nat.mul_one] at hs ht hl
    have hblk : Blk w g cur.toList e := ⟨by simpa using hg⟩
    refine ⟨m, hi, hm, ?_⟩
    simp only [Addr.add_lit, Nat.mul_one, Nat.zero_add]
    refine hblk.st (by simp; omega) hy fun w1 h1 hz he => k w1 ⟨by simpa using hl, .inr ⟨g, cap, (cur.toList.set m y).toArray, rfl, hb, h1.h, hn, hc, by simpa using hs, ?_⟩⟩ hz (he.mono fun c _ h => by subst h; rfl)
    simp only [Nat.mul_one]
    rw [List.take_set, ht]
theorem X.Own.lt {w : World} {B : Nat} {e : TypeId} {sz : Nat} {v : Value} {n : Nat} {xs : List Value} (h : Own w B e sz v n xs) {b : Nat} (hb : SX v b) : b < w.heap.size := (h.ge hb).2
/-- the block of a slice holds things of its type -/
theorem X.Own.blk {w : World} {B : Nat} {e : TypeId} {sz : Nat} {v : Value} {n : Nat} {xs : List Value} (h : Own w B e sz v n xs) {b : Nat} (hb : SX v b) : ∃ cs, Blk w b cs e := by
  rcases h.2 with ⟨rfl, -⟩ | ⟨g, cap, cur, rfl, h1, h2, _⟩
  · cases hb
  · simp only [SX, Value.ownBlock, Option.some.injEq] at hb
    subst hb
    exact ⟨cur.toList, ⟨by simpa using h2⟩⟩
theorem X.Own.ne {w : World} {B b : Nat} {e T : TypeId} {sz : Nat} {v : Value} {n : Nat} {xs cs : List Value} (h : Own w B e sz v n xs) (hb : Blk w b cs T) (ht : T ≠ e) : ¬ SX v b := fun hs => by
  obtain ⟨cs', h'⟩ := h.blk hs
  exact ht (hb.inj h').2
theorem X.Own.ne2 {w : World} {B B' b : Nat} {e T : TypeId} {sz sz' : Nat} {v v' : Value} {n n' : Nat} {xs xs' : List Value} (h : Own w B e sz v n xs) (h' : Own w B' T sz' v' n' xs') (hb : SX v' b) (ht : T ≠ e) : ¬ SX v b := by
  obtain ⟨cs, hc⟩ := h'.blk hb
  exact h.ne hc ht
/-- fewer of them -/
theorem X.Own.cut {w : World} {B : Nat} {e : TypeId} {v : Value} {n : Nat} {xs : List Value} {kd : IntKind} {i : Int} {K : Value → Prop} (h : Own w B e 1 v n xs) (m : Nat) (hi : i = (m : Int)) (hm : m ≤ n) (k : ∀ v', Own w B e 1 v' m (xs.take m) → v'.ownBlock = v.ownBlock → K v') : xCutS 1 v none (some (.int kd i)) none K := by
  obtain ⟨hl, hh⟩ := h
  rw [Nat.mul_one] at hl
  rcases hh with ⟨rfl, rfl⟩ | ⟨g, cap, cur, rfl, hb, hg, hn, hc, hs, ht⟩
  · have : m = 0 := by omega
    subst this
    refine xcutH 0 hi (by omega) (k _ ⟨rfl, .inl ⟨rfl, rfl⟩⟩ rfl)
  · refine xcutH m hi (by omega) ?_
    have : cutAddr (some (⟨g, 0, none⟩ : Addr)) 0 cap 1 = some ⟨g, 0, none⟩ := by
      unfold cutAddr
      split
      · rfl
      · simp [Addr.add_lit]
    rw [this]
    refine k _ ⟨by simp; omega, .inr ⟨g, cap, cur, rfl, hb, hg, by omega, hc, hs, ?_⟩⟩ rfl
    rw [Nat.mul_one] at ht ⊢
    rw [← ht, List.take_take, Nat.min_eq_left hm]

def atCells (a : UInt8 → Nat) : List Value := byt.map fun c => .int .u16 (a c)
def brdCells (room n : Nat) (a : UInt8 → Nat) (xv fv : Value) : List Value := .int .i64 room :: .int .i64 n :: (atCells a ++ [xv, fv])
theorem atCells_length (a : UInt8 → Nat) : (atCells a).length = 256 := by simp [atCells, byt]
theorem brdCells_length (room n : Nat) (a : UInt8 → Nat) (xv fv : Value) : (brdCells room n a xv fv).length = 260 := by simp [brdCells, atCells_length]
theorem byt_at (c : UInt8) : byt[c.toNat]? = some c := by
  unfold byt
  rw [List.getElem?_map, List.getElem?_range (c.toNat_lt)]
  simp
theorem atCells_at (a : UInt8 → Nat) (c : UInt8) : (atCells a)[c.toNat]? = some (.int .u16 (a c)) := by
  unfold atCells
  rw [List.getElem?_map, byt_at]
  rfl
theorem brd_at {room n : Nat} {a : UInt8 → Nat} {xv fv : Value} (c : UInt8) : (brdCells room n a xv fv)[2 + c.toNat]? = some (.int .u16 (a c)) := by
  have e : 2 + c.toNat = c.toNat + 1 + 1 := by omega
  have := c.toNat_lt
  rw [e, brdCells, List.getElem?_cons_succ, List.getElem?_cons_succ, List.getElem?_append_left (by rw [atCells_length]; omega), atCells_at]
theorem brd_x {room n : Nat} {a : UInt8 → Nat} {xv fv : Value} : (brdCells room n a xv fv)[258]? = some xv := by
  rw [brdCells, List.getElem?_cons_succ, List.getElem?_cons_succ, List.getElem?_append_right (by rw [atCells_length]; omega), atCells_length]
  rfl
theorem brd_f {room n : Nat} {a : UInt8 → Nat} {xv fv : Value} : (brdCells room n a xv fv)[259]? = some fv := by
  rw [brdCells, List.getElem?_cons_succ, List.getElem?_cons_succ, List.getElem?_append_right (by rw [atCells_length]; omega), atCells_length]
  rfl
def updN (a : UInt8 → Nat) (b : UInt8) (n : Nat) : UInt8 → Nat := fun c => if c = b then n else a c
theorem atCells_set (a : UInt8 → Nat) (b : UInt8) (n : Nat) : (atCells a).set b.toNat (.int .u16 n) = atCells (updN a b n) := by
  apply List.ext_getElem?
  intro i
  rw [List.getElem?_set]
  rcases Nat.lt_or_ge i 256 with h | h
  · obtain ⟨c, rfl⟩ : ∃ c : UInt8, c.toNat = i := ⟨UInt8.ofNat i, ofNat_toNat h⟩
    rw [atCells_at, atCells_at]
    unfold updN
    by_cases e : b = c
    · subst e
      rw [if_pos rfl, if_pos rfl, if_pos (by rw [atCells_length]; exact h)]
    · rw [if_neg (fun h => e (UInt8.toNat_inj.1 h)), if_neg (fun h => e h.symm)]
  · rw [if_neg (by have := b.toNat_lt; omega), List.getElem?_eq_none (by rw [atCells_length]; omega), List.getElem?_eq_none (by rw [atCells_length]; omega)]
theorem brd_setA {room n : Nat} {a : UInt8 → Nat} {xv fv : Value} (b : UInt8) (k : Nat) : (brdCells room n a xv fv).set (2 + b.toNat) (.int .u16 k) = brdCells room n (updN a b k) xv fv := by
  have e : 2 + b.toNat = b.toNat + 1 + 1 := by omega
  have := b.toNat_lt
  rw [e, brdCells, List.set_cons_succ, List.set_cons_succ, List.set_append_left _ _ (by rw [atCells_length]; omega), atCells_set]
  rfl
theorem brd_setN {room n k : Nat} {a : UInt8 → Nat} {xv fv : Value} : (brdCells room n a xv fv).set 1 (.int .i64 k) = brdCells room k a xv fv := rfl
theorem brd_setX {room n : Nat} {a : UInt8 → Nat} {xv fv x : Value} : (brdCells room n a xv fv).set 258 x = brdCells room n a x fv := by
  rw [brdCells, List.set_cons_succ, List.set_cons_succ, List.set_append_right _ _ (by rw [atCells_length]; omega), atCells_length]
  rfl
theorem brd_setF {room n : Nat} {a : UInt8 → Nat} {xv fv x : Value} : (brdCells room n a xv fv).set 259 x = brdCells room n a xv x := by
  rw [brdCells, List.set_cons_succ, List.set_cons_succ, List.set_append_right _ _ (by rw [atCells_length]; omega), atCells_length]
  rfl

/-- the board's cells, in memory -/
structure BrdM (w : World) (bb room n : Nat) (xv fv : Value) (a : UInt8 → Nat) (xs : List (Option Addr)) (fs : List Nat) : Prop where
  blk : Blk w bb (brdCells room n a xv fv) T_wide_Board
  xo : Own w 0 T_p_node_Node 1 xv xs.length (xs.map Value.pointer)
  fo : Own w 0 T_uint16 1 fv fs.length (fs.map fun n : Nat => .int .u16 (n : Int))
/-- what the cells mean -/
structure BrdI (room n : Nat) (a : UInt8 → Nat) (xs : List (Option Addr)) (fs : List Nat) (m : UInt8 → Option Addr) : Prop where
  nc : n = cnt m
  at0 : ∀ c, a c = 0 ↔ m c = none
  atx : ∀ c, a c ≠ 0 → xs[a c - 1]? = some (m c)
  inj : ∀ c d, a c ≠ 0 → a c = a d → c = d
  nod : fs.Nodup
  fr : ∀ f ∈ fs, 0 < f ∧ f ≤ xs.length ∧ ∀ c, a c ≠ f
  cn : xs.length = n + fs.length
  xle : xs.length ≤ 256
  le : n ≤ room
  top : room = 48 ∨ room = 256
/-- the blocks of a board -/
def BX (bb : Nat) (xv fv : Value) : Nat → Prop := fun b => b = bb ∨ SX xv b ∨ SX fv b
theorem BrdM.ext {X : Nat → Prop} {w w' : World} {bb room n : Nat} {xv fv : Value} {a : UInt8 → Nat} {xs : List (Option Addr)} {fs : List Nat} (h : BrdM w bb room n xv fv a xs fs) (e : Ext X w w') (hx : ∀ b, BX bb xv fv b → ¬ X b) : BrdM w' bb room n xv fv a xs fs :=
  ⟨h.blk.ext e (hx _ (.inl rfl)), h.xo.ext e fun b hb => hx _ (.inr (.inl hb)), h.fo.ext e fun b hb => hx _ (.inr (.inr hb))⟩
theorem BrdM.extN {w w' : World} {bb room n : Nat} {xv fv : Value} {a : UInt8 → Nat} {xs : List (Option Addr)} {fs : List Nat} (h : BrdM w bb room n xv fv a xs fs) (e : Ext No w w') : BrdM w' bb room n xv fv a xs fs := h.ext e fun _ _ h => h
theorem BrdM.drew {w : World} {bb room n : Nat} {xv fv : Value} {a : UInt8 → Nat} {xs : List (Option Addr)} {fs : List Nat} (h : BrdM w bb room n xv fv a xs fs) : BrdM w.drew bb room n xv fv a xs fs := ⟨h.blk.drew, h.xo.drew, h.fo.drew⟩

section
variable {w : World} {bb room n : Nat} {xv fv : Value} {a : UInt8 → Nat} {xs : List (Option Addr)} {fs : List Nat} {m : UInt8 → Option Addr}
theorem BrdM.at_ (h : BrdM w bb room n xv fv a xs fs) (c : UInt8) {K : Value → Prop} (k : K (.int .u16 (a c))) : XLd w ⟨bb, 2 + c.toNat, none⟩ K := h.blk.ld (brd_at c) k
theorem BrdM.x (h : BrdM w bb room n xv fv a xs fs) {K : Value → Prop} (k : K xv) : XLd w ⟨bb, 258, none⟩ K := h.blk.ld brd_x k
theorem BrdM.f (h : BrdM w bb room n xv fv a xs fs) {K : Value → Prop} (k : K fv) : XLd w ⟨bb, 259, none⟩ K := h.blk.ld brd_f k
theorem BrdM.n_ (h : BrdM w bb room n xv fv a xs fs) {K : Value → Prop} (k : K (.int .i64 n)) : XLd w ⟨bb, 1, none⟩ K := h.blk.ld rfl k
theorem BrdM.r (h : BrdM w bb room n xv fv a xs fs) {K : Value → Prop} (k : K (.int .i64 room)) : XLd w ⟨bb, 0, none⟩ K := h.blk.ld rfl k
theorem BrdI.pos (i : BrdI room n a xs fs m) : 0 < room := by rcases i.top with h | h <;> omega
theorem BrdI.at_le (i : BrdI room n a xs fs m) (c : UInt8) : a c ≤ xs.length := by
  by_cases h : a c = 0
  · omega
  · have := (List.getElem?_eq_some_iff.1 (i.atx c h)).1; omega
end
end Go.Proofs.YtbfnagdpanfphaaGreatDoor
end
section
namespace Go.Proofs.YtbfnagdpanfphaaGreatDoor
open Go Go.RowKit X
set_option linter.unusedSimpArgs false
set_option linter.unusedVariables false

theorem X.Own.one {w : World} {B : Nat} {e : TypeId} {sz : Nat} {v : Value} {n : Nat} {xs : List Value} (h : Own w B e sz v n xs) : v.oneCell' = true := by
  rcases h.2 with ⟨rfl, -⟩ | ⟨g, cap, cur, rfl, _⟩ <;> rfl
theorem X.Ext.toBX {w w' : World} {X : Nat → Prop} {bb : Nat} {xv fv : Value} (h : Ext X w w') (hx : ∀ b, X b → BX bb xv fv b) : Ext (BX bb xv fv) w w' := h.mono fun b _ hb => hx b hb
theorem updN_same (a : UInt8 → Nat) (b : UInt8) (k : Nat) : updN a b k b = k := by simp [updN]
theorem updN_other (a : UInt8 → Nat) {b c : UInt8} (k : Nat) (h : c ≠ b) : updN a b k c = a c := by simp [updN, h]

section
variable {w : World} {bb room n : Nat} {xv fv : Value} {a : UInt8 → Nat} {xs : List (Option Addr)} {fs : List Nat} {m : UInt8 → Option Addr}
theorem t_brd_p : T_wide_Board ≠ T_p_node_Node := by decide
theorem t_brd_u : T_wide_Board ≠ T_uint16 := by decide
theorem t_p_u : T_p_node_Node ≠ T_uint16 := by decide
/-- the board's own block is written -/
theorem BrdM.stB (h : BrdM w bb room n xv fv a xs fs) {o : Nat} {y : Value} {K : World → Prop} {n' : Nat} {a' : UInt8 → Nat} (ho : o < 260) (hy : y.oneCell' = true) (hs : (brdCells room n a xv fv).set o y = brdCells room n' a' xv fv)
    (k : ∀ w1, BrdM w1 bb room n' xv fv a' xs fs → w1.heap.size = w.heap.size → Ext (BX bb xv fv) w w1 → K w1) : XSt w ⟨bb, o, none⟩ y K :=
  h.blk.st (by rw [brdCells_length]; exact ho) hy fun w1 hb hz he => k w1 ⟨by rw [hs] at hb; exact hb, h.xo.ext he fun b hb' e => h.xo.ne h.blk t_brd_p (by rw [← show b = bb from e]; exact hb'), h.fo.ext he fun b hb' e => h.fo.ne h.blk t_brd_u (by rw [← show b = bb from e]; exact hb')⟩ hz (he.toBX fun b e => .inl e)
theorem BrdI.put (i : BrdI room n a xs fs m) {b : UInt8} (hb : a b ≠ 0) (x : Addr) : BrdI room n a (xs.set (a b - 1) (some x)) fs (upd m b (some x)) := by
  have hmb : (m b).isSome := by
    cases hm : m b with
    | none => exact absurd ((i.at0 b).2 hm) hb
    | some x => rfl
  refine ⟨?_, fun c => ?_, fun c hc => ?_, i.inj, i.nod, fun f hf => ?_, by rw [List.length_set]; exact i.cn, by rw [List.length_set]; exact i.xle, i.le, i.top⟩
  · have := cnt_upd m b (some x)
    simp [hmb] at this
    rw [this]; exact i.nc
  · by_cases e : c = b
    · subst e; rw [upd_same]; simp [hb]
    · rw [upd_other m _ e]; exact i.at0 c
  · by_cases e : c = b
    · subst e
      rw [upd_same, List.getElem?_set, if_pos rfl, if_pos (by have := i.at_le c; omega)]
    · rw [upd_other m _ e, List.getElem?_set, if_neg, i.atx c hc]
      intro h
      exact e (i.inj c b hc (by omega))
  · rw [List.length_set]; exact i.fr f hf
theorem BrdI.new (i : BrdI room n a xs fs m) {b : UInt8} (hb : a b = 0) (hlt : n < room) (x : Addr) {f : Nat} {xs' : List (Option Addr)} {fs' : List Nat} (hc : (fs = fs' ++ [f] ∧ xs' = xs) ∨ (fs = [] ∧ fs' = [] ∧ xs' = xs ++ [none] ∧ f = xs.length + 1)) :
    f ≠ 0 ∧ f ≤ xs'.length ∧ xs'.length ≤ 256 ∧ BrdI room (n + 1) (updN a b f) (xs'.set (f - 1) (some x)) fs' (upd m b (some x)) := by
  have hmb : m b = none := (i.at0 b).1 hb
  have h256 : xs'.length ≤ 256 := by
    rcases hc with ⟨-, rfl⟩ | ⟨rfl, rfl, rfl, rfl⟩
    · exact i.xle
    · have := i.cn; have := i.top; simp at *; omega
  have hf : f ≠ 0 ∧ f ≤ xs'.length ∧ (∀ c, a c ≠ f) ∧ fs'.Nodup ∧ (∀ g ∈ fs', g ≠ f ∧ 0 < g ∧ g ≤ xs'.length ∧ ∀ c, a c ≠ g) ∧ xs'.length = n + 1 + fs'.length ∧ (∀ c, a c ≠ 0 → xs'[a c - 1]? = some (m c)) := by
    rcases hc with ⟨rfl, rfl⟩ | ⟨rfl, rfl, rfl, rfl⟩
    · have h1 := i.fr f (by simp)
      have h2 := List.nodup_append.1 i.nod
      have h3 := i.cn
      refine ⟨by omega, h1.2.1, h1.2.2, h2.1, fun g hg => ⟨?_, i.fr g (by simp [hg])⟩, by simp at h3; omega, i.atx⟩
      exact h2.2.2 g hg f (by simp)
    · have h3 := i.cn
      refine ⟨by omega, by simp, fun c => by have := i.at_le c; omega, List.nodup_nil, by simp, by simp at h3 ⊢; omega, fun c hc => ?_⟩
      rw [List.getElem?_append_left (by have := i.at_le c; omega)]
      exact i.atx c hc
  obtain ⟨h1, h2, h3, h4, h5, h6, h7⟩ := hf
  refine ⟨h1, h2, h256, ?_, fun c => ?_, fun c hc' => ?_, fun c d hc' he => ?_, h4, fun g hg => ?_, by rw [List.length_set]; exact h6, by rw [List.length_set]; exact h256, by omega, i.top⟩
  · have := cnt_upd m b (some x)
    simp [hmb] at this
    rw [this, ← i.nc]
  · by_cases e : c = b
    · subst e; rw [upd_same, updN_same]; simp [h1]
    · rw [upd_other m _ e, updN_other a _ e]; exact i.at0 c
  · by_cases e : c = b
    · subst e
      rw [upd_same, updN_same, List.getElem?_set, if_pos rfl, if_pos (by omega)]
    · rw [updN_other a _ e] at hc' ⊢
      rw [upd_other m _ e, List.getElem?_set, if_neg, h7 c hc']
      intro h
      exact h3 c (by omega)
  · by_cases e : c = b
    · subst e
      by_cases e2 : d = c
      · exact e2.symm
      · rw [updN_same, updN_other a _ e2] at he
        exact absurd he.symm (h3 d)
    · by_cases e2 : d = b
      · subst e2
        rw [updN_same, updN_other a _ e] at he
        exact absurd he (h3 c)
      · rw [updN_other a _ e, updN_other a _ e2] at he
        rw [updN_other a _ e] at hc'
        exact i.inj c d hc' he
  · obtain ⟨g1, g2, g3, g4⟩ := h5 g hg
    refine ⟨g2, by rw [List.length_set]; exact g3, fun c => ?_⟩
    by_cases e : c = b
    · subst e; rw [updN_same]; exact fun h => g1 h.symm
    · rw [updN_other a _ e]; exact g4 c

/-- a thing of the board is written -/
theorem BrdM.stX (h : BrdM w bb room n xv fv a xs fs) {kd : IntKind} {i : Int} {y : Option Addr} {K : World → Prop} (k : Nat) (hi : i = (k : Int)) (hk : k < xs.length)
    (kk : ∀ w1, BrdM w1 bb room n xv fv a (xs.set k y) fs → w1.heap.size = w.heap.size → Ext (BX bb xv fv) w w1 → K w1) : xIxS xv (.int kd i) 1 fun u => xAt u fun a => XSt w a (.pointer y) K :=
  h.xo.st k hi hk rfl fun w1 hx hz he => kk w1 ⟨h.blk.ext he (h.xo.ne h.blk t_brd_p), by rw [List.length_set, List.map_set]; exact hx, h.fo.ext he fun b hb hb' => h.xo.ne2 h.fo hb (Ne.symm t_p_u) hb'⟩ hz (he.toBX fun b hb => .inr (.inl hb))
end
end Go.Proofs.YtbfnagdpanfphaaGreatDoor
end
section
namespace Go.Proofs.YtbfnagdpanfphaaGreatDoor
open Go Go.RowKit X
set_option linter.unusedSimpArgs false
set_option linter.unusedVariables false

section
variable {w : World} {bb room n : Nat} {xv fv : Value} {a : UInt8 → Nat} {xs : List (Option Addr)} {fs : List Nat} {m : UInt8 → Option Addr}
theorem BrdI.drop (i : BrdI room n a xs fs m) {b : UInt8} (hb : a b ≠ 0) : 0 < n ∧ BrdI room (n - 1) (updN a b 0) (xs.set (a b - 1) none) (fs ++ [a b]) (upd m b none) := by
  have hmb : (m b).isSome := by
    cases hm : m b with
    | none => exact absurd ((i.at0 b).2 hm) hb
    | some x => rfl
  have hpos : 0 < n := by rw [i.nc]; exact cnt_pos hmb
  have hle := i.at_le b
  have hcn := i.cn
  refine ⟨hpos, ?_, fun c => ?_, fun c hc => ?_, fun c d hc he => ?_, ?_, fun f hf => ?_, by simp; omega, by rw [List.length_set]; exact i.xle, by have := i.le; omega, i.top⟩
  · have := cnt_upd m b none
    simp [hmb] at this
    have := i.nc
    omega
  · by_cases e : c = b
    · subst e; rw [upd_same, updN_same]; simp
    · rw [upd_other m _ e, updN_other a _ e]; exact i.at0 c
  · by_cases e : c = b
    · subst e; rw [updN_same] at hc; exact absurd rfl hc
    · rw [updN_other a _ e] at hc ⊢
      rw [upd_other m _ e, List.getElem?_set, if_neg, i.atx c hc]
      intro h
      exact e (i.inj c b hc (by omega))
  · by_cases e : c = b
    · subst e; rw [updN_same] at hc; exact absurd rfl hc
    · rw [updN_other a _ e] at hc he
      by_cases e2 : d = b
      · subst e2; rw [updN_same] at he; exact absurd he hc
      · rw [updN_other a _ e2] at he
        exact i.inj c d hc he
  · refine List.nodup_append.2 ⟨i.nod, by simp, fun x hx y hy => ?_⟩
    simp only [List.mem_singleton] at hy
    subst hy
    exact fun e => (i.fr x hx).2.2 b e.symm
  · rw [List.length_set]
    rcases List.mem_append.1 hf with hf | hf
    · obtain ⟨g1, g2, g3⟩ := i.fr f hf
      refine ⟨g1, g2, fun c => ?_⟩
      by_cases e : c = b
      · subst e; rw [updN_same]; omega
      · rw [updN_other a _ e]; exact g3 c
    · simp only [List.mem_singleton] at hf
      subst hf
      refine ⟨by omega, hle, fun c => ?_⟩
      by_cases e : c = b
      · subst e; rw [updN_same]; omega
      · rw [updN_other a _ e]
        intro h
        exact e (i.inj c b (by omega) h)
set_option maxRecDepth 100000 in
theorem brd_zero (r : Nat) : brdCells r 0 (fun _ => 0) (.slice none 0 0) (.slice none 0 0) = .int .i64 r :: .int .i64 0 :: (List.replicate 256 (.int .u16 0) ++ [.slice none 0 0, .slice none 0 0]) := by
  unfold brdCells atCells
  rw [List.map_const']
  rfl
end
end Go.Proofs.YtbfnagdpanfphaaGreatDoor
end
end
section
section
namespace Go.Proofs.YtbfnagdpanfphaaGreatDoor
open Go Go.RowKit X
set_option linter.unusedSimpArgs false
set_option linter.unusedVariables false

theorem X.index_ints {P : Program} {w : World} {t e : TypeId} {n m : Nat} {k kd : IntKind} {cs : Array Value} {i : Int} {v : Value} {K : Value → World → Prop} (h : P.underlying t = some (.array n e)) (he : P.underlying e = some (.int k)) (hs : (P.info? e).map (·.size) = some 1)
    (hi : i = (m : Int)) (hm : m < n) (hv : cs[m]? = some v) (kk : K v w) : XRun P (Instr.index t (.agg cs) (.int kd i)) w K := by
  refine ⟨v, w, ?_, kk⟩
  subst hi
  cases hq : P.info? e with
  | none => simp [hq] at hs
  | some inf =>
    have hs1 : inf.size = 1 := by simpa [hq] using hs
    simp [Instr.index, asIntOf, run_underlying h, run_underlying he, part, isAgg, sizeOf, typeInfo, hq, hs1, hm, hv]

def kinds : List Nat := [4, 16, 48, 256]
/-- kids: of nothing (no blocks); in a row; on a board -/
def Kd (w : World) (ks : List Nat) (room : Nat) (m : UInt8 → Option Addr) : Prop :=
  (ks = [] ∧ room = 0 ∧ m = fun _ => none) ∨
  (∃ kb rb l, ks = [kb, rb] ∧ Blk w kb [rp rb, .pointer none] T_kids_Kids ∧ Row w rb room l ∧ lkp l = m) ∨
  (∃ kb bb n xv fv a xs fs, ks = kb :: bb :: (xv.ownBlock.toList ++ fv.ownBlock.toList) ∧ Blk w kb [.pointer none, rp bb] T_kids_Kids ∧ BrdM w bb room n xv fv a xs fs ∧ BrdI room n a xs fs m)
def kptr (ks : List Nat) : Value := match ks with | [] => .pointer none | b :: _ => rp b
theorem mem_BX {kb bb b : Nat} {xv fv : Value} : b ∈ kb :: bb :: (xv.ownBlock.toList ++ fv.ownBlock.toList) ↔ b = kb ∨ BX bb xv fv b := by
  simp [BX, SX, Option.mem_toList, Option.mem_def]
/-- the types of the blocks of kids -/
def KT (T : TypeId) : Prop := T = T_kids_Kids ∨ T = T_small_Row ∨ T = T_wide_Board ∨ T = T_p_node_Node ∨ T = T_uint16
theorem Kd.ty {w : World} {ks : List Nat} {room : Nat} {m : UInt8 → Option Addr} (h : Kd w ks room m) : ∀ b ∈ ks, ∃ cs T, Blk w b cs T ∧ KT T := by
  intro b hb
  rcases h with ⟨rfl, -, -⟩ | ⟨kb, rb, l, rfl, h1, h2, -⟩ | ⟨kb, bb, n, xv, fv, a, xs, fs, rfl, h1, h2, -⟩
  · cases hb
  · simp only [List.mem_cons, List.mem_nil_iff, or_false] at hb
    rcases hb with rfl | rfl
    · exact ⟨_, _, h1, .inl rfl⟩
    · exact ⟨_, _, h2.blk, .inr (.inl rfl)⟩
  · rcases mem_BX.1 hb with rfl | rfl | hb | hb
    · exact ⟨_, _, h1, .inl rfl⟩
    · exact ⟨_, _, h2.blk, .inr (.inr (.inl rfl))⟩
    · obtain ⟨cs, hc⟩ := h2.xo.blk hb
      exact ⟨_, _, hc, .inr (.inr (.inr (.inl rfl)))⟩
    · obtain ⟨cs, hc⟩ := h2.fo.blk hb
      exact ⟨_, _, hc, .inr (.inr (.inr (.inr rfl)))⟩
theorem Kd.lt {w : World} {ks : List Nat} {room : Nat} {m : UInt8 → Option Addr} (h : Kd w ks room m) {b : Nat} (hb : b ∈ ks) : b < w.heap.size := by
  obtain ⟨cs, T, h1, -⟩ := h.ty b hb
  exact h1.lt
theorem Kd.ext {X : Nat → Prop} {w w' : World} {ks : List Nat} {room : Nat} {m : UInt8 → Option Addr} (h : Kd w ks room m) (e : Ext X w w') (hx : ∀ b ∈ ks, ¬ X b) : Kd w' ks room m := by
  rcases h with h | ⟨kb, rb, l, rfl, h1, h2, h3⟩ | ⟨kb, bb, n, xv, fv, a, xs, fs, rfl, h1, h2, h3⟩
  · exact .inl h
  · exact .inr (.inl ⟨kb, rb, l, rfl, h1.ext e (hx _ (by simp)), h2.ext e (hx _ (by simp)), h3⟩)
  · exact .inr (.inr ⟨kb, bb, n, xv, fv, a, xs, fs, rfl, h1.ext e (hx _ (by simp)), h2.ext e fun b hb => hx b (mem_BX.2 (.inr hb)), h3⟩)
theorem Kd.extN {w w' : World} {ks : List Nat} {room : Nat} {m : UInt8 → Option Addr} (h : Kd w ks room m) (e : Ext No w w') : Kd w' ks room m := h.ext e fun _ _ h => h
theorem Kd.drew {w : World} {ks : List Nat} {room : Nat} {m : UInt8 → Option Addr} (h : Kd w ks room m) : Kd w.drew ks room m := h.extN (Ext.refl No w).drew

section
variable {w : World} {ks : List Nat} {room : Nat} {m : UInt8 → Option Addr}
theorem Kd.le (h : Kd w ks room m) : cnt m ≤ room := by
  rcases h with ⟨-, rfl, rfl⟩ | ⟨kb, rb, l, rfl, h1, h2, rfl⟩ | ⟨kb, bb, n, xv, fv, a, xs, fs, rfl, h1, h2, h3⟩
  · simp [cnt, dom_none]
  · rw [lkp_cnt h2.rise]; exact h2.le
  · rw [← h3.nc]; exact h3.le
theorem nextV_shape (m : UInt8 → Option Addr) (i : Nat) : ∃ a b c, nextV m i = .tuple #[a, b, c] := by
  unfold nextV
  cases nextB m i <;> exact ⟨_, _, _, rfl⟩
theorem nextV_none (i : Nat) : nextV (fun _ => none) i = .tuple #[.int .u8 0, .pointer none, .bool false] := by
  have : nextB (fun _ => none : UInt8 → Option Addr) i = none := nextB_none.2 fun _ _ => rfl
  simp [nextV, this]
end
end Go.Proofs.YtbfnagdpanfphaaGreatDoor
end
section
namespace Go.Proofs.YtbfnagdpanfphaaGreatDoor
open Go Go.RowKit X
set_option linter.unusedSimpArgs false
set_option linter.unusedVariables false

theorem X.cnt_mono {α : Type} {m m' : UInt8 → Option α} (h : ∀ c, (m c).isSome → (m' c).isSome) : cnt m ≤ cnt m' := by
  rw [cnt_eq, cnt_eq]
  exact List.countP_mono_left fun c _ => h c
def Sub (ks ks' : List Nat) (n : Nat) : Prop := ∀ c ∈ ks', c ∈ ks ∨ n ≤ c

section
variable {w : World} {ks : List Nat} {room : Nat} {m : UInt8 → Option Addr}
/-- the two cells of kids -/
theorem Kd.two (h : Kd w ks room m) (hne : ks ≠ []) : ∃ kb r x y, ks = kb :: r ∧ Blk w kb [x, y] T_kids_Kids ∧ x.oneCell' = true ∧ y.oneCell' = true ∧
    (∀ w' kb', Blk w' kb' [x, y] T_kids_Kids → Ext (· = kb') w w' → kb' ∉ r → Kd w' (kb' :: r) room m) := by
  rcases h with ⟨rfl, rfl, rfl⟩ | ⟨kb, rb, l, rfl, h1, h2, rfl⟩ | ⟨kb, bb, n, xv, fv, a, xs, fs, rfl, h1, h2, h3⟩
  · exact absurd rfl hne
  · refine ⟨kb, _, _, _, rfl, h1, rfl, rfl, fun w' kb' hb he hn => .inr (.inl ⟨kb', rb, l, rfl, hb, h2.ext he (fun e => hn (by rw [← show rb = kb' from e]; simp)), rfl⟩)⟩
  · refine ⟨kb, _, _, _, rfl, h1, rfl, rfl, fun w' kb' hb he hn => .inr (.inr ⟨kb', bb, n, xv, fv, a, xs, fs, rfl, hb, h2.ext he (fun c hc e => hn ?_), h3⟩)⟩
    have e : c = kb' := e
    subst e
    rcases mem_BX.1 (mem_BX.2 (.inr hc) : c ∈ c :: bb :: (xv.ownBlock.toList ++ fv.ownBlock.toList)) with _ | h
    · have := (mem_BX (kb := c + 1)).2 (.inr hc)
      rcases List.mem_cons.1 this with h | h
      · omega
      · exact h
    · have := (mem_BX (kb := c + 1)).2 (.inr hc)
      rcases List.mem_cons.1 this with h | h
      · omega
      · exact h
def below (m : UInt8 → Option Addr) (j : Nat) : UInt8 → Option Addr := fun c => if c.toNat < j then m c else none
theorem below_all {j : Nat} (h : ∀ c : UInt8, j ≤ c.toNat → m c = none) : below m j = m := by
  funext c
  unfold below
  split
  · rfl
  · exact (h c (by omega)).symm
theorem below_step {j : Nat} {c : UInt8} (h : nextB m j = some c) : upd (below m j) c (m c) = below m (c.toNat + 1) := by
  obtain ⟨h1, h2, h3⟩ := nextB_some.1 h
  funext d
  unfold upd below
  by_cases e : d = c
  · subst e; simp
  · have hne : d.toNat ≠ c.toNat := fun h => e (UInt8.toNat_inj.1 h)
    rw [if_neg e]
    by_cases h4 : d.toNat < j
    · rw [if_pos h4, if_pos (by omega)]
    · rw [if_neg h4]
      by_cases h5 : d.toNat < c.toNat + 1
      · rw [if_pos h5, h3 d (by omega) (by omega)]
      · rw [if_neg h5]
end
end Go.Proofs.YtbfnagdpanfphaaGreatDoor
end
section
namespace Go.Proofs.YtbfnagdpanfphaaGreatDoor
open Go Go.RowKit X
set_option linter.unusedSimpArgs false
set_option linter.unusedVariables false

theorem kindN_mem {n : Nat} (h : n ≤ 256) : kindN n ∈ kinds := by
  unfold kindN kinds
  repeat' split
  all_goals first | omega | simp
theorem kindN_ge {n : Nat} (h : n ≤ 256) : n ≤ kindN n := kindN_le h
theorem kindN_room {n : Nat} (h : n < kindN n) : kindN (n + 1) = kindN n := by
  unfold kindN at *
  repeat' split
  all_goals first | rfl | omega | (split at h <;> omega)
/-- kids in the room that their number asks; or none -/
def Ks (w : World) (ks : List Nat) (m : UInt8 → Option Addr) : Prop := if ks = [] then m = fun _ => none else Kd w ks (kindN (cnt m)) m
theorem Ks.nil (w : World) : Ks w [] (fun _ => none) := rfl
theorem Ks.mk {w : World} {ks : List Nat} {m : UInt8 → Option Addr} (hne : ks ≠ []) (h : Kd w ks (kindN (cnt m)) m) : Ks w ks m := by unfold Ks; rw [if_neg hne]; exact h
theorem Ks.kd {w : World} {ks : List Nat} {m : UInt8 → Option Addr} (h : Ks w ks m) (hne : ks ≠ []) : Kd w ks (kindN (cnt m)) m := by unfold Ks at h; rw [if_neg hne] at h; exact h
theorem Ks.any {w : World} {ks : List Nat} {m : UInt8 → Option Addr} (h : Ks w ks m) : ∃ room, Kd w ks room m ∧ (ks ≠ [] → room = kindN (cnt m)) := by
  by_cases e : ks = []
  · subst e
    exact ⟨0, .inl ⟨rfl, rfl, h⟩, fun h => absurd rfl h⟩
  · exact ⟨_, h.kd e, fun _ => rfl⟩
theorem Ks.ext {X : Nat → Prop} {w w' : World} {ks : List Nat} {m : UInt8 → Option Addr} (h : Ks w ks m) (e : Ext X w w') (hx : ∀ b ∈ ks, ¬ X b) : Ks w' ks m := by
  by_cases hk : ks = []
  · subst hk; exact h
  · exact Ks.mk hk ((h.kd hk).ext e hx)
theorem Ks.extN {w w' : World} {ks : List Nat} {m : UInt8 → Option Addr} (h : Ks w ks m) (e : Ext No w w') : Ks w' ks m := h.ext e fun _ _ h => h
theorem Ks.ty {w : World} {ks : List Nat} {m : UInt8 → Option Addr} (h : Ks w ks m) : ∀ b ∈ ks, ∃ cs T, Blk w b cs T ∧ KT T := by
  obtain ⟨r, hr, -⟩ := h.any
  exact hr.ty
theorem Ks.lt {w : World} {ks : List Nat} {m : UInt8 → Option Addr} (h : Ks w ks m) {b : Nat} (hb : b ∈ ks) : b < w.heap.size := by
  obtain ⟨cs, T, h1, -⟩ := h.ty b hb
  exact h1.lt

section
variable {w : World} {ks : List Nat} {m : UInt8 → Option Addr}
theorem kptr_ne (hne : ks ≠ []) : ∃ kb, kptr ks = rp kb := by
  cases ks with
  | nil => exact absurd rfl hne
  | cons a r => exact ⟨a, rfl⟩
theorem Sub.trans {ks ks' ks'' : List Nat} {n n' : Nat} (h : Sub ks ks' n) (h' : Sub ks' ks'' n') (hn : n ≤ n') : Sub ks ks'' n := fun c hc => by
  rcases h' c hc with h1 | h1
  · exact h c h1
  · exact .inr (by omega)
end
end Go.Proofs.YtbfnagdpanfphaaGreatDoor
end
end
