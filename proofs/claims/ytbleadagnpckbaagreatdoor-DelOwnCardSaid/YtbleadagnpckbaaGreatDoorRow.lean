/-  slices.BinarySearch, and the row of few things.  -/
import Derived.Test.YtbleadagnpckbaaGreatDoorMeter
section
namespace Go.Proofs.YtbleadagnpckbaaGreatDoor
open Go Go.RowKit X
set_option linter.unusedSimpArgs false
set_option linter.unusedVariables false

theorem wrapU64 {x : Int} (h : 0 ≤ x ∧ x < 18446744073709551616) : IntKind.u64.wrap x = x := by
  simp only [IntKind.wrap, IntKind.bits, IntKind.signed]
  simp
  omega
theorem wrapU8 {x : Int} (h : 0 ≤ x ∧ x < 256) : IntKind.u8.wrap x = x := by
  simp only [IntKind.wrap, IntKind.bits, IntKind.signed]
  simp
  omega
theorem wrapU16 {x : Int} (h : 0 ≤ x ∧ x < 65536) : IntKind.u16.wrap x = x := by
  simp only [IntKind.wrap, IntKind.bits, IntKind.signed]
  simp
  omega
theorem half {n : Nat} : ((n : Int).fdiv (2 ^ min (Int.toNat 1) IntKind.u64.bits)) = ((n / 2 : Nat) : Int) := by
  have : (2 : Int) ^ min (Int.toNat 1) IntKind.u64.bits = 2 := by decide
  rw [this, Int.fdiv_eq_ediv_of_nonneg _ (by omega)]
  omega

theorem c_slNaN {w : World} {a : UInt8} : Ret P n_slices_isNaN_byte [bv a] w fun v w' => v = .bool false ∧ w' = w := by
  refine W_slices_isNaN_byte ?_
  refine ⟨?_, rfl⟩
  simp
theorem c_cmpNaN {w : World} {a : UInt8} : Ret P n_cmp_isNaN_byte [bv a] w fun v w' => v = .bool false ∧ w' = w := by
  refine W_cmp_isNaN_byte ?_
  refine ⟨?_, rfl⟩
  simp
theorem c_Less {w : World} {a b : UInt8} : Ret P n_cmp_Less_byte [bv a, bv b] w fun v w' => v = .bool (decide ((a.toNat : Int) < b.toNat)) ∧ w' = w := by
  refine W_cmp_Less_byte ?_
  refine xjd ?_
  refine c_cmpNaN.mono ?_
  rintro v w' ⟨rfl, rfl⟩
  exact fun g => ⟨rfl, rfl⟩

/-- where a byte stands among bytes that rise, or would stand -/
structure At (bs : List UInt8) (b : UInt8) (i : Nat) : Prop where
  le : i ≤ bs.length
  lo : ∀ j c, j < i → bs[j]? = some c → c.toNat < b.toNat
  hi : ∀ j c, i ≤ j → bs[j]? = some c → b.toNat ≤ c.toNat

theorem X.Sl.rdb {w : World} {T : Nat → TypeId → Prop} {v : Value} {bs : List UInt8} {K : Value → Prop} {kd : IntKind} {i : Int} (h : Sl w T v 1 bs.length (bs.map bv)) (m : Nat) (hm : m < bs.length) (hi : i = (m : Int)) (k : K (bv (bs[m]))) :
    xIxS v (.int kd i) 1 fun u => xAt u fun a => XLd w a K := Sl.rd1 h m hi hm (by simp [hm]) k
theorem c_Search {w : World} {T : Nat → TypeId → Prop} {v : Value} {bs : List UInt8} {b : UInt8} (h : Sl w T v 1 bs.length (bs.map bv)) (hr : Rise bs) (hl : bs.length ≤ 4611686018427387904) :
    Ret P n_slices_BinarySearch_byte [v, bv b] w fun r w' => ∃ i : Nat, r = .tuple #[.int .i64 i, .bool (decide (bs[i]? = some b))] ∧ At bs b i ∧ w' = w := by
  refine W_slices_BinarySearch_byte ?_
  refine xLen_sl h ?_
  refine xloop (fun n vs w' => ∃ (i j : Nat) (x : Value), vs = [.int .i64 i, .int .i64 j, x] ∧ i ≤ j ∧ j ≤ bs.length ∧ n = j - i ∧ (∀ k c, k < i → bs[k]? = some c → c.toNat < b.toNat) ∧ (∀ k c, j ≤ k → bs[k]? = some c → b.toNat ≤ c.toNat) ∧ w' = w) bs.length
    ⟨0, bs.length, _, rfl, by omega, by omega, by omega, by omega, fun k c hk hc => ?_, rfl⟩ ?_
  · rw [List.getElem?_eq_none hk] at hc; cases hc
  rintro n vs g w1 ⟨i, j, x, rfl, hij, hj, rfl, h1, h2, rfl⟩
  refine xifD (fun hlt => ?_) fun hge => ?_
  · refine xi (r := ((i + j : Nat) : Int)) (by rw [wrapI (by omega)]; omega) ?_
    refine xi (r := ((i + j : Nat) : Int)) (wrapU64 (by omega)) ?_
    refine xi (r := (((i + j) / 2 : Nat) : Int)) half ?_
    refine xi (r := (((i + j) / 2 : Nat) : Int)) (wrapI (by omega)) ?_
    refine h.rdb ((i + j) / 2) (by omega) rfl ?_
    refine c_Less.mono ?_
    rintro r w' ⟨rfl, rfl⟩
    have hget : bs[(i + j) / 2]? = some bs[(i + j) / 2] := List.getElem?_eq_getElem (by omega)
    refine xifD (fun hl => ?_) fun hl => ?_
    · refine xi (r := (((i + j) / 2 + 1 : Nat) : Int)) (by rw [wrapI (by omega)]; omega) ?_
      refine xnext (j - ((i + j) / 2 + 1)) (by omega) ⟨_, _, _, rfl, by omega, by omega, rfl, fun k c hk hc => ?_, h2, rfl⟩
      rcases Nat.lt_or_ge k ((i + j) / 2) with h | h
      · have := List.pairwise_iff_getElem.1 hr k ((i + j) / 2) (List.getElem?_eq_some_iff.1 hc).1 (by omega) h
        rw [(List.getElem?_eq_some_iff.1 hc).2] at this
        omega
      · have : k = (i + j) / 2 := by omega
        subst this
        rw [hget] at hc
        cases hc
        omega
    · refine xnext ((i + j) / 2 - i) (by omega) ⟨_, _, _, rfl, by omega, by omega, rfl, h1, fun k c hk hc => ?_, rfl⟩
      rcases Nat.lt_or_ge ((i + j) / 2) k with h | h
      · have := List.pairwise_iff_getElem.1 hr ((i + j) / 2) k (by omega) (List.getElem?_eq_some_iff.1 hc).1 h
        rw [(List.getElem?_eq_some_iff.1 hc).2] at this
        omega
      · have : k = (i + j) / 2 := by omega
        subst this
        rw [hget] at hc
        cases hc
        omega
  · have : j = i := by omega
    subst this
    have hat : At bs b j := ⟨hj, h1, h2⟩
    refine xjd ?_
    refine xifD (fun hlt => ?_) fun hge => ?_
    · have hget : bs[j]? = some bs[j] := List.getElem?_eq_getElem (by omega)
      refine h.rdb j (by omega) rfl ?_
      refine xifE (fun he => ?_) fun he => ?_
      · intro g
        refine ⟨j, ?_, hat, rfl⟩
        rw [decide_eq_true]
        · rfl
        · rw [hget]
          exact congrArg some (UInt8.toNat_inj.1 (by exact_mod_cast he))
      · refine h.rdb j (by omega) rfl ?_
        refine c_slNaN.mono ?_
        rintro r w' ⟨rfl, rfl⟩
        intro g
        refine ⟨j, ?_, hat, rfl⟩
        rw [decide_eq_false]
        · rfl
        · rw [hget]
          intro e
          cases e
          exact he rfl
    · intro g
      refine ⟨j, ?_, hat, rfl⟩
      rw [decide_eq_false]
      · rfl
      · rw [List.getElem?_eq_none (by omega)]
        intro e
        cases e

/-! ### the row -/
def rowCells (room : Nat) (l : List (UInt8 × Addr)) : List Value :=
  .int .i64 room :: .int .i64 l.length :: ((l.map fun p => bv p.1) ++ List.replicate (16 - l.length) (bv 0) ++ ((l.map fun p => .pointer (some p.2)) ++ List.replicate (16 - l.length) (.pointer none)))
/-- what stands in a row by a byte -/
def lkp (l : List (UInt8 × Addr)) (b : UInt8) : Option Addr := (l.find? fun p => p.1 == b).map (·.2)
structure Row (w : World) (rb room : Nat) (l : List (UInt8 × Addr)) : Prop where
  blk : Blk w rb (rowCells room l) T_small_Row
  rise : Rise (l.map (·.1))
  le : l.length ≤ room
  top : room ≤ 16
  pos : 0 < room
theorem Row.ext {X : Nat → Prop} {w w' : World} {rb room : Nat} {l : List (UInt8 × Addr)} (h : Row w rb room l) (e : Ext X w w') (hx : ¬ X rb) : Row w' rb room l := ⟨h.blk.ext e hx, h.rise, h.le, h.top, h.pos⟩
theorem rowCells_length {room : Nat} {l : List (UInt8 × Addr)} (h : l.length ≤ 16) : (rowCells room l).length = 34 := by simp [rowCells]; omega
theorem rowCells_b {room : Nat} {l : List (UInt8 × Addr)} {i : Nat} (h : i < l.length) : (rowCells room l)[2 + i]? = some (bv l[i].1) := by
  have e : 2 + i = i + 1 + 1 := by omega
  rw [e, rowCells, List.getElem?_cons_succ, List.getElem?_cons_succ, List.getElem?_append_left (by simp; omega), List.getElem?_append_left (by simp; omega)]
  simp [h]
theorem rowCells_x {room : Nat} {l : List (UInt8 × Addr)} {i : Nat} (hl : l.length ≤ 16) (h : i < l.length) : (rowCells room l)[18 + i]? = some (.pointer (some l[i].2)) := by
  have e : 18 + i = (16 + i) + 1 + 1 := by omega
  rw [e, rowCells, List.getElem?_cons_succ, List.getElem?_cons_succ, List.getElem?_append_right (by simp; omega), List.getElem?_append_left (by simp; omega)]
  have : 16 + i - (List.map (fun p => bv p.1) l ++ List.replicate (16 - l.length) (bv 0)).length = i := by simp; omega
  rw [this]
  simp [h]
/-- the cells of a block as a slice -/
theorem X.Blk.sl {w : World} {b o n cap : Nat} {cs : List Value} {T : TypeId} (h : Blk w b cs T) (hc : o + cap ≤ cs.length) (hn : n ≤ cap) : Sl w (tyQ T) (.slice (some ⟨b, o, none⟩) n cap) 1 n ((cs.drop o).take n) :=
  ⟨_, cap, rfl, by simp; omega, hn, .inr ⟨b, o, _, T, (0, 0), rfl, rfl, h.h, by simpa using hc, fun i hi => by
    simp [List.getElem?_take, show i < n by omega, List.getElem?_drop]⟩⟩
theorem X.Blk.sln {w : World} {b n sz : Nat} {cs : List Value} {T : TypeId} (h : Blk w b cs T) (hl : cs.length = n * sz) : Sl w (tyQ T) (.slice (some ⟨b, 0, none⟩) n n) sz n cs :=
  ⟨_, n, rfl, hl, Nat.le_refl _, .inr ⟨b, 0, _, T, (0, 0), rfl, rfl, h.h, by simp [hl], fun i hi => by simp⟩⟩
theorem lkp_none {l : List (UInt8 × Addr)} {b : UInt8} (h : b ∉ l.map (·.1)) : lkp l b = none := by
  unfold lkp
  rw [List.find?_eq_none.2]
  · rfl
  · intro p hp
    simp only [beq_iff_eq]
    intro e
    exact h (List.mem_map.2 ⟨p, hp, e⟩)
theorem lkp_at {l : List (UInt8 × Addr)} (hr : Rise (l.map (·.1))) {i : Nat} (hi : i < l.length) : lkp l l[i].1 = some l[i].2 := by
  unfold lkp
  have hn := hr.nodup
  rw [(List.find?_eq_some_iff_getElem (p := fun p => p.1 == l[i].1) (b := l[i])).2]
  · rfl
  · refine ⟨by simp, i, hi, rfl, fun j hj => ?_⟩
    simp only [Bool.not_eq_true', beq_eq_false_iff_ne]
    intro e
    have := (List.getElem_inj (i := j) (j := i) (h₀ := by simp; omega) (h₁ := by simpa using hi) hn).1 (by simpa using e)
    omega
theorem lkp_dom {l : List (UInt8 × Addr)} (hr : Rise (l.map (·.1))) : dom (lkp l) = l.map (·.1) := by
  refine dom_eq hr fun c => ?_
  constructor
  · intro h
    obtain ⟨i, hi, e⟩ := List.mem_iff_getElem.1 h
    simp only [List.length_map] at hi
    simp only [List.getElem_map] at e
    subst e
    rw [lkp_at hr hi]
    rfl
  · intro h
    by_cases hc : c ∈ l.map (·.1)
    · exact hc
    · rw [lkp_none hc] at h; cases h
theorem lkp_cnt {l : List (UInt8 × Addr)} (hr : Rise (l.map (·.1))) : cnt (lkp l) = l.length := by unfold cnt; rw [lkp_dom hr]; simp

section
variable {w : World} {rb room : Nat} {l : List (UInt8 × Addr)}
abbrev rp (rb : Nat) : Value := .pointer (some ⟨rb, 0, none⟩)
theorem Row.n (h : Row w rb room l) {K : Value → Prop} (k : K (.int .i64 l.length)) : XLd w ⟨rb, 1, none⟩ K := h.blk.ld rfl k
theorem Row.r (h : Row w rb room l) {K : Value → Prop} (k : K (.int .i64 room)) : XLd w ⟨rb, 0, none⟩ K := h.blk.ld rfl k
theorem Row.le16 (h : Row w rb room l) : l.length ≤ 16 := Nat.le_trans h.le h.top
theorem c_RowOk (h : Row w rb room l) : Ret P n_small_Row_ok [rp rb] w fun v w' => v = .bool true ∧ w' = w := by
  refine W_small_Row_ok ?_
  refine xjd ?_
  refine h.r ?_
  have := h.pos
  exact fun g => ⟨by show Value.bool (decide ((room : Int) > 0)) = _; rw [decide_eq_true (by omega)], rfl⟩
theorem c_RowNil : Ret P n_small_Row_ok [.pointer none] w fun v w' => v = .bool false ∧ w' = w := by
  refine W_small_Row_ok ?_
  refine xjd ?_
  exact fun g => ⟨rfl, rfl⟩
theorem c_RowLen (h : Row w rb room l) : Ret P n_small_Row_Len [rp rb] w fun v w' => v = .int .i64 l.length ∧ w' = w := by
  refine W_small_Row_Len ?_
  refine (c_RowOk h).mono ?_
  rintro v w' ⟨rfl, rfl⟩
  exact h.n ⟨rfl, rfl⟩
theorem c_RowRoom (h : Row w rb room l) : Ret P n_small_Row_Room [rp rb] w fun v w' => v = .int .i64 room ∧ w' = w := by
  refine W_small_Row_Room ?_
  refine (c_RowOk h).mono ?_
  rintro v w' ⟨rfl, rfl⟩
  exact h.r ⟨rfl, rfl⟩
theorem Row.bs (h : Row w rb room l) : Sl w (tyQ T_small_Row) (.slice (some ⟨rb, 2, none⟩) l.length 16) 1 (l.map (·.1)).length ((l.map (·.1)).map bv) := by
  have := h.blk.sl (o := 2) (n := l.length) (cap := 16) (by rw [rowCells_length h.le16]; omega) h.le16
  have e : ((rowCells room l).drop 2).take l.length = (l.map (·.1)).map bv := by
    rw [rowCells]
    simp only [List.drop_succ_cons, List.drop_zero, List.append_assoc]
    rw [List.take_append_of_le_length (by simp), List.take_of_length_le (by simp)]
    simp
  rw [e] at this
  simpa using this
theorem c_RowPlace {b : UInt8} (h : Row w rb room l) : Ret P n_small_Row_place [rp rb, bv b] w fun r w' => ∃ i : Nat, r = .tuple #[.int .i64 i, .bool (decide ((l.map (·.1))[i]? = some b))] ∧ At (l.map (·.1)) b i ∧ w' = w.drew := by
  refine W_small_Row_place ?_
  have hd : Row w.drew rb room l := ⟨h.blk.drew, h.rise, h.le, h.top, h.pos⟩
  refine hd.n ?_
  refine xcutH l.length rfl h.le16 ?_
  refine (c_Search hd.bs h.rise (by have := h.le16; simp; omega)).mono ?_
  rintro r w' ⟨i, rfl, h1, rfl⟩
  exact ⟨i, rfl, h1, rfl⟩
end
end Go.Proofs.YtbleadagnpckbaaGreatDoor
end
section
namespace Go.Proofs.YtbleadagnpckbaaGreatDoor
open Go Go.RowKit X
set_option linter.unusedSimpArgs false
set_option linter.unusedVariables false

theorem splice {α : Type} {A B C ys : List α} {a : Nat} (ha : A.length = a) (hb : B.length = ys.length) : (A ++ B ++ C).take a ++ ys ++ (A ++ B ++ C).drop (a + ys.length) = A ++ ys ++ C := by
  subst ha
  rw [List.append_assoc A B C, List.take_left, ← List.append_assoc A B C, ← hb, ← List.length_append, List.drop_left]
theorem set_mid {α : Type} (A : List α) (x y : α) (C : List α) : (A ++ x :: C).set A.length y = A ++ y :: C := by
  induction A with
  | nil => rfl
  | cons a A ih => simp [ih]
theorem set_mid' {α : Type} {A : List α} {x y : α} {C : List α} {i : Nat} (h : A.length = i) : (A ++ x :: C).set i y = A ++ y :: C := by subst h; exact set_mid A x y C

theorem At.mem {bs : List UInt8} {b : UInt8} {i : Nat} (h : At bs b i) (hr : Rise bs) : b ∈ bs ↔ bs[i]? = some b := by
  constructor
  · intro hb
    obtain ⟨j, hj, e⟩ := List.mem_iff_getElem.1 hb
    have hj' : bs[j]? = some b := by rw [List.getElem?_eq_getElem hj, e]
    rcases Nat.lt_trichotomy j i with h1 | h1 | h1
    · have := h.lo j b h1 hj'; omega
    · subst h1; exact hj'
    · have h2 := h.hi i bs[i] (Nat.le_refl _) (List.getElem?_eq_getElem (by omega))
      have h3 := List.pairwise_iff_getElem.1 hr i j (by omega) hj h1
      rw [e] at h3
      omega
  · intro hb
    exact List.mem_of_getElem? hb
theorem At.find {bs : List UInt8} {b : UInt8} {i : Nat} (h : At bs b i) : bs.find? (fun c => decide (b.toNat ≤ c.toNat)) = bs[i]? := by
  have e : bs = bs.take i ++ bs.drop i := (List.take_append_drop i bs).symm
  conv => lhs; rw [e]
  rw [List.find?_append, List.find?_eq_none.2]
  · show (bs.drop i).find? _ = _
    cases hd : bs.drop i with
    | nil =>
      have : bs.length ≤ i := by simpa using hd
      rw [List.getElem?_eq_none this]; rfl
    | cons x r =>
      have hx : bs[i]? = some x := by
        have := congrArg (·[0]?) hd
        simpa using this
      have := h.hi i x (Nat.le_refl _) hx
      rw [hx, List.find?_cons_of_pos]
      simpa using this
  · intro c hc
    obtain ⟨j, hj, e⟩ := List.mem_iff_getElem.1 hc
    simp only [List.length_take] at hj
    simp only [List.getElem_take] at e
    have := h.lo j c (by omega) (by rw [List.getElem?_eq_getElem (by omega), e])
    simp only [decide_eq_true_eq]
    omega
theorem bv_of {n : Nat} (h : n < 256) : Value.int .u8 (n : Int) = bv (UInt8.ofNat n) := by
  congr 1
  have : (UInt8.ofNat n).toNat = n := by simp; omega
  rw [this]
theorem ofNat_toNat {n : Nat} (h : n < 256) : (UInt8.ofNat n).toNat = n := by simp; omega

/-- what 'Next' answers -/
def nextV (m : UInt8 → Option Addr) (i : Nat) : Value :=
  match nextB m i with
  | some c => .tuple #[bv c, .pointer (m c), .bool true]
  | none => .tuple #[.int .u8 0, .pointer none, .bool false]
/-- what 'Get' answers -/
def getV (m : UInt8 → Option Addr) (b : UInt8) : Value := .tuple #[.pointer (m b), .bool (m b).isSome]

section
variable {w : World} {rb room : Nat} {l : List (UInt8 × Addr)}
theorem Row.drew (h : Row w rb room l) : Row w.drew rb room l := ⟨h.blk.drew, h.rise, h.le, h.top, h.pos⟩
theorem Row.x (h : Row w rb room l) {K : Value → Prop} (i : Nat) (hi : i < l.length) (k : K (.pointer (some l[i].2))) : XLd w ⟨rb, 18 + i, none⟩ K := h.blk.ld (rowCells_x h.le16 hi) k
theorem Row.b (h : Row w rb room l) {K : Value → Prop} (i : Nat) (hi : i < l.length) (k : K (bv l[i].1)) : XLd w ⟨rb, 2 + i, none⟩ K := h.blk.ld (rowCells_b hi) k
/-- an array's element -/
theorem xixA {b o n : Nat} {kd : IntKind} {i : Int} {K : Value → Prop} (m : Nat) (hi : i = (m : Int)) (hm : m < n) (k : K (.pointer (some ⟨b, o + m, none⟩))) : xIxA (.pointer (some ⟨b, o, none⟩)) (.int kd i) n 1 K := by
  refine ⟨m, hi, hm, ?_⟩
  simp only [Addr.add_lit, Nat.mul_one]
  exact k

theorem c_RowGet {b : UInt8} (h : Row w rb room l) : Ret P n_small_Row_Get [rp rb, bv b] w fun v w' => v = getV (lkp l) b ∧ Ext No w w' := by
  refine W_small_Row_Get ?_
  refine (c_RowOk h).mono ?_
  rintro v w' ⟨rfl, rfl⟩
  refine (c_RowPlace h).mono ?_
  rintro v w1 ⟨i, rfl, hat, rfl⟩
  have hx : Ext No w' w'.drew := (Ext.refl No w').drew
  by_cases e : (l.map (·.1))[i]? = some b
  · have hi : i < l.length := by simpa using (List.getElem?_eq_some_iff.1 e).1
    have hb : l[i].1 = b := by simpa using (List.getElem?_eq_some_iff.1 e).2
    have hk : lkp l b = some l[i].2 := by rw [← hb]; exact lkp_at h.rise hi
    refine xifF (by rw [decide_eq_true e]; rfl) ?_
    refine xixA i rfl (by have := h.le16; omega) ?_
    refine h.drew.x i hi ⟨?_, hx⟩
    simp [getV, hk]
  · have hk : lkp l b = none := lkp_none fun hb => e ((hat.mem h.rise).1 hb)
    refine xifT (by rw [decide_eq_false e]; rfl) ⟨?_, hx⟩
    simp [getV, hk]
theorem c_RowAt {i : Nat} (h : Row w rb room l) : Ret P n_small_Row_at [rp rb, .int .i64 i] w fun v w' =>
    v = (match l[i]? with | some p => .tuple #[bv p.1, .pointer (some p.2), .bool true] | none => .tuple #[.int .u8 0, .pointer none, .bool false]) ∧ Ext No w w' := by
  refine W_small_Row_at ?_
  refine xjd ?_
  refine xifD (fun hn => by omega) fun _ => ?_
  refine h.n ?_
  intro g
  refine xifD (fun hge => ?_) fun hlt => ?_
  · refine ⟨?_, Ext.refl _ _⟩
    rw [List.getElem?_eq_none (by omega)]
  · have hi : i < l.length := by omega
    have := h.le16
    refine xixA i rfl (by omega) ?_
    refine h.drew.b i hi ?_
    refine xixA i rfl (by omega) ?_
    refine h.drew.x i hi ⟨?_, ?_, (Ext.refl No w).drew⟩
    · have := h.drew.blk.cell (18 + i)
      rw [rowCells_x h.le16 hi] at this
      exact this
    · rw [List.getElem?_eq_getElem hi]
theorem c_RowNext {i : Nat} (h : Row w rb room l) : Ret P n_small_Row_Next [rp rb, .int .i64 i] w fun v w' => v = nextV (lkp l) i ∧ Ext No w w' := by
  refine W_small_Row_Next ?_
  refine xjd ?_
  refine (c_RowOk h).mono ?_
  rintro v w' ⟨rfl, rfl⟩ g
  refine xifD (fun hgt => ?_) fun hle => ?_
  · refine ⟨?_, Ext.refl _ _⟩
    have : nextB (lkp l) i = none := nextB_none.2 fun c hc => by have := c.toNat_lt; omega
    simp [nextV, this]
  · have e0 : (if ((i : Int) < 0) then (0 : Int) else i) = i := by rw [if_neg (by omega)]
    refine xi (r := (i : Int)) ?_ ?_
    · show IntKind.u8.wrap (if (i : Int) < 0 then 0 else (i : Int)) = i
      rw [e0, wrapU8 (by omega)]
    rw [bv_of (by omega)]
    refine (c_RowPlace h).mono ?_
    rintro v w1 ⟨j, rfl, hat, rfl⟩
    refine (c_RowAt h.drew (i := j)).mono ?_
    rintro v w2 ⟨rfl, he⟩
    have hx : Ext No w' w2 := (Ext.refl No w').drew.transN he
    have hf := hat.find
    rw [ofNat_toNat (show i < 256 by omega)] at hf
    have hn : nextB (lkp l) i = (l.map (·.1))[j]? := by
      unfold nextB
      rw [lkp_dom h.rise]
      exact hf
    cases hj : l[j]? with
    | none =>
      refine ⟨?_, hx⟩
      rw [List.getElem?_map, hj] at hn
      simp [nextV, hn]
    | some p =>
      refine ⟨?_, hx⟩
      rw [List.getElem?_map, hj] at hn
      obtain ⟨hjl, e⟩ := List.getElem?_eq_some_iff.1 hj
      subst e
      simp [nextV, hn, lkp_at h.rise hjl]
end
end Go.Proofs.YtbleadagnpckbaaGreatDoor
end
section
namespace Go.Proofs.YtbleadagnpckbaaGreatDoor
open Go Go.RowKit X
set_option linter.unusedSimpArgs false
set_option linter.unusedVariables false

theorem ei_p : EI P T_s_p_node_Node T_p_node_Node 1 8 (.pointer none) := ⟨by kernel_rfl, by kernel_rfl, by rfl, by omega⟩

theorem X.Ext.undrew {X : Nat → Prop} {w w' : World} (h : Ext X w.drew w') : Ext X w w' := ⟨h.os, h.tape, h.output, h.size, h.same⟩
/-- an array's part, as a slice -/
theorem cut_lo {b o n : Nat} {kd : IntKind} {i : Int} {K : Value → Prop} (l : Nat) (hi : i = (l : Int)) (hl : l ≤ n) (k : ∀ o', (l < n → o' = o + l) → o' ≤ o + l → K (.slice (some ⟨b, o', none⟩) (n - l) (n - l))) : xCutA n 1 (.pointer (some ⟨b, o, none⟩)) (some (.int kd i)) none none K := by
  refine xcutL l hi hl ?_
  show K (.slice (some (if n = l then ⟨b, o, none⟩ else (⟨b, o, none⟩ : Addr).add (l * 1))) (n - l) (n - l))
  by_cases e : n = l
  · rw [if_pos e]; exact k o (fun h => by omega) (by omega)
  · rw [if_neg e, Addr.add_lit, Nat.mul_one]; exact k _ (fun _ => rfl) (Nat.le_refl _)
theorem cut_b {b o n : Nat} {kd kd' : IntKind} {i j : Int} {K : Value → Prop} (l h : Nat) (hi : i = (l : Int)) (hj : j = (h : Int)) (hl : l ≤ h) (hh : h ≤ n) (k : ∀ o', (l < n → o' = o + l) → o' ≤ o + l → K (.slice (some ⟨b, o', none⟩) (h - l) (n - l))) :
    xCutA n 1 (.pointer (some ⟨b, o, none⟩)) (some (.int kd i)) (some (.int kd' j)) none K := by
  refine xcutB l h hi hj hl hh ?_
  show K (.slice (some (if n = l then ⟨b, o, none⟩ else (⟨b, o, none⟩ : Addr).add (l * 1))) (h - l) (n - l))
  by_cases e : n = l
  · rw [if_pos e]; exact k o (fun h => by omega) (by omega)
  · rw [if_neg e, Addr.add_lit, Nat.mul_one]; exact k _ (fun _ => rfl) (Nat.le_refl _)

section
variable {w : World} {rb room : Nat}
/-- copy within a block: the cells at s (n of them) to o -/
theorem copy_in {t u ty e T : TypeId} {bytes : Nat} {z : Value} {A B C ys : List Value} {o s n dl dc sc : Nat} {K : Value → World → Prop} (hi : EI P t e 1 bytes z) (hg : Blk w rb (A ++ B ++ C) T) (ho : n ≠ 0 → A.length = o) (ho2 : o + n ≤ (A ++ B ++ C).length) (hb : B.length = n)
    (hs : ((A ++ B ++ C).drop s).take n = ys) (hsl : s + sc ≤ (A ++ B ++ C).length) (hn : n ≤ sc) (hd : n ≤ dl) (h1 : ∀ v ∈ ys, v.oneCell' = true)
    (k : ∀ w', Blk w' rb (A ++ ys ++ C) T → w'.heap.size = w.heap.size → Ext (· = rb) w w' → K (.int .i64 (n : Nat)) w') :
    XRun P (Builtin.copy_ #[t, u] ty #[.slice (some ⟨rb, o, none⟩) dl dc, .slice (some ⟨rb, s, none⟩) n sc]) w K := by
  have hy : ys.length = n := by
    have := congrArg List.length hs
    simp only [List.length_take, List.length_drop] at this
    omega
  have hsl' := hg.sl (o := s) (n := n) (cap := sc) hsl hn
  rw [hs] at hsl'
  refine copy_row hi hg hsl' (by rw [Nat.min_eq_left hd]; exact ho2) h1 fun w' hw hz he => ?_
  rw [Nat.min_eq_left hd, List.take_of_length_le (l := ys) (by omega)] at hw
  rw [Nat.min_eq_left hd]
  refine k w' ?_ hz he
  by_cases hn0 : n = 0
  · subst hn0
    have h1 : ys = [] := List.eq_nil_of_length_eq_zero hy
    have h2 : B = [] := List.eq_nil_of_length_eq_zero hb
    subst h1; subst h2
    simpa using hw
  · have := splice (A := A) (B := B) (C := C) (ys := ys) (ho hn0) (by omega)
    rw [hy] at this
    rw [this] at hw
    exact hw
theorem lkp_append {p q : List (UInt8 × Addr)} {c : UInt8} : lkp (p ++ q) c = (lkp p c).or (lkp q c) := by
  unfold lkp
  rw [List.find?_append]
  cases List.find? (fun x => x.1 == c) p <;> rfl
theorem lkp_cons {b : UInt8} {x : Addr} {q : List (UInt8 × Addr)} {c : UInt8} : lkp ((b, x) :: q) c = if c = b then some x else lkp q c := by
  unfold lkp
  rw [List.find?_cons]
  by_cases h : b = c
  · subst h; simp
  · have : (b == c) = false := by simpa using h
    rw [if_neg (fun e => h e.symm)]
    simp [this]
/-- a row that has the byte at p.length -/
theorem row_mid {p q : List (UInt8 × Addr)} {b : UInt8} {x : Addr} : rowCells room (p ++ (b, x) :: q) =
    (.int .i64 room :: .int .i64 (p.length + q.length + 1 : Nat) :: (p.map fun p => bv p.1)) ++ bv b :: ((q.map fun p => bv p.1) ++ List.replicate (16 - (p.length + q.length + 1)) (bv 0) ++
      (p.map fun p => .pointer (some p.2)) ++ .pointer (some x) :: ((q.map fun p => .pointer (some p.2)) ++ List.replicate (16 - (p.length + q.length + 1)) (.pointer none))) := by
  have : (p ++ (b, x) :: q).length = p.length + q.length + 1 := by simp; omega
  unfold rowCells
  rw [this]
  simp [List.append_assoc]
theorem rise_lkp {p q : List (UInt8 × Addr)} {b : UInt8} {x : Addr} (hr : Rise ((p ++ (b, x) :: q).map (·.1))) : (∀ c ∈ p.map (·.1), c.toNat < b.toNat) ∧ (∀ c ∈ q.map (·.1), b.toNat < c.toNat) := by
  simp only [List.map_append, List.map_cons] at hr
  obtain ⟨h1, h2, h3⟩ := List.pairwise_append.1 hr
  exact ⟨fun c hc => h3 c hc b (by simp), fun c hc => (List.pairwise_cons.1 h2).1 c hc⟩
theorem lkp_here {p q : List (UInt8 × Addr)} {b : UInt8} {x : Addr} (hp : ∀ c ∈ p.map (·.1), c.toNat < b.toNat) {c : UInt8} : lkp (p ++ (b, x) :: q) c = if c = b then some x else (lkp (p ++ q) c) := by
  rw [lkp_append, lkp_cons, lkp_append]
  by_cases h : c = b
  · subst h
    rw [lkp_none (l := p) (b := c) (fun hc => by have := hp c hc; omega)]
    simp
  · simp [h]

theorem c_RowSet {l : List (UInt8 × Addr)} {b : UInt8} {x : Addr} (h : Row w rb room l) (hf : l.length < room ∨ (lkp l b).isSome) :
    Ret P n_small_Row_Set [rp rb, bv b, .pointer (some x)] w fun v w' => v = .int .i64 0 ∧ Ext (· = rb) w w' ∧ ∃ l', Row w' rb room l' ∧ lkp l' = upd (lkp l) b (some x) := by
  refine W_small_Row_Set ?_
  refine (c_RowOk h).mono ?_
  rintro v w' ⟨rfl, rfl⟩
  refine (c_RowPlace h).mono ?_
  rintro v w1 ⟨i, rfl, hat, rfl⟩
  have h16 := h.le16
  by_cases e : (l.map (·.1))[i]? = some b
  · refine xifT (decide_eq_true e) ?_
    have hi : i < l.length := by simpa using (List.getElem?_eq_some_iff.1 e).1
    have hb : l[i].1 = b := by simpa using (List.getElem?_eq_some_iff.1 e).2
    refine xixA i rfl (by omega) ?_
    refine h.drew.blk.st (o := 18 + i) (by rw [rowCells_length h16]; omega) rfl fun w2 hblk hsz he => ?_
    refine ⟨rfl, he.undrew, l.take i ++ (b, x) :: l.drop (i + 1), ?_, ?_⟩
    · have hl : l = l.take i ++ (b, l[i].2) :: l.drop (i + 1) := by
        conv => lhs; rw [← List.take_append_drop i l, List.drop_eq_getElem_cons hi]
        rw [← hb]
      have hr := h.rise
      have hmap : (l.take i ++ (b, x) :: l.drop (i + 1)).map (·.1) = l.map (·.1) := by
        conv => rhs; rw [hl]
        simp
      have hlen : (l.take i ++ (b, x) :: l.drop (i + 1)).length = l.length := by
        conv => rhs; rw [hl]
        simp
      refine ⟨?_, by rw [hmap]; exact hr, by rw [hlen]; exact h.le, h.top, h.pos⟩
      rw [hl, row_mid] at hblk
      rw [row_mid]
      have ht : (l.take i).length = i := by simp; omega
      have := hblk
      rw [show ∀ (A : List Value) (y : Value) (B C D : List Value) (z : Value) (E : List Value), A ++ y :: (B ++ C ++ D ++ z :: E) = (A ++ y :: (B ++ C ++ D)) ++ z :: E from fun A y B C D z E => by simp] at this ⊢
      rw [set_mid' (by simp [ht]; omega)] at this
      exact this
    · have hl : l = l.take i ++ (b, l[i].2) :: l.drop (i + 1) := by
        conv => lhs; rw [← List.take_append_drop i l, List.drop_eq_getElem_cons hi]
        rw [← hb]
      have hr := h.rise
      rw [hl] at hr
      have h1 := (rise_lkp hr).1
      funext c
      rw [lkp_here h1]
      unfold upd
      split
      · rfl
      · rename_i hc
        conv => rhs; rw [hl]
        rw [lkp_here h1, if_neg hc]
  · refine xifF (decide_eq_false e) ?_
    have hnb : b ∉ l.map (·.1) := fun hb => e ((hat.mem h.rise).1 hb)
    have hk : lkp l b = none := lkp_none hnb
    have hlt : l.length < room := by
      rcases hf with hf | hf
      · exact hf
      · rw [hk] at hf; cases hf
    have hil : i ≤ l.length := by simpa using hat.le
    obtain ⟨p, q, rfl, hp⟩ : ∃ p q, l = p ++ q ∧ p.length = i := ⟨l.take i, l.drop i, (List.take_append_drop i l).symm, by simp; omega⟩
    have hlo : ∀ c ∈ p.map (·.1), c.toNat < b.toNat := by
      intro c hc
      obtain ⟨j, hj, e⟩ := List.mem_iff_getElem.1 hc
      refine hat.lo j c (by simp at hj; omega) ?_
      rw [List.map_append, List.getElem?_append_left hj, List.getElem?_eq_getElem hj, e]
    have hhi : ∀ c ∈ q.map (·.1), b.toNat < c.toNat := by
      intro c hc
      obtain ⟨j, hj, e⟩ := List.mem_iff_getElem.1 hc
      have h1 : ((p ++ q).map (·.1))[p.length + j]? = some c := by
        rw [List.map_append, List.getElem?_append_right (by simp)]
        simp only [List.length_map, Nat.add_sub_cancel_left]
        rw [List.getElem?_eq_getElem hj, e]
      have h2 := hat.hi (p.length + j) c (by omega) h1
      rcases Nat.lt_or_ge b.toNat c.toNat with h3 | h3
      · exact h3
      · exfalso
        have : b = c := UInt8.toNat_inj.1 (by omega)
        subst this
        exact hnb (by rw [List.map_append]; exact List.mem_append.2 (.inr hc))
    simp only [List.length_append] at hlt h16 hil
    have hpq : (p ++ q).length = p.length + q.length := by simp
    have htop := h.top
    obtain ⟨k, hk'⟩ : ∃ k, 16 - (p ++ q).length = k + 1 := ⟨15 - (p ++ q).length, by omega⟩
    have hk2 : 16 - (p.length + q.length + 1) = k := by omega
    obtain ⟨r0, B0, hB, hBl⟩ : ∃ r0 B0, (q.map fun p => bv p.1) ++ [bv 0] = r0 :: B0 ∧ B0.length = q.length := by
      cases q with
      | nil => exact ⟨bv 0, [], rfl, rfl⟩
      | cons a q => exact ⟨bv a.1, (q.map fun p => bv p.1) ++ [bv 0], rfl, by simp⟩
    obtain ⟨x0, C0, hC, hCl⟩ : ∃ x0 C0, (q.map fun p => Value.pointer (some p.2)) ++ [.pointer none] = x0 :: C0 ∧ C0.length = q.length := by
      cases q with
      | nil => exact ⟨.pointer none, [], rfl, rfl⟩
      | cons a q => exact ⟨.pointer (some a.2), (q.map fun p => .pointer (some p.2)) ++ [.pointer none], rfl, by simp⟩
    have hcells : rowCells room (p ++ q) = (([.int .i64 room, .int .i64 (p ++ q).length] ++ (p.map fun p => bv p.1)) ++ [r0]) ++ B0 ++
        (List.replicate k (bv 0) ++ (p.map fun p => .pointer (some p.2)) ++ [x0] ++ C0 ++ List.replicate k (.pointer none)) := by
      have e1 : ∀ X : List Value, (q.map fun p => bv p.1) ++ bv 0 :: X = r0 :: (B0 ++ X) := fun X => by
        have := congrArg (· ++ X) hB
        simpa using this
      have e2 : ∀ X : List Value, (q.map fun p => Value.pointer (some p.2)) ++ .pointer none :: X = x0 :: (C0 ++ X) := fun X => by
        have := congrArg (· ++ X) hC
        simpa using this
      unfold rowCells
      rw [hk', List.replicate_succ, List.replicate_succ]
      simp only [List.map_append, List.append_assoc, List.cons_append, List.nil_append, e1, e2]
    refine h.drew.drew.n ?_
    refine h.drew.drew.r ?_
    refine xifE (fun he => by simp only [List.length_append] at he; omega) fun _ => ?_
    refine xi (r := ((i + 1 : Nat) : Int)) (by rw [wrapI (by omega)]; omega) ?_
    refine cut_lo (o := 2) (i + 1) rfl (by omega) fun o1 ho1 ho1' => ?_
    refine h.drew.drew.drew.n ?_
    refine cut_b (o := 2) i (p ++ q).length rfl rfl (by omega) (by omega) fun o2 ho2 _ => ?_
    have ho2 := ho2 (by omega)
    have hblk := h.drew.drew.drew.blk
    have hlen := rowCells_length (room := room) h.le16
    rw [hcells] at hblk hlen
    refine copy_in (ys := q.map fun p => bv p.1) ei_u8 hblk (fun hn => ?_) (by rw [hlen]; omega) (by omega) ?_ (by rw [hlen]; omega) (by omega) (by omega) ?_ fun w1 hb1 hz1 he1 => ?_
    · rw [ho1 (by omega)]; simp; omega
    · rw [← hcells, ho2]
      have : rowCells room (p ++ q) = ([.int .i64 room, .int .i64 (p ++ q).length] ++ (p.map fun p => bv p.1)) ++ ((q.map fun p => bv p.1) ++ (List.replicate (16 - (p ++ q).length) (bv 0) ++ (((p ++ q).map fun p => .pointer (some p.2)) ++ List.replicate (16 - (p ++ q).length) (.pointer none)))) := by
        unfold rowCells; simp [List.append_assoc]
      rw [this, List.drop_left' (by simp; omega), List.take_left' (by simp; omega)]
    · intro v hv
      obtain ⟨c, -, rfl⟩ := List.mem_map.1 hv
      rfl
    refine xi (r := ((i + 1 : Nat) : Int)) (by rw [wrapI (by omega)]; omega) ?_
    refine cut_lo (o := 18) (i + 1) rfl (by omega) fun o3 ho3 ho3' => ?_
    refine hb1.drew.ld (v := .int .i64 (p ++ q).length) rfl ?_
    refine cut_b (o := 18) i (p ++ q).length rfl rfl (by omega) (by omega) fun o4 ho4 _ => ?_
    have ho4 := ho4 (by omega)
    have hb1' : Blk w1.drew rb (([.int .i64 room, .int .i64 (p ++ q).length] ++ (p.map fun p => bv p.1) ++ [r0] ++ (q.map fun p => bv p.1) ++ List.replicate k (bv 0) ++ (p.map fun p => .pointer (some p.2)) ++ [x0]) ++ C0 ++ List.replicate k (.pointer none)) T_small_Row := by
      have := hb1.drew
      simpa only [List.append_assoc] using this
    have hlen2 : (([.int .i64 room, .int .i64 (p ++ q).length] ++ (p.map fun p => bv p.1) ++ [r0] ++ (q.map fun p => bv p.1) ++ List.replicate k (bv 0) ++ (p.map fun p => .pointer (some p.2)) ++ [x0]) ++ C0 ++ List.replicate k (.pointer none) : List Value).length = 34 := by
      simp; omega
    refine copy_in (ys := q.map fun p => .pointer (some p.2)) ei_p hb1' (fun hn => ?_) (by rw [hlen2]; omega) (by omega) ?_ (by rw [hlen2]; omega) (by omega) (by omega) ?_ fun w2 hb2 hz2 he2 => ?_
    · rw [ho3 (by omega)]; simp; omega
    · have e2 : ∀ X : List Value, (q.map fun p => Value.pointer (some p.2)) ++ .pointer none :: X = x0 :: (C0 ++ X) := fun X => by
        have := congrArg (· ++ X) hC
        simpa using this
      have : ∀ A : List Value, A ++ [x0] ++ C0 ++ List.replicate k (.pointer none) = A ++ ((q.map fun p => .pointer (some p.2)) ++ List.replicate (k + 1) (.pointer none)) := fun A => by
        rw [List.replicate_succ, e2]; simp
      rw [this, ho4, List.drop_left' (by simp; omega), List.take_left' (by simp; omega)]
    · intro v hv
      obtain ⟨c, -, rfl⟩ := List.mem_map.1 hv
      rfl
    have hlen3 : (([.int .i64 room, .int .i64 (p ++ q).length] ++ (p.map fun p => bv p.1) ++ [r0] ++ (q.map fun p => bv p.1) ++ List.replicate k (bv 0) ++ (p.map fun p => .pointer (some p.2)) ++ [x0]) ++ (q.map fun p => .pointer (some p.2)) ++ List.replicate k (.pointer none) : List Value).length = 34 := by
      simp; omega
    refine xixA i rfl (by omega) ?_
    refine hb2.drew.st (o := 2 + i) (by rw [hlen3]; omega) rfl fun w3 hb3 hz3 he3 => ?_
    have hb3' : Blk w3 rb (([.int .i64 room, .int .i64 (p ++ q).length] ++ (p.map fun p => bv p.1) ++ [bv b] ++ (q.map fun p => bv p.1) ++ List.replicate k (bv 0) ++ (p.map fun p => .pointer (some p.2))) ++ x0 :: ((q.map fun p => .pointer (some p.2)) ++ List.replicate k (.pointer none))) T_small_Row := by
      have h3 : Blk w3 rb ((([Value.int .i64 room, Value.int .i64 (p ++ q).length] ++ (p.map fun p : UInt8 × Addr => bv p.1)) ++ r0 :: ((q.map fun p : UInt8 × Addr => bv p.1) ++ List.replicate k (bv 0) ++ (p.map fun p : UInt8 × Addr => Value.pointer (some p.2)) ++ x0 :: ((q.map fun p : UInt8 × Addr => Value.pointer (some p.2)) ++ List.replicate k (Value.pointer none))) : List Value).set (2 + i) (bv b)) T_small_Row := by
        simpa only [List.append_assoc, List.singleton_append, List.cons_append, List.nil_append] using hb3
      rw [set_mid' (by simp; omega)] at h3
      simpa only [List.append_assoc, List.singleton_append, List.cons_append, List.nil_append] using h3
    refine xixA i rfl (by omega) ?_
    refine hb3'.st (o := 18 + i) (by simp; omega) rfl fun w4 hb4 hz4 he4 => ?_
    rw [set_mid' (by simp; omega)] at hb4
    refine hb4.ld (v := .int .i64 (p ++ q).length) rfl ?_
    refine xi (r := ((p.length + q.length + 1 : Nat) : Int)) (by rw [wrapI (by omega)]; omega) ?_
    refine hb4.st (o := 1) (by simp) rfl fun w5 hb5 hz5 he5 => ?_
    refine ⟨rfl, ((((he1.undrew.undrew.undrew).transS he2.undrew).transS he3.undrew).transS he4).transS he5, p ++ (b, x) :: q, ⟨?_, ?_, by simp; omega, h.top, h.pos⟩, ?_⟩
    · rw [row_mid, hk2]
      simpa [List.append_assoc] using hb5
    · have hr := h.rise
      simp only [List.map_append, List.map_cons] at hr ⊢
      obtain ⟨h1, h2, h3⟩ := List.pairwise_append.1 hr
      refine List.pairwise_append.2 ⟨h1, List.pairwise_cons.2 ⟨hhi, h2⟩, fun a ha c hc => ?_⟩
      rcases List.mem_cons.1 hc with e | hc
      · subst e; exact hlo a ha
      · exact h3 a ha c hc
    · funext c
      rw [lkp_here hlo]
      rfl
end
end Go.Proofs.YtbleadagnpckbaaGreatDoor
end
section
namespace Go.Proofs.YtbleadagnpckbaaGreatDoor
open Go Go.RowKit X
set_option linter.unusedSimpArgs false
set_option linter.unusedVariables false

theorem snoc {α : Type} : ∀ (a : α) (l : List α), ∃ B r, a :: l = B ++ [r] ∧ B.length = l.length
  | a, [] => ⟨[], a, rfl, rfl⟩
  | a, x :: l => by
    obtain ⟨B, r, h1, h2⟩ := snoc x l
    exact ⟨a :: B, r, by rw [h1]; rfl, by simp [h2]⟩
section
variable {w : World} {rb room : Nat}
theorem rise_drop {p q : List (UInt8 × Addr)} {b : UInt8} {x : Addr} (hr : Rise ((p ++ (b, x) :: q).map (·.1))) : Rise ((p ++ q).map (·.1)) := by
  simp only [List.map_append, List.map_cons] at hr ⊢
  obtain ⟨h1, h2, h3⟩ := List.pairwise_append.1 hr
  exact List.pairwise_append.2 ⟨h1, (List.pairwise_cons.1 h2).2, fun a ha c hc => h3 a ha c (by simp [hc])⟩
theorem lkp_gone {p q : List (UInt8 × Addr)} {b : UInt8} {x : Addr} (hr : Rise ((p ++ (b, x) :: q).map (·.1))) : lkp (p ++ q) = upd (lkp (p ++ (b, x) :: q)) b none := by
  obtain ⟨h1, h2⟩ := rise_lkp hr
  funext c
  unfold upd
  rw [lkp_here h1]
  by_cases h : c = b
  · subst h
    rw [if_pos rfl]
    refine lkp_none fun hc => ?_
    rw [List.map_append] at hc
    rcases List.mem_append.1 hc with hc | hc
    · have := h1 c hc; omega
    · have := h2 c hc; omega
  · rw [if_neg h, if_neg h]

theorem c_RowDrop {l : List (UInt8 × Addr)} {b : UInt8} (h : Row w rb room l) (hf : (lkp l b).isSome) :
    Ret P n_small_Row_Drop [rp rb, bv b] w fun v w' => v = .int .i64 0 ∧ Ext (· = rb) w w' ∧ ∃ l', Row w' rb room l' ∧ lkp l' = upd (lkp l) b none := by
  refine W_small_Row_Drop ?_
  refine (c_RowOk h).mono ?_
  rintro v w' ⟨rfl, rfl⟩
  refine (c_RowPlace h).mono ?_
  rintro v w1 ⟨i, rfl, hat, rfl⟩
  have h16 := h.le16
  have e : (l.map (·.1))[i]? = some b := by
    refine (hat.mem h.rise).1 ?_
    by_cases hc : b ∈ l.map (·.1)
    · exact hc
    · rw [lkp_none hc] at hf; cases hf
  refine xifF (by rw [decide_eq_true e]; rfl) ?_
  have hi : i < l.length := by simpa using (List.getElem?_eq_some_iff.1 e).1
  have hb : l[i].1 = b := by simpa using (List.getElem?_eq_some_iff.1 e).2
  obtain ⟨p, q, x, rfl, hp⟩ : ∃ p q x, l = p ++ (b, x) :: q ∧ p.length = i := ⟨l.take i, l.drop (i + 1), l[i].2, by
    conv => lhs; rw [← List.take_append_drop i l, List.drop_eq_getElem_cons hi]
    rw [← hb], by simp; omega⟩
  have hn : (p ++ (b, x) :: q).length = p.length + q.length + 1 := by simp; omega
  rw [hn] at h16 hi
  have htop := h.top
  have hcl := rowCells_length (room := room) h.le16
  -- the bytes and the things behind this one, one place ahead
  obtain ⟨B0, rn, hB, hBl⟩ : ∃ B0 rn, bv b :: (q.map fun p => bv p.1) = B0 ++ [rn] ∧ B0.length = q.length := by
    obtain ⟨B, r, h1, h2⟩ := snoc (bv b) (q.map fun p => bv p.1)
    exact ⟨B, r, h1, by simpa using h2⟩
  obtain ⟨C0, xn, hC, hCl⟩ : ∃ C0 xn, Value.pointer (some x) :: (q.map fun p => Value.pointer (some p.2)) = C0 ++ [xn] ∧ C0.length = q.length := by
    obtain ⟨B, r, h1, h2⟩ := snoc (Value.pointer (some x)) (q.map fun p => Value.pointer (some p.2))
    exact ⟨B, r, h1, by simpa using h2⟩
  have e1 : ∀ X : List Value, bv b :: ((q.map fun p => bv p.1) ++ X) = B0 ++ rn :: X := fun X => by
    have := congrArg (· ++ X) hB
    simpa using this
  have e2 : ∀ X : List Value, Value.pointer (some x) :: ((q.map fun p => Value.pointer (some p.2)) ++ X) = C0 ++ xn :: X := fun X => by
    have := congrArg (· ++ X) hC
    simpa using this
  generalize hk : 16 - (p.length + q.length + 1) = k at *
  have hk16 : 16 - (p.length + q.length) = k + 1 := by omega
  have hcells : rowCells room (p ++ (b, x) :: q) = ([.int .i64 room, .int .i64 (p.length + q.length + 1 : Nat)] ++ (p.map fun p => bv p.1)) ++ B0 ++
      (rn :: (List.replicate k (bv 0) ++ ((p.map fun p => Value.pointer (some p.2)) ++ (C0 ++ xn :: List.replicate k (.pointer none))))) := by
    rw [row_mid, hk]
    simp only [List.append_assoc, List.cons_append, List.nil_append, e1, e2]
  refine cut_lo (o := 2) i rfl (by omega) fun o1 ho1 _ => ?_
  have ho1 := ho1 (by omega)
  refine xi (r := ((i + 1 : Nat) : Int)) (by rw [wrapI (by omega)]; omega) ?_
  refine h.drew.drew.n ?_
  refine cut_b (o := 2) (i + 1) (p ++ (b, x) :: q).length rfl rfl (by omega) (by omega) fun o2 ho2 ho2' => ?_
  have hblk := h.drew.drew.blk
  have hqn : (p ++ (b, x) :: q).length - (i + 1) = q.length := by omega
  rw [hqn]
  rw [hcells] at hblk hcl
  refine copy_in (ys := q.map fun p => bv p.1) ei_u8 hblk (fun hq => by rw [ho1]; simp; omega) (by rw [hcl]; omega) (by omega) ?_ (by rw [hcl]; omega) (by omega) (by omega) ?_ fun w1 hb1 hz1 he1 => ?_
  · by_cases hq : q.length = 0
    · have : q = [] := List.eq_nil_of_length_eq_zero hq
      subst this; simp
    · rw [← hcells, ho2 (by omega), row_mid, hk]
      have : ∀ (A B C D : List Value) (y z : Value), A ++ y :: (B ++ C ++ D ++ z :: B) = A ++ y :: (B ++ C ++ D ++ z :: B) := fun _ _ _ _ _ _ => rfl
      rw [show ∀ (A E : List Value) (y : Value), A ++ y :: E = (A ++ [y]) ++ E from fun A E y => by simp, List.append_assoc (q.map fun p => bv p.1), List.append_assoc (q.map fun p => bv p.1), List.drop_left' (by simp; omega), List.take_left' (by simp)]
  · intro v hv
    obtain ⟨c, -, rfl⟩ := List.mem_map.1 hv
    rfl
  refine cut_lo (o := 18) i rfl (by omega) fun o3 ho3 _ => ?_
  have ho3 := ho3 (by omega)
  refine xi (r := ((i + 1 : Nat) : Int)) (by rw [wrapI (by omega)]; omega) ?_
  refine hb1.drew.ld (v := .int .i64 (p.length + q.length + 1 : Nat)) rfl ?_
  refine cut_b (o := 18) (i + 1) (p.length + q.length + 1) rfl rfl (by omega) (by omega) fun o4 ho4 ho4' => ?_
  have hqn2 : p.length + q.length + 1 - (i + 1) = q.length := by omega
  rw [hqn2]
  have hb1' : Blk w1.drew rb (([.int .i64 room, .int .i64 (p.length + q.length + 1 : Nat)] ++ ((p.map fun p => bv p.1) ++ ((q.map fun p => bv p.1) ++ rn :: (List.replicate k (bv 0) ++ (p.map fun p => Value.pointer (some p.2)))))) ++ C0 ++ xn :: List.replicate k (.pointer none)) T_small_Row := by
    have := hb1.drew
    simpa only [List.append_assoc, List.cons_append, List.nil_append] using this
  have hl2 : (([Value.int .i64 room, .int .i64 (p.length + q.length + 1 : Nat)] ++ ((p.map fun p : UInt8 × Addr => bv p.1) ++ ((q.map fun p : UInt8 × Addr => bv p.1) ++ rn :: (List.replicate k (bv 0) ++ (p.map fun p : UInt8 × Addr => Value.pointer (some p.2)))))) ++ C0 ++ xn :: List.replicate k (.pointer none) : List Value).length = 34 := by simp; omega
  refine copy_in (ys := q.map fun p => .pointer (some p.2)) ei_p hb1' (fun hq => by rw [ho3]; simp; omega) (by rw [hl2]; omega) (by omega) ?_ (by rw [hl2]; omega) (by omega) (by omega) ?_ fun w2 hb2 hz2 he2 => ?_
  · by_cases hq : q.length = 0
    · have : q = [] := List.eq_nil_of_length_eq_zero hq
      subst this; simp
    · rw [ho4 (by omega), List.append_assoc, ← e2, show ∀ (A E : List Value) (y : Value), A ++ y :: E = (A ++ [y]) ++ E from fun A E y => by simp, List.drop_left' (by simp; omega), List.take_left' (by simp)]
  · intro v hv
    obtain ⟨c, -, rfl⟩ := List.mem_map.1 hv
    rfl
  refine hb2.ld (v := .int .i64 (p.length + q.length + 1 : Nat)) rfl ?_
  refine xi (r := ((p.length + q.length : Nat) : Int)) (by rw [wrapI (by omega)]; omega) ?_
  refine hb2.st (o := 1) (by simp) rfl fun w3 hb3 hz3 he3 => ?_
  have hb3' : Blk w3 rb (([.int .i64 room, .int .i64 (p.length + q.length : Nat)] ++ ((p.map fun p => bv p.1) ++ (q.map fun p => bv p.1))) ++ rn :: (List.replicate k (bv 0) ++ (p.map fun p => Value.pointer (some p.2)) ++ (q.map fun p => .pointer (some p.2)) ++ xn :: List.replicate k (.pointer none))) T_small_Row := by
    have : ∀ (a b c : Value) (L : List Value), ([a, b] ++ L).set 1 c = [a, c] ++ L := fun _ _ _ _ => rfl
    have h4 := hb3
    simp only [List.append_assoc] at h4
    rw [this] at h4
    simpa only [List.append_assoc, List.cons_append, List.nil_append] using h4
  refine hb3'.drew.ld (v := .int .i64 (p.length + q.length : Nat)) rfl ?_
  refine hb3'.drew.ld (v := .int .i64 (p.length + q.length : Nat)) rfl ?_
  refine xixA (p.length + q.length) rfl (by omega) ?_
  refine hb3'.drew.st (o := 2 + (p.length + q.length)) (by simp; omega) rfl fun w4 hb4 hz4 he4 => ?_
  rw [set_mid' (by simp; omega)] at hb4
  refine xixA (p.length + q.length) rfl (by omega) ?_
  refine hb4.st (o := 18 + (p.length + q.length)) (by simp; omega) rfl fun w5 hb5 hz5 he5 => ?_
  refine ⟨rfl, (((he1.undrew.undrew.transS he2.undrew).transS he3).transS he4.undrew).transS he5, p ++ q, ⟨?_, rise_drop h.rise, ?_, h.top, h.pos⟩, lkp_gone h.rise⟩
  · have hb6 : Blk w5 rb ((([Value.int .i64 room, .int .i64 (p.length + q.length : Nat)] ++ ((p.map fun p : UInt8 × Addr => bv p.1) ++ ((q.map fun p : UInt8 × Addr => bv p.1) ++ bv 0 :: (List.replicate k (bv 0) ++ ((p.map fun p : UInt8 × Addr => Value.pointer (some p.2)) ++ (q.map fun p : UInt8 × Addr => Value.pointer (some p.2))))))) ++ xn :: List.replicate k (.pointer none)).set (18 + (p.length + q.length)) (.pointer none)) T_small_Row := by
      have h4 := hb5
      simp only [List.append_assoc, List.cons_append, List.nil_append] at h4 ⊢
      exact h4
    rw [set_mid' (by simp; omega)] at hb6
    have : rowCells room (p ++ q) = ([Value.int .i64 room, .int .i64 (p.length + q.length : Nat)] ++ ((p.map fun p : UInt8 × Addr => bv p.1) ++ ((q.map fun p : UInt8 × Addr => bv p.1) ++ bv 0 :: (List.replicate k (bv 0) ++ ((p.map fun p : UInt8 × Addr => Value.pointer (some p.2)) ++ (q.map fun p : UInt8 × Addr => Value.pointer (some p.2))))))) ++ .pointer none :: List.replicate k (.pointer none) := by
      unfold rowCells
      rw [List.length_append, hk16]
      simp [List.append_assoc, List.replicate_succ]
    rw [this]
    exact hb6
  · have := h.le
    rw [hn] at this
    rw [List.length_append]; omega

theorem c_RowCopy {l : List (UInt8 × Addr)} (h : Row w rb room l) : Ret P n_small_Row_Copy [rp rb] w fun v w' => ∃ b, v = rp b ∧ w.heap.size ≤ b ∧ Row w' b room l ∧ Ext No w w' := by
  refine W_small_Row_Copy ?_
  refine (c_RowOk h).mono ?_
  rintro v w' ⟨rfl, rfl⟩
  have hl := rowCells_length (room := room) h.le16
  refine h.blk.ldA hl ?_
  refine xnew fun b w1 hb hblk hz he => ?_
  refine xstoreVar hblk (by rw [hl]; kernel_rfl) (by rw [hl]; decide) ?_ fun w2 hb2 hz2 he2 => ?_
  · intro v hv
    unfold rowCells at hv
    simp only [List.mem_cons, List.mem_append, List.mem_map, List.mem_replicate] at hv
    rcases hv with rfl | rfl | ((⟨c, -, rfl⟩ | ⟨-, rfl⟩) | (⟨c, -, rfl⟩ | ⟨-, rfl⟩)) <;> rfl
  · refine ⟨b, rfl, by omega, ⟨?_, h.rise, h.le, h.top, h.pos⟩, he.trans1 he2 (by omega)⟩
    have e : z_small_Row.drop (0 + (rowCells room l).length) = [] := by rw [hl]; decide
    rw [e] at hb2
    simpa using hb2
theorem c_RowNew {r : Nat} (h0 : 0 < r) (h16 : r ≤ 16) : Ret P n_small_New_Node [.int .i64 r] w fun v w' => ∃ b, v = .tuple #[rp b, .int .i64 0] ∧ w.heap.size ≤ b ∧ Row w' b r [] ∧ Ext No w w' := by
  refine W_small_New_Node ?_
  refine xjd ?_
  refine xifD (fun hlt => by omega) fun _ => ?_
  intro g
  refine xifD (fun hgt => by omega) fun _ => ?_
  refine xnew fun b w1 hb hblk hz he => ?_
  refine ⟨b, rfl, by omega, ⟨?_, List.Pairwise.nil, by simp, h16, h0⟩, he⟩
  exact hblk
end
end Go.Proofs.YtbleadagnpckbaaGreatDoor
end
