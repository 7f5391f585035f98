/-  slices.BinarySearch, and the row of few things.  -/
import Derived.Test.YtidkkkdlaclolaaGreatKeys
section
section
namespace Go.Proofs.YtidkkkdlaclolaaGreat
open Go Go.RowKit X
set_option linter.unusedSimpArgs false
set_option linter.unusedVariables false

theorem wrapU64 {x : Int} (h : 0 ≤ x ∧ x < 18446744073709551616) : IntKind.u64.wrap x = x := by
  simp only [IntKind.wrap, IntKind.bits, IntKind.signed]
  simp
  omega
theorem wrapU8 {x : Int} (h : 0 ≤ x ∧ x < 256) : IntKind.u8.wrap x = x := by
  simp only [IntKind.wrap, IntKind.bits, IntKind.signed]
  simp
  omega
theorem wrapU16 {x : Int} (h : 0 ≤ x ∧ x < 65536) : IntKind.u16.wrap x = x := by
  simp only [IntKind.wrap, IntKind.bits, IntKind.signed]
  simp
  omega
theorem half {n : Nat} : ((n : Int).fdiv (2 ^ min (Int.toNat 1) IntKind.u64.bits)) = ((n / 2 : Nat) : Int) := by
  have : (2 : Int) ^ min (Int.toNat 1) IntKind.u64.bits = 2 := by decide
  rw [this, Int.fdiv_eq_ediv_of_nonneg _ (by omega)]
  omega

theorem c_slNaN {w : World} {a : UInt8} : Ret P n_slices_isNaN_byte [bv a] w fun v w' => v = .bool false ∧ w' = w := by
  refine W_slices_isNaN_byte ?_
  refine ⟨?_, rfl⟩
  simp
theorem c_cmpNaN {w : World} {a : UInt8} : Ret P n_cmp_isNaN_byte [bv a] w fun v w' => v = .bool false ∧ w' = w := by
  refine W_cmp_isNaN_byte ?_
  refine ⟨?_, rfl⟩
  simp
theorem c_Less {w : World} {a b : UInt8} : Ret P n_cmp_Less_byte [bv a, bv b] w fun v w' => v = .bool (decide ((a.toNat : Int) < b.toNat)) ∧ w' = w := by
  refine W_cmp_Less_byte ?_
  refine xjd ?_
  refine c_cmpNaN.mono ?_
  rintro v w' ⟨rfl, rfl⟩
  exact fun g => ⟨rfl, rfl⟩

/-- where a byte stands among bytes that rise, or would stand -/
structure At (bs : List UInt8) (b : UInt8) (i : Nat) : Prop where
  le : i ≤ bs.length
  lo : ∀ j c, j < i → bs[j]? = some c → c.toNat < b.toNat
  hi : ∀ j c, i ≤ j → bs[j]? = some c → b.toNat ≤ c.toNat

theorem X.Sl.rdb {w : World} {T : Nat → TypeId → Prop} {v : Value} {bs : List UInt8} {K : Value → Prop} {kd : IntKind} {i : Int} (h : Sl w T v 1 bs.length (bs.map bv)) (m : Nat) (hm : m < bs.length) (hi : i = (m : Int)) (k : K (bv (bs[m]))) :
    xIxS v (.int kd i) 1 fun u => xAt u fun a => XLd w a K := Sl.rd1 h m hi hm (by simp [hm]) k
theorem c_Search {w : World} {T : Nat → TypeId → Prop} {v : Value} {bs : List UInt8} {b : UInt8} (h : Sl w T v 1 bs.length (bs.map bv)) (hr : Rise bs) (hl : bs.length ≤ 4611686018427387904) :
    Ret P n_slices_BinarySearch_byte [v, bv b] w fun r w' => ∃ i : Nat, r = .tuple #[.int .i64 i, .bool (decide (bs[i]? = some b))] ∧ At bs b i ∧ w' = w := by
  refine W_slices_BinarySearch_byte ?_
  refine xLen_sl h ?_
  refine xloop (fun n vs w' => ∃ (i j : Nat) (x : Value), vs = [.int .i64 i, .int .i64 j, x] ∧ i ≤ j ∧ j ≤ bs.length ∧ n = j - i ∧ (∀ k c, k < i → bs[k]? = some c → c.toNat < b.toNat) ∧ (∀ k c, j ≤ k → bs[k]? = some c → b.toNat ≤ c.toNat) ∧ w' = w) bs.length
    ⟨0, bs.length, _, rfl, by omega, by omega, by omega, by omega, fun k c hk hc => ?_, rfl⟩ ?_
  · rw [List.getElem?_eq_none hk] at hc; cases hc
  rintro n vs g w1 ⟨i, j, x, rfl, hij, hj, rfl, h1, h2, rfl⟩
  refine xifD (fun hlt => ?_) fun hge => ?_
  · refine xi (r := ((i + j : Nat) : Int)) (by rw [wrapI (by omega)]; omega) ?_
    refine xi (r := ((i + j : Nat) : Int)) (wrapU64 (by omega)) ?_
    refine xi (r := (((i + j) / 2 : Nat) : Int)) half ?_
    refine xi (r := (((i + j) / 2 : Nat) : Int)) (wrapI (by omega)) ?_
    refine h.rdb ((i + j) / 2) (by omega) rfl ?_
    refine c_Less.mono ?_
    rintro r w' ⟨rfl, rfl⟩
    have hget : bs[(i + j) / 2]? = some bs[(i + j) / 2] := List.getElem?_eq_getElem (by omega)
    refine xifD (fun hl => ?_) fun hl => ?_
    · refine xi (r := (((i + j) / 2 + 1 : Nat) : Int)) (by rw [wrapI (by omega)]; omega) ?_
      refine xnext (j - ((i + j) / 2 + 1)) (by omega) ⟨_, _, _, rfl, by omega, by omega, rfl, fun k c hk hc => ?_, h2, rfl⟩
      rcases Nat.lt_or_ge k ((i + j) / 2) with h | h
      · have := List.pairwise_iff_getElem.1 hr k ((i + j) / 2) (List.getElem?_eq_some_iff.1 hc).1 (by omega) h
        rw [(List.getElem?_eq_some_iff.1 hc).2] at this
        omega
      · have : k = (i + j) / 2 := by omega
        subst this
        rw [hget] at hc
        cases hc
        omega
    · refine xnext ((i + j) / 2 - i) (by omega) ⟨_, _, _, rfl, by omega, by omega, rfl, h1, fun k c hk hc => ?_, rfl⟩
      rcases Nat.lt_or_ge ((i + j) / 2) k with h | h
      · have := List.pairwise_iff_getElem.1 hr ((i + j) / 2) k (by omega) (List.getElem?_eq_some_iff.1 hc).1 h
        rw [(List.getElem?_eq_some_iff.1 hc).2] at this
        omega
      · have : k = (i + j) / 2 := by omega
        subst this
        rw [hget] at hc
        cases hc
        omega
  · have : j = i := by omega
    subst this
    have hat : At bs b j := ⟨hj, h1, h2⟩
    refine xjd ?_
    refine xifD (fun hlt => ?_) fun hge => ?_
    · have hget : bs[j]? = some bs[j] := List.getElem?_eq_getElem (by omega)
      refine h.rdb j (by omega) rfl ?_
      refine xifE (fun he => ?_) fun he => ?_
      · intro g
        refine ⟨j, ?_, hat, rfl⟩
        rw [decide_eq_true]
        · rfl
        · rw [hget]
          exact congrArg some (UInt8.toNat_inj.1 (by exact_mod_cast he))
      · refine h.rdb j (by omega) rfl ?_
        refine c_slNaN.mono ?_
        rintro r w' ⟨rfl, rfl⟩
        intro g
        refine ⟨j, ?_, hat, rfl⟩
        rw [decide_eq_false]
        · rfl
        · rw [hget]
          intro e
          cases e
          exact he rfl
    · intro g
      refine ⟨j, ?_, hat, rfl⟩
      rw [decide_eq_false]
      · rfl
      · rw [List.getElem?_eq_none (by omega)]
        intro e
        cases e

/-! ### the row -/
def rowCells (room : Nat) (l : List (UInt8 × Addr)) : List Value :=
  .int .i64 room :: .int .i64 l.length :: ((l.map fun p => bv p.1) ++ List.replicate (16 - l.length) (bv 0) ++ ((l.map fun p => .pointer (some p.2)) ++ List.replicate (16 - l.length) (.pointer none)))
/-- what stands in a row by a byte -/
def lkp (l : List (UInt8 × Addr)) (b : UInt8) : Option Addr := (l.find? fun p => p.1 == b).map (·.2)
structure Row (w : World) (rb room : Nat) (l : List (UInt8 × Addr)) : Prop where
  blk : Blk w rb (rowCells room l) T_small_Row
  rise : Rise (l.map (·.1))
  le : l.length ≤ room
  top : room ≤ 16
  pos : 0 < room
theorem Row.ext {X : Nat → Prop} {w w' : World} {rb room : Nat} {l : List (UInt8 × Addr)} (h : Row w rb room l) (e : Ext X w w') (hx : ¬ X rb) : Row w' rb room l := ⟨h.blk.ext e hx, h.rise, h.le, h.top, h.pos⟩
theorem rowCells_length {room : Nat} {l : List (UInt8 × Addr)} (h : l.length ≤ 16) : (rowCells room l).length = 34 := by simp [rowCells]; omega
theorem rowCells_b {room : Nat} {l : List (UInt8 × Addr)} {i : Nat} (h : i < l.length) : (rowCells room l)[2 + i]? = some (bv l[i].1) := by
  have e : 2 + i = i + 1 + 1 := by omega
  rw [e, rowCells, List.getElem?_cons_succ, List.getElem?_cons_succ, List.getElem?_append_left (by simp; omega), List.getElem?_append_left (by simp; omega)]
  simp [h]
theorem rowCells_x {room : Nat} {l : List (UInt8 × Addr)} {i : Nat} (hl : l.length ≤ 16) (h : i < l.length) : (rowCells room l)[18 + i]? = some (.pointer (some l[i].2)) := by
  have e : 18 + i = (16 + i) + 1 + 1 := by omega
  rw [e, rowCells, List.getElem?_cons_succ, List.getElem?_cons_succ, List.getElem?_append_right (by simp; omega), List.getElem?_append_left (by simp; omega)]
  have : 16 + i - (List.map (fun p => bv p.1) l ++ List.replicate (16 - l.length) (bv 0)).length = i := by simp; omega
  rw [this]
  simp [h]
/-- the cells of a block as a slice -/
theorem X.Blk.sl {w : World} {b o n cap : Nat} {cs : List Value} {T : TypeId} (h : Blk w b cs T) (hc : o + cap ≤ cs.length) (hn : n ≤ cap) : Sl w (tyQ T) (.slice (some ⟨b, o, none⟩) n cap) 1 n ((cs.drop o).take n) :=
  ⟨_, cap, rfl, by simp; omega, hn, .inr ⟨b, o, _, T, (0, 0), rfl, rfl, h.h, by simpa using hc, fun i hi => by
    simp [List.getElem?_take, show i < n by omega, List.getElem?_drop]⟩⟩
theorem X.Blk.sln {w : World} {b n sz : Nat} {cs : List Value} {T : TypeId} (h : Blk w b cs T) (hl : cs.length = n * sz) : Sl w (tyQ T) (.slice (some ⟨b, 0, none⟩) n n) sz n cs :=
  ⟨_, n, rfl, hl, Nat.le_refl _, .inr ⟨b, 0, _, T, (0, 0), rfl, rfl, h.h, by simp [hl], fun i hi => by simp⟩⟩
theorem lkp_none {l : List (UInt8 × Addr)} {b : UInt8} (h : b ∉ l.map (·.1)) : lkp l b = none := by
  unfold lkp
  rw [List.find?_eq_none.2]
  · rfl
  · intro p hp
    simp only [beq_iff_eq]
    intro e
    exact h (List.mem_map.2 ⟨p, hp, e⟩)
theorem lkp_at {l : List (UInt8 × Addr)} (hr : Rise (l.map (·.1))) {i : Nat} (hi : i < l.length) : lkp l l[i].1 = some l[i].2 := by
  unfold lkp
  have hn := hr.nodup
  rw [(List.find?_eq_some_iff_getElem (p := fun p => p.1 == l[i].1) (b := l[i])).2]
  · rfl
  · refine ⟨by simp, i, hi, rfl, fun j hj => ?_⟩
    simp only [Bool.not_eq_true', beq_eq_false_iff_ne]
    intro e
    have := (List.getElem_inj (i := j) (j := i) (h₀ := by simp; omega) (h₁ := by simpa using hi) hn).1 (by simpa using e)
    omega
theorem lkp_dom {l : List (UInt8 × Addr)} (hr : Rise (l.map (·.1))) : dom (lkp l) = l.map (·.1) := by
  refine dom_eq hr fun c => ?_
  constructor
  · intro h
    obtain ⟨i, hi, e⟩ := List.mem_iff_getElem.1 h
    simp only [List.length_map] at hi
    simp only [List.getElem_map] at e
    subst e
    rw [lkp_at hr hi]
    rfl
  · intro h
    by_cases hc : c ∈ l.map (·.1)
    · exact hc
    · rw [lkp_none hc] at h; cases h
theorem lkp_cnt {l : List (UInt8 × Addr)} (hr : Rise (l.map (·.1))) : cnt (lkp l) = l.length := by unfold cnt; rw [lkp_dom hr]; simp

section
variable {w : World} {rb room : Nat} {l : List (UInt8 × Addr)}
abbrev rp (rb : Nat) : Value := .pointer (some ⟨rb, 0, none⟩)
theorem Row.n (h : Row w rb room l) {K : Value → Prop} (k : K (.int .i64 l.length)) : XLd w ⟨rb, 1, none⟩ K := h.blk.ld rfl k
theorem Row.r (h : Row w rb room l) {K : Value → Prop} (k : K (.int .i64 room)) : XLd w ⟨rb, 0, none⟩ K := h.blk.ld rfl k
theorem Row.le16 (h : Row w rb room l) : l.length ≤ 16 := Nat.le_trans h.le h.top
theorem c_RowOk (h : Row w rb room l) : Ret P n_small_Row_ok [rp rb] w fun v w' => v = .bool true ∧ w' = w := by
  refine W_small_Row_ok ?_
  refine xjd ?_
  refine h.r ?_
  have := h.pos
  exact fun g => ⟨by show Value.bool (decide ((room : Int) > 0)) = _; rw [decide_eq_true (by omega)], rfl⟩
theorem c_RowNil : Ret P n_small_Row_ok [.pointer none] w fun v w' => v = .bool false ∧ w' = w := by
  refine W_small_Row_ok ?_
  refine xjd ?_
  exact fun g => ⟨rfl, rfl⟩
theorem c_RowLen (h : Row w rb room l) : Ret P n_small_Row_Len [rp rb] w fun v w' => v = .int .i64 l.length ∧ w' = w := by
  refine W_small_Row_Len ?_
  refine (c_RowOk h).mono ?_
  rintro v w' ⟨rfl, rfl⟩
  exact h.n ⟨rfl, rfl⟩
theorem c_RowRoom (h : Row w rb room l) : Ret P n_small_Row_Room [rp rb] w fun v w' => v = .int .i64 room ∧ w' = w := by
  refine W_small_Row_Room ?_
  refine (c_RowOk h).mono ?_
  rintro v w' ⟨rfl, rfl⟩
  exact h.r ⟨rfl, rfl⟩
theorem Row.bs (h : Row w rb room l) : Sl w (tyQ T_small_Row) (.slice (some ⟨rb, 2, none⟩) l.length 16) 1 (l.map (·.1)).length ((l.map (·.1)).map bv) := by
  have := h.blk.sl (o := 2) (n := l.length) (cap := 16) (by rw [rowCells_length h.le16]; omega) h.le16
  have e : ((rowCells room l).drop 2).take l.length = (l.map (·.1)).map bv := by
    rw [rowCells]
    simp only [List.drop_succ_cons, List.drop_zero, List.append_assoc]
    rw [List.take_append_of_le_length (by simp), List.take_of_length_le (by simp)]
    simp
  rw [e] at this
  simpa using this
theorem c_RowPlace {b : UInt8} (h : Row w rb room l) : Ret P n_small_Row_place [rp rb, bv b] w fun r w' => ∃ i : Nat, r = .tuple #[.int .i64 i, .bool (decide ((l.map (·.1))[i]? = some b))] ∧ At (l.map (·.1)) b i ∧ w' = w.drew := by
  refine W_small_Row_place ?_
  have hd : Row w.drew rb room l := ⟨h.blk.drew, h.rise, h.le, h.top, h.pos⟩
  refine hd.n ?_
  refine xcutH l.length rfl h.le16 ?_
  refine (c_Search hd.bs h.rise (by have := h.le16; simp; omega)).mono ?_
  rintro r w' ⟨i, rfl, h1, rfl⟩
  exact ⟨i, rfl, h1, rfl⟩
end
end Go.Proofs.YtidkkkdlaclolaaGreat
end
section
namespace Go.Proofs.YtidkkkdlaclolaaGreat
open Go Go.RowKit X
set_option linter.unusedSimpArgs false
set_option linter.unusedVariables false

theorem splice {α : Type} {A B C ys : List α} {a : Nat} (ha : A.length = a) (hb : B.length = ys.length) : (A ++ B ++ C).take a ++ ys ++ (A ++ B ++ C).drop (a + ys.length) = A ++ ys ++ C := by
  subst ha
  rw [List.append_assoc A B C, List.take_left, ← List.append_assoc A B C, ← hb, ← List.length_append, List.drop_left]
theorem set_mid {α : Type} (A : List α) (x y : α) (C : List α) : (A ++ x :: C).set A.length y = A ++ y :: C := by
  induction A with
  | nil => rfl
  | cons a A ih => simp [ih]
theorem set_mid' {α : Type} {A : List α} {x y : α} {C : List α} {i : Nat} (h : A.length = i) : (A ++ x :: C).set i y = A ++ y :: C := by subst h; exact set_mid A x y C

theorem At.mem {bs : List UInt8} {b : UInt8} {i : Nat} (h : At bs b i) (hr : Rise bs) : b ∈ bs ↔ bs[i]? = some b := by
  constructor
  · intro hb
    obtain ⟨j, hj, e⟩ := List.mem_iff_getElem.1 hb
    have hj' : bs[j]? = some b := by rw [List.getElem?_eq_getElem hj, e]
    rcases Nat.lt_trichotomy j i with h1 | h1 | h1
    · have := h.lo j b h1 hj'; omega
    · subst h1; exact hj'
    · have h2 := h.hi i bs[i] (Nat.le_refl _) (List.getElem?_eq_getElem (by omega))
      have h3 := List.pairwise_iff_getElem.1 hr i j (by omega) hj h1
      rw [e] at h3
      omega
  · intro hb
    exact List.mem_of_getElem? hb
theorem At.find {bs : List UInt8} {b : UInt8} {i : Nat} (h : At bs b i) : bs.find? (fun c => decide (b.toNat ≤ c.toNat)) = bs[i]? := by
  have e : bs = bs.take i ++ bs.drop i := (List.take_append_drop i bs).symm
  conv => lhs; rw [e]
  rw [List.find?_append, List.find?_eq_none.2]
  · show (bs.drop i).find? _ = _
    cases hd : bs.drop i with
    | nil =>
      have : bs.length ≤ i := by simpa using hd
      rw [List.getElem?_eq_none this]; rfl
    | cons x r =>
      have hx : bs[i]? = some x := by
        have := congrArg (·[0]?) hd
        simpa using this
      have := h.hi i x (Nat.le_refl _) hx
      rw [hx, List.find?_cons_of_pos]
      simpa using this
  · intro c hc
    obtain ⟨j, hj, e⟩ := List.mem_iff_getElem.1 hc
    simp only [List.length_take] at hj
    simp only [List.getElem_take] at e
    have := h.lo j c (by omega) (by rw [List.getElem?_eq_getElem (by omega), e])
    simp only [decide_eq_true_eq]
    omega
theorem bv_of {n : Nat} (h : n < 256) : Value.int .u8 (n : Int) = bv (UInt8.ofNat n) := by
  congr 1
  have : (UInt8.ofNat n).toNat = n := by simp; omega
  rw [this]
theorem ofNat_toNat {n : Nat} (h : n < 256) : (UInt8.ofNat n).toNat = n := by simp; omega

/-- what 'Next' answers -/
def nextV (m : UInt8 → Option Addr) (i : Nat) : Value :=
  match nextB m i with
  | some c => .tuple #[bv c, .pointer (m c), .bool true]
  | none => .tuple #[.int .u8 0, .pointer none, .bool false]
/-- what 'Get' answers -/
def getV (m : UInt8 → Option Addr) (b : UInt8) : Value := .tuple #[.pointer (m b), .bool (m b).isSome]

section
variable {w : World} {rb room : Nat} {l : List (UInt8 × Addr)}
theorem Row.drew (h : Row w rb room l) : Row w.drew rb room l := ⟨h.blk.drew, h.rise, h.le, h.top, h.pos⟩
theorem Row.x (h : Row w rb room l) {K : Value → Prop} (i : Nat) (hi : i < l.length) (k : K (.pointer (some l[i].2))) : XLd w ⟨rb, 18 + i, none⟩ K := h.blk.ld (rowCells_x h.le16 hi) k
theorem Row.b (h : Row w rb room l) {K : Value → Prop} (i : Nat) (hi : i < l.length) (k : K (bv l[i].1)) : XLd w ⟨rb, 2 + i, none⟩ K := h.blk.ld (rowCells_b hi) k
/-- an array's element -/
theorem xixA {b o n : Nat} {kd : IntKind} {i : Int} {K : Value → Prop} (m : Nat) (hi : i = (m : Int)) (hm : m < n) (k : K (.pointer (some ⟨b, o + m, none⟩))) : xIxA (.pointer (some ⟨b, o, none⟩)) (.int kd i) n 1 K := by
  refine ⟨m, hi, hm, ?_⟩
  simp only [Addr.add_lit, Nat.mul_one]
  exact k

theorem c_RowGet {b : UInt8} (h : Row w rb room l) : Ret P n_small_Row_Get [rp rb, bv b] w fun v w' => v = getV (lkp l) b ∧ Ext No w w' := by
  refine W_small_Row_Get ?_
  refine (c_RowOk h).mono ?_
  rintro v w' ⟨rfl, rfl⟩
  refine (c_RowPlace h).mono ?_
  rintro v w1 ⟨i, rfl, hat, rfl⟩
  have hx : Ext No w' w'.drew := (Ext.refl No w').drew
  by_cases e : (l.map (·.1))[i]? = some b
  · have hi : i < l.length := by simpa using (List.getElem?_eq_some_iff.1 e).1
    have hb : l[i].1 = b := by simpa using (List.getElem?_eq_some_iff.1 e).2
    have hk : lkp l b = some l[i].2 := by rw [← hb]; exact lkp_at h.rise hi
    refine xifF (by rw [decide_eq_true e]; rfl) ?_
    refine xixA i rfl (by have := h.le16; omega) ?_
    refine h.drew.x i hi ⟨?_, hx⟩
    simp [getV, hk]
  · have hk : lkp l b = none := lkp_none fun hb => e ((hat.mem h.rise).1 hb)
    refine xifT (by rw [decide_eq_false e]; rfl) ⟨?_, hx⟩
    simp [getV, hk]
theorem c_RowAt {i : Nat} (h : Row w rb room l) : Ret P n_small_Row_at [rp rb, .int .i64 i] w fun v w' =>
    v = (match l[i]? with | some p => .tuple #[bv p.1, .pointer (some p.2), .bool true] | none => .tuple #[.int .u8 0, .pointer none, .bool false]) ∧ Ext No w w' := by
  refine W_small_Row_at ?_
  refine xjd ?_
  refine xifD (fun hn => by omega) fun _ => ?_
  refine h.n ?_
  intro g
  refine xifD (fun hge => ?_) fun hlt => ?_
  · refine ⟨?_, Ext.refl _ _⟩
    rw [List.getElem?_eq_none (by omega)]
  · have hi : i < l.length := by omega
    have := h.le16
    refine xixA i rfl (by omega) ?_
    refine h.drew.b i hi ?_
    refine xixA i rfl (by omega) ?_
    refine h.drew.x i hi ⟨?_, ?_, (Ext.refl No w).drew⟩
    · have := h.drew.blk.cell (18 + i)
      rw [rowCells_x h.le16 hi] at this
      exact this
    · rw [List.getElem?_eq_getElem hi]
theorem c_RowNext {i : Nat} (h : Row w rb room l) : Ret P n_small_Row_Next [rp rb, .int .i64 i] w fun v w' => v = nextV (lkp l) i ∧ Ext No w w' := by
  refine W_small_Row_Next ?_
  refine xjd ?_
  refine (c_RowOk h).mono ?_
  rintro v w' ⟨rfl, rfl⟩ g
  refine xifD (fun hgt => ?_) fun hle => ?_
  · refine ⟨?_, Ext.refl _ _⟩
    have : nextB (lkp l) i = none := nextB_none.2 fun c hc => by have := c.toNat_lt; omega
    simp [nextV, this]
  · have e0 : (if ((i : Int) < 0) then (0 : Int) else i) = i := by rw [if_neg (by omega)]
    refine xi (r := (i : Int)) ?_ ?_
    · show IntKind.u8.wrap (if (i : Int) < 0 then 0 else (i : Int)) = i
      rw [e0, wrapU8 (by omega)]
    rw [bv_of (by omega)]
    refine (c_RowPlace h).mono ?_
    rintro v w1 ⟨j, rfl, hat, rfl⟩
    refine (c_RowAt h.drew (i := j)).mono ?_
    rintro v w2 ⟨rfl, he⟩
    have hx : Ext No w' w2 := (Ext.refl No w').drew.transN he
    have hf := hat.find
    rw [ofNat_toNat (show i < 256 by omega)] at hf
    have hn : nextB (lkp l) i = (l.map (·.1))[j]? := by
      unfold nextB
      rw [lkp_dom h.rise]
      exact hf
    cases hj : l[j]? with
    | none =>
      refine ⟨?_, hx⟩
      rw [List.getElem?_map, hj] at hn
      simp [nextV, hn]
    | some p =>
      refine ⟨?_, hx⟩
      rw [List.getElem?_map, hj] at hn
      obtain ⟨hjl, e⟩ := List.getElem?_eq_some_iff.1 hj
      subst e
      simp [nextV, hn, lkp_at h.rise hjl]
end
end Go.Proofs.YtidkkkdlaclolaaGreat
end
section
namespace Go.Proofs.YtidkkkdlaclolaaGreat
open Go Go.RowKit X
set_option linter.unusedSimpArgs false
set_option linter.unusedVariables false

theorem ei_p : EI P T_s_p_node_Node T_p_node_Node 1 8 (.pointer none) := ⟨by kernel_rfl, by kernel_rfl, by rfl, by omega⟩

theorem X.Ext.undrew {X : Nat → Prop} {w w' : World} (h : Ext X w.drew w') : Ext X w w' := ⟨h.os, h.tape, h.output, h.size, h.same⟩
/-- an array's part, as a slice -/
theorem cut_lo {b o n : Nat} {kd : IntKind} {i : Int} {K : Value → Prop} (l : Nat) (hi : i = (l : Int)) (hl : l ≤ n) (k : ∀ o', (l < n → o' = o + l) → o' ≤ o + l → K (.slice (some ⟨b, o', none⟩) (n - l) (n - l))) : xCutA n 1 (.pointer (some ⟨b, o, none⟩)) (some (.int kd i)) none none K := by
  refine xcutL l hi hl ?_
  show K (.slice (some (if n = l then ⟨b, o, none⟩ else (⟨b, o, none⟩ : Addr).add (l * 1))) (n - l) (n - l))
  by_cases e : n = l
  · rw [if_pos e]; exact k o (fun h => by omega) (by omega)
  · rw [if_neg e, Addr.add_lit, Nat.mul_one]; exact k _ (fun _ => rfl) (Nat.le_refl _)
theorem cut_b {b o n : Nat} {kd kd' : IntKind} {i j : Int} {K : Value → Prop} (l h : Nat) (hi : i = (l : Int)) (hj : j = (h : Int)) (hl : l ≤ h) (hh : h ≤ n) (k : ∀ o', (l < n → o' = o + l) → o' ≤ o + l → K (.slice (some ⟨b, o', none⟩) (h - l) (n - l))) :
    xCutA n 1 (.pointer (some ⟨b, o, none⟩)) (some (.int kd i)) (some (.int kd' j)) none K := by
  refine xcutB l h hi hj hl hh ?_
  show K (.slice (some (if n = l then ⟨b, o, none⟩ else (⟨b, o, none⟩ : Addr).add (l * 1))) (h - l) (n - l))
  by_cases e : n = l
  · rw [if_pos e]; exact k o (fun h => by omega) (by omega)
  · rw [if_neg e, Addr.add_lit, Nat.mul_one]; exact k _ (fun _ => rfl) (Nat.le_refl _)

section
variable {w : World} {rb room : Nat}
/-- copy within a block: the cells at s (n of them) to o -/
theorem copy_in {t u ty e T : TypeId} {bytes : Nat} {z : Value} {A B C ys : List Value} {o s n dl dc sc : Nat} {K : Value → World → Prop} (hi : EI P t e 1 bytes z) (hg : Blk w rb (A ++ B ++ C) T) (ho : n ≠ 0 → A.length = o) (ho2 : o + n ≤ (A ++ B ++ C).length) (hb : B.length = n)
    (hs : ((A ++ B ++ C).drop s).take n = ys) (hsl : s + sc ≤ (A ++ B ++ C).length) (hn : n ≤ sc) (hd : n ≤ dl) (h1 : ∀ v ∈ ys, v.oneCell' = true)
    (k : ∀ w', Blk w' rb (A ++ ys ++ C) T → w'.heap.size = w.heap.size → Ext (· = rb) w w' → K (.int .i64 (n : Nat)) w') :
    XRun P (Builtin.copy_ #[t, u] ty #[.slice (some ⟨rb, o, none⟩) dl dc, .slice (some ⟨rb, s, none⟩) n sc]) w K := by
  have hy : ys.length = n := by
    have := congrArg List.length hs
    simp only [List.length_take, List.length_drop] at this
    omega
  have hsl' := hg.sl (o := s) (n := n) (cap := sc) hsl hn
  rw [hs] at hsl'
  refine copy_row hi hg hsl' (by rw [Nat.min_eq_left hd]; exact ho2) h1 fun w' hw hz he => ?_
  rw [Nat.min_eq_left hd, List.take_of_length_le (l := ys) (by omega)] at hw
  rw [Nat.min_eq_left hd]
  refine k w' ?_ hz he
  by_cases hn0 : n = 0
  · subst hn0
    have h1 : ys = [] := List.eq_nil_of_length_eq_zero hy
    have h2 : B = [] := List.eq_nil_of_length_eq_zero hb
    subst h1; subst h2
    simpa using hw
  · have := splice (A := A) (B := B) (C := C) (ys := ys) (ho hn0) (by omega)
    rw [hy] at this
    rw [this] at hw
    exact hw
theorem lkp_append {p q : List (UInt8 × Addr)} {c : UInt8} : lkp (p ++ q) c = (lkp p c).or (lkp q c) := by
  unfold lkp
  rw [List.find?_append]
  cases List.find? (fun x => x.1 == c) p <;> rfl
theorem lkp_cons {b : UInt8} {x : Addr} {q : List (UInt8 × Addr)} {c : UInt8} : lkp ((b, x) :: q) c = if c = b then some x else lkp q c := by
  unfold lkp
  rw [List.find?_cons]
  by_cases h : b = c
  · subst h; simp
  · have : (b == c) = false := by simpa using h
    rw [if_neg (fun e => h e.symm)]
    simp [this]
/-- a row that has the byte at p.length -/
theorem row_mid {p q : List (UInt8 × Addr)} {b : UInt8} {x : Addr} : rowCells room (p ++ (b, x) :: q) =
    (.int .i64 room :: .int .i64 (p.length + q.length + 1 : Nat) :: (p.map fun p => bv p.1)) ++ bv b :: ((q.map fun p => bv p.1) ++ List.replicate (16 - (p.length + q.length + 1)) (bv 0) ++
      (p.map fun p => .pointer (some p.2)) ++ .pointer (some x) :: ((q.map fun p => .pointer (some p.2)) ++ List.replicate (16 - (p.length + q.length + 1)) (.pointer none))) := by
  have : (p ++ (b, x) :: q).length = p.length + q.length + 1 := by simp; omega
  unfold rowCells
  rw [this]
  simp [List.append_assoc]
theorem rise_lkp {p q : List (UInt8 × Addr)} {b : UInt8} {x : Addr} (hr : Rise ((p ++ (b, x) :: q).map (·.1))) : (∀ c ∈ p.map (·.1), c.toNat < b.toNat) ∧ (∀ c ∈ q.map (·.1), b.toNat < c.toNat) := by
  simp only [List.map_append, List.map_cons] at hr
  obtain ⟨h1, h2, h3⟩ := List.pairwise_append.1 hr
  exact ⟨fun c hc => h3 c hc b (by simp), fun c hc => (List.pairwise_cons.1 h2).1 c hc⟩
theorem lkp_here {p q : List (UInt8 × Addr)} {b : UInt8} {x : Addr} (hp : ∀ c ∈ p.map (·.1), c.toNat < b.toNat) {c : UInt8} : lkp (p ++ (b, x) :: q) c = if c = b then some x else (lkp (p ++ q) c) := by
  rw [lkp_append, lkp_cons, lkp_append]
  by_cases h : c = b
  · subst h
    rw [lkp_none (l := p) (b := c) (fun hc => by have := hp c hc; omega)]
    simp
  · simp [h]

theorem c_RowSet {l : List (UInt8 × Addr)} {b : UInt8} {x : Addr} (h : Row w rb room l) (hf : l.length < room ∨ (lkp l b).isSome) :
    Ret P n_small_Row_Set [rp rb, bv b, .pointer (some x)] w fun v w' => v = .int .i64 0 ∧ Ext (· = rb) w w' ∧ ∃ l', Row w' rb room l' ∧ lkp l' = upd (lkp l) b (some x) := by
  refine W_small_Row_Set ?_
  refine (c_RowOk h).mono ?_
  rintro v w' ⟨rfl, rfl⟩
  refine (c_RowPlace h).mono ?_
  rintro v w1 ⟨i, rfl, hat, rfl⟩
  have h16 := h.le16
  by_cases e : (l.map (·.1))[i]? = some b
  · refine xifT (decide_eq_true e) ?_
    have hi : i < l.length := by simpa using (List.getElem?_eq_some_iff.1 e).1
    have hb : l[i].1 = b := by simpa using (List.getElem?_eq_some_iff.1 e).2
    refine xixA i rfl (by omega) ?_
    refine h.drew.blk.st (o := 18 + i) (by rw [rowCells_length h16]; omega) rfl fun w2 hblk hsz he => ?_
    refine ⟨rfl, he.undrew, l.take i ++ (b, x) :: l.drop (i + 1), ?_, ?_⟩
    · have hl : l = l.take i ++ (b, l[i].2) :: l.drop (i + 1) := by
        conv => lhs; rw [← List.take_append_drop i l, List.drop_eq_getElem_cons hi]
        rw [← hb]
      have hr := h.rise
      have hmap : (l.take i ++ (b, x) :: l.drop (i + 1)).map (·.1) = l.map (·.1) := by
        conv => rhs; rw [hl]
        simp
      have hlen : (l.take i ++ (b, x) :: l.drop (i + 1)).length = l.length := by
        conv => rhs; rw [hl]
        simp
      refine ⟨?_, by rw [hmap]; exact hr, by rw [hlen]; exact h.le, h.top, h.pos⟩
      rw [hl, row_mid] at hblk
      rw [row_mid]
      have ht : (l.take i).length = i := by simp; omega
      have := hblk
      rw [show ∀ (A : List Value) (y : Value) (B C D : List Value) (z : Value) (E : List Value), A ++ y :: (B ++ C ++ D ++ z :: E) = (A ++ y :: (B ++ C ++ D)) ++ z :: E from fun A y B C D z E => by simp] at this ⊢
      rw [set_mid' (by simp [ht]; omega)] at this
      exact this
    · have hl : l = l.take i ++ (b, l[i].2) :: l.drop (i + 1) := by
        conv => lhs; rw [← List.take_append_drop i l, List.drop_eq_getElem_cons hi]
        rw [← hb]
      have hr := h.rise
      rw [hl] at hr
      have h1 := (rise_lkp hr).1
      funext c
      rw [lkp_here h1]
      unfold upd
      split
      · rfl
      · rename_i hc
        conv => rhs; rw [hl]
        rw [lkp_here h1, if_neg hc]
  · refine xifF (decide_eq_false e) ?_
    have hnb : b ∉ l.map (·.1) := fun hb => e ((hat.mem h.rise).1 hb)
    have hk : lkp l b = none := lkp_none hnb
    have hlt : l.length < room := by
      rcases hf with hf | hf
      · exact hf
      · rw [hk] at hf; cases hf
    have hil : i ≤ l.length := by simpa using hat.le
    obtain ⟨p, q, rfl, hp⟩ : ∃ p q, l = p ++ q ∧ p.length = i := ⟨l.take i, l.drop i, (List.take_append_drop i l).symm, by simp; omega⟩
    have hlo : ∀ c ∈ p.map (·.1), c.toNat < b.toNat := by
      intro c hc
      obtain ⟨j, hj, e⟩ := List.mem_iff_getElem.1 hc
      refine hat.lo j c (by simp at hj; omega) ?_
      rw [List.map_append, List.getElem?_append_left hj, List.getElem?_eq_getElem hj, e]
    have hhi : ∀ c ∈ q.map (·.1), b.toNat < c.toNat := by
      intro c hc
      obtain ⟨j, hj, e⟩ := List.mem_iff_getElem.1 hc
      have h1 : ((p ++ q).map (·.1))[p.length + j]? = some c := by
        rw [List.map_append, List.getElem?_append_right (by simp)]
        simp only [List.length_map, Nat.add_sub_cancel_left]
        rw [List.getElem?_eq_getElem hj, e]
      have h2 := hat.hi (p.length + j) c (by omega) h1
      rcases Nat.lt_or_ge b.toNat c.toNat with h3 | h3
      · exact h3
      · exfalso
        have : b = c := UInt8.toNat_inj.1 (by omega)
        subst this
        exact hnb (by rw [List.map_append]; exact List.mem_append.2 (.inr hc))
    simp only [List.length_append] at hlt h16 hil
    have hpq : (p ++ q).length = p.length + q.length := by simp
    have htop := h.top
    obtain ⟨k, hk'⟩ : ∃ k, 16 - (p ++ q).length = k + 1 := ⟨15 - (p ++ q).length, by omega⟩
    have hk2 : 16 - (p.length + q.length + 1) = k := by omega
    obtain ⟨r0, B0, hB, hBl⟩ : ∃ r0 B0, (q.map fun p => bv p.1) ++ [bv 0] = r0 :: B0 ∧ B0.length = q.length := by
      cases q with
      | nil => exact ⟨bv 0, [], rfl, rfl⟩
      | cons a q => exact ⟨bv a.1, (q.map fun p => bv p.1) ++ [bv 0], rfl, by simp⟩
    obtain ⟨x0, C0, hC, hCl⟩ : ∃ x0 C0, (q.map fun p => Value.pointer (some p.2)) ++ [.pointer none] = x0 :: C0 ∧ C0.length = q.length := by
      cases q with
      | nil => exact ⟨.pointer none, [], rfl, rfl⟩
      | cons a q => exact ⟨.pointer (some a.2), (q.map fun p => .pointer (some p.2)) ++ [.pointer none], rfl, by simp⟩
    have hcells : rowCells room (p ++ q) = (([.int .i64 room, .int .i64 (p ++ q).length] ++ (p.map fun p => bv p.1)) ++ [r0]) ++ B0 ++
        (List.replicate k (bv 0) ++ (p.map fun p => .pointer (some p.2)) ++ [x0] ++ C0 ++ List.replicate k (.pointer none)) := by
      have e1 : ∀ X : List Value, (q.map fun p => bv p.1) ++ bv 0 :: X = r0 :: (B0 ++ X) := fun X => by
        have := congrArg (· ++ X) hB
        simpa using this
      have e2 : ∀ X : List Value, (q.map fun p => Value.pointer (some p.2)) ++ .pointer none :: X = x0 :: (C0 ++ X) := fun X => by
        have := congrArg (· ++ X) hC
        simpa using this
      unfold rowCells
      rw [hk', List.replicate_succ, List.replicate_succ]
      simp only [List.map_append, List.append_assoc, List.cons_append, List.nil_append, e1, e2]
    refine h.drew.drew.n ?_
    refine h.drew.drew.r ?_
    refine xifE (fun he => by simp only [List.length_append] at he; omega) fun _ => ?_
    refine xi (r := ((i + 1 : Nat) : Int)) (by rw [wrapI (by omega)]; omega) ?_
    refine cut_lo (o := 2) (i + 1) rfl (by omega) fun o1 ho1 ho1' => ?_
    refine h.drew.drew.drew.n ?_
    refine cut_b (o := 2) i (p ++ q).length rfl rfl (by omega) (by omega) fun o2 ho2 _ => ?_
    have ho2 := ho2 (by omega)
    have hblk := h.drew.drew.drew.blk
    have hlen := rowCells_length (room := room) h.le16
    rw [hcells] at hblk hlen
    refine copy_in (ys := q.map fun p => bv p.1) ei_u8 hblk (fun hn => ?_) (by rw [hlen]; omega) (by omega) ?_ (by rw [hlen]; omega) (by omega) (by omega) ?_ fun w1 hb1 hz1 he1 => ?_
    · rw [ho1 (by omega)]; simp; omega
    · rw [← hcells, ho2]
      have : rowCells room (p ++ q) = ([.int .i64 room, .int .i64 (p ++ q).length] ++ (p.map fun p => bv p.1)) ++ ((q.map fun p => bv p.1) ++ (List.replicate (16 - (p ++ q).length) (bv 0) ++ (((p ++ q).map fun p => .pointer (some p.2)) ++ List.replicate (16 - (p ++ q).length) (.pointer none)))) := by
        unfold rowCells; simp [List.append_assoc]
      rw [this, List.drop_left' (by simp; omega), List.take_left' (by simp; omega)]
    · intro v hv
      obtain ⟨c, -, rfl⟩ := List.mem_map.1 hv
      rfl
    refine xi (r := ((i + 1 : Nat) : Int)) (by rw [wrapI (by omega)]; omega) ?_
    refine cut_lo (o := 18) (i + 1) rfl (by omega) fun o3 ho3 ho3' => ?_
    refine hb1.drew.ld (v := .int .i64 (p ++ q).length) rfl ?_
    refine cut_b (o := 18) i (p ++ q).length rfl rfl (by omega) (by omega) fun o4 ho4 _ => ?_
    have ho4 := ho4 (by omega)
    have hb1' : Blk w1.drew rb (([.int .i64 room, .int .i64 (p ++ q).length] ++ (p.map fun p => bv p.1) ++ [r0] ++ (q.map fun p => bv p.1) ++ List.replicate k (bv 0) ++ (p.map fun p => .pointer (some p.2)) ++ [x0]) ++ C0 ++ List.replicate k (.pointer none)) T_small_Row := by
      have := hb1.drew
      simpa only [List.append_assoc] using this
    have hlen2 : (([.int .i64 room, .int .i64 (p ++ q).length] ++ (p.map fun p => bv p.1) ++ [r0] ++ (q.map fun p => bv p.1) ++ List.replicate k (bv 0) ++ (p.map fun p => .pointer (some p.2)) ++ [x0]) ++ C0 ++ List.replicate k (.pointer none) : List Value).length = 34 := by
      simp; omega
    refine copy_in (ys := q.map fun p => .pointer (some p.2)) ei_p hb1' (fun hn => ?_) (by rw [hlen2]; omega) (by omega) ?_ (by rw [hlen2]; omega) (by omega) (by omega) ?_ fun w2 hb2 hz2 he2 => ?_
    · rw [ho3 (by omega)]; simp; omega
    · have e2 : ∀ X : List Value, (q.map fun p => Value.pointer (some p.2)) ++ .pointer none :: X = x0 :: (C0 ++ X) := fun X => by
        have := congrArg (· ++ X) hC
        simpa using this
      have : ∀ A : List Value, A ++ [x0] ++ C0 ++ List.replicate k (.pointer none) = A ++ ((q.map fun p => .pointer (some p.2)) ++ List.replicate (k + 1) (.pointer none)) := fun A => by
        rw [List.replicate_succ, e2]; simp
      rw [this, ho4, List.drop_left' (by simp; omega), List.take_left' (by simp; omega)]
    · intro v hv
      obtain ⟨c, -, rfl⟩ := List.mem_map.1 hv
      rfl
    have hlen3 : (([.int .i64 room, .int .i64 (p ++ q).length] ++ (p.map fun p => bv p.1) ++ [r0] ++ (q.map fun p => bv p.1) ++ List.replicate k (bv 0) ++ (p.map fun p => .pointer (some p.2)) ++ [x0]) ++ (q.map fun p => .pointer (some p.2)) ++ List.replicate k (.pointer none) : List Value).length = 34 := by
      simp; omega
    refine xixA i rfl (by omega) ?_
    refine hb2.drew.st (o := 2 + i) (by rw [hlen3]; omega) rfl fun w3 hb3 hz3 he3 => ?_
    have hb3' : Blk w3 rb (([.int .i64 room, .int .i64 (p ++ q).length] ++ (p.map fun p => bv p.1) ++ [bv b] ++ (q.map fun p => bv p.1) ++ List.replicate k (bv 0) ++ (p.map fun p => .pointer (some p.2))) ++ x0 :: ((q.map fun p => .pointer (some p.2)) ++ List.replicate k (.pointer none))) T_small_Row := by
      have h3 : Blk w3 rb ((([Value.int .i64 room, Value.int .i64 (p ++ q).length] ++ (p.map fun p : UInt8 × Addr => bv p.1)) ++ r0 :: ((q.map fun p : UInt8 × Addr => bv p.1) ++ List.replicate k (bv 0) ++ (p.map fun p : UInt8 × Addr => Value.pointer (some p.2)) ++ x0 :: ((q.map fun p : UInt8 × Addr => Value.pointer (some p.2)) ++ List.replicate k (Value.pointer none))) : List Value).set (2 + i) (bv b)) T_small_Row := by
        simpa only [List.append_assoc, List.singleton_append, List.cons_append, List.nil_append] using hb3
      rw [set_mid' (by simp; omega)] at h3
      simpa only [List.append_assoc, List.singleton_append, List.cons_append, List.nil_append] using h3
    refine xixA i rfl (by omega) ?_
    refine hb3'.st (o := 18 + i) (by simp; omega) rfl fun w4 hb4 hz4 he4 => ?_
    rw [set_mid' (by simp; omega)] at hb4
    refine hb4.ld (v := .int .i64 (p ++ q).length) rfl ?_
    refine xi (r := ((p.length + q.length + 1 : Nat) : Int)) (by rw [wrapI (by omega)]; omega) ?_
    refine hb4.st (o := 1) (by simp) rfl fun w5 hb5 hz5 he5 => ?_
    refine ⟨rfl, ((((he1.undrew.undrew.undrew).transS he2.undrew).transS he3.undrew).transS he4).transS he5, p ++ (b, x) :: q, ⟨?_, ?_, by simp; omega, h.top, h.pos⟩, ?_⟩
    · rw [row_mid, hk2]
      simpa [List.append_assoc] using hb5
    · have hr := h.rise
      simp only [List.map_append, List.map_cons] at hr ⊢
      obtain ⟨h1, h2, h3⟩ := List.pairwise_append.1 hr
      refine List.pairwise_append.2 ⟨h1, List.pairwise_cons.2 ⟨hhi, h2⟩, fun a ha c hc => ?_⟩
      rcases List.mem_cons.1 hc with e | hc
      · subst e; exact hlo a ha
      · exact h3 a ha c hc
    · funext c
      rw [lkp_here hlo]
      rfl
end
end Go.Proofs.YtidkkkdlaclolaaGreat
end
section
namespace Go.Proofs.YtidkkkdlaclolaaGreat
open Go Go.RowKit X
set_option linter.unusedSimpArgs false
set_option linter.unusedVariables false

theorem snoc {α : Type} : ∀ (a : α) (l : List α), ∃ B r, a :: l = B ++ [r] ∧ B.length = l.length
  | a, [] => ⟨[], a, rfl, rfl⟩
  | a, x :: l => by
    obtain ⟨B, r, h1, h2⟩ := snoc x l
    exact ⟨a :: B, r, by rw [h1]; rfl, by simp [h2]⟩
section
variable {w : World} {rb room : Nat}
theorem rise_drop {p q : List (UInt8 × Addr)} {b : UInt8} {x : Addr} (hr : Rise ((p ++ (b, x) :: q).map (·.1))) : Rise ((p ++ q).map (·.1)) := by
  simp only [List.map_append, List.map_cons] at hr ⊢
  obtain ⟨h1, h2, h3⟩ := List.pairwise_append.1 hr
  exact List.pairwise_append.2 ⟨h1, (List.pairwise_cons.1 h2).2, fun a ha c hc => h3 a ha c (by simp [hc])⟩
theorem lkp_gone {p q : List (UInt8 × Addr)} {b : UInt8} {x : Addr} (hr : Rise ((p ++ (b, x) :: q).map (·.1))) : lkp (p ++ q) = upd (lkp (p ++ (b, x) :: q)) b none := by
  obtain ⟨h1, h2⟩ := rise_lkp hr
  funext c
  unfold upd
  rw [lkp_here h1]
  by_cases h : c = b
  · subst h
    rw [if_pos rfl]
    refine lkp_none fun hc => ?_
    rw [List.map_append] at hc
    rcases List.mem_append.1 hc with hc | hc
    · have := h1 c hc; omega
    · have := h2 c hc; omega
  · rw [if_neg h, if_neg h]

theorem c_RowDrop {l : List (UInt8 × Addr)} {b : UInt8} (h : Row w rb room l) (hf : (lkp l b).isSome) :
    Ret P n_small_Row_Drop [rp rb, bv b] w fun v w' => v = .int .i64 0 ∧ Ext (· = rb) w w' ∧ ∃ l', Row w' rb room l' ∧ lkp l' = upd (lkp l) b none := by
  refine W_small_Row_Drop ?_
  refine (c_RowOk h).mono ?_
  rintro v w' ⟨rfl, rfl⟩
  refine (c_RowPlace h).mono ?_
  rintro v w1 ⟨i, rfl, hat, rfl⟩
  have h16 := h.le16
  have e : (l.map (·.1))[i]? = some b := by
    refine (hat.mem h.rise).1 ?_
    by_cases hc : b ∈ l.map (·.1)
    · exact hc
    · rw [lkp_none hc] at hf; cases hf
  refine xifF (by rw [decide_eq_true e]; rfl) ?_
  have hi : i < l.length := by simpa using (List.getElem?_eq_some_iff.1 e).1
  have hb : l[i].1 = b := by simpa using (List.getElem?_eq_some_iff.1 e).2
  obtain ⟨p, q, x, rfl, hp⟩ : ∃ p q x, l = p ++ (b, x) :: q ∧ p.length = i := ⟨l.take i, l.drop (i + 1), l[i].2, by
    conv => lhs; rw [← List.take_append_drop i l, List.drop_eq_getElem_cons hi]
    rw [← hb], by simp; omega⟩
  have hn : (p ++ (b, x) :: q).length = p.length + q.length + 1 := by simp; omega
  rw [hn] at h16 hi
  have htop := h.top
  have hcl := rowCells_length (room := room) h.le16
  -- the bytes and the things behind this one, one place ahead
  obtain ⟨B0, rn, hB, hBl⟩ : ∃ B0 rn, bv b :: (q.map fun p => bv p.1) = B0 ++ [rn] ∧ B0.length = q.length := by
    obtain ⟨B, r, h1, h2⟩ := snoc (bv b) (q.map fun p => bv p.1)
    exact ⟨B, r, h1, by simpa using h2⟩
  obtain ⟨C0, xn, hC, hCl⟩ : ∃ C0 xn, Value.pointer (some x) :: (q.map fun p => Value.pointer (some p.2)) = C0 ++ [xn] ∧ C0.length = q.length := by
    obtain ⟨B, r, h1, h2⟩ := snoc (Value.pointer (some x)) (q.map fun p => Value.pointer (some p.2))
    exact ⟨B, r, h1, by simpa using h2⟩
  have e1 : ∀ X : List Value, bv b :: ((q.map fun p => bv p.1) ++ X) = B0 ++ rn :: X := fun X => by
    have := congrArg (· ++ X) hB
    simpa using this
  have e2 : ∀ X : List Value, Value.pointer (some x) :: ((q.map fun p => Value.pointer (some p.2)) ++ X) = C0 ++ xn :: X := fun X => by
    have := congrArg (· ++ X) hC
    simpa using this
  generalize hk : 16 - (p.length + q.length + 1) = k at *
  have hk16 : 16 - (p.length + q.length) = k + 1 := by omega
  have hcells : rowCells room (p ++ (b, x) :: q) = ([.int .i64 room, .int .i64 (p.length + q.length + 1 : Nat)] ++ (p.map fun p => bv p.1)) ++ B0 ++
      (rn :: (List.replicate k (bv 0) ++ ((p.map fun p => Value.pointer (some p.2)) ++ (C0 ++ xn :: List.replicate k (.pointer none))))) := by
    rw [row_mid, hk]
    simp only [List.append_assoc, List.cons_append, List.nil_append, e1, e2]
  refine cut_lo (o := 2) i rfl (by omega) fun o1 ho1 _ => ?_
  have ho1 := ho1 (by omega)
  refine xi (r := ((i + 1 : Nat) : Int)) (by rw [wrapI (by omega)]; omega) ?_
  refine h.drew.drew.n ?_
  refine cut_b (o := 2) (i + 1) (p ++ (b, x) :: q).length rfl rfl (by omega) (by omega) fun o2 ho2 ho2' => ?_
  have hblk := h.drew.drew.blk
  have hqn : (p ++ (b, x) :: q).length - (i + 1) = q.length := by omega
  rw [hqn]
  rw [hcells] at hblk hcl
  refine copy_in (ys := q.map fun p => bv p.1) ei_u8 hblk (fun hq => by rw [ho1]; simp; omega) (by rw [hcl]; omega) (by omega) ?_ (by rw [hcl]; omega) (by omega) (by omega) ?_ fun w1 hb1 hz1 he1 => ?_
  · by_cases hq : q.length = 0
    · have : q = [] := List.eq_nil_of_length_eq_zero hq
      subst this; simp
    · rw [← hcells, ho2 (by omega), row_mid, hk]
      have : ∀ (A B C D : List Value) (y z : Value), A ++ y :: (B ++ C ++ D ++ z :: B) = A ++ y :: (B ++ C ++ D ++ z :: B) := fun _ _ _ _ _ _ => rfl
      rw [show ∀ (A E : List Value) (y : Value), A ++ y :: E = (A ++ [y]) ++ E from fun A E y => by simp, List.append_assoc (q.map fun p => bv p.1), List.append_assoc (q.map fun p => bv p.1), List.drop_left' (by simp; omega), List.take_left' (by simp)]
  · intro v hv
    obtain ⟨c, -, rfl⟩ := List.mem_map.1 hv
    rfl
  refine cut_lo (o := 18) i rfl (by omega) fun o3 ho3 _ => ?_
  have ho3 := ho3 (by omega)
  refine xi (r := ((i + 1 : Nat) : Int)) (by rw [wrapI (by omega)]; omega) ?_
  refine hb1.drew.ld (v := .int .i64 (p.length + q.length + 1 : Nat)) rfl ?_
  refine cut_b (o := 18) (i + 1) (p.length + q.length + 1) rfl rfl (by omega) (by omega) fun o4 ho4 ho4' => ?_
  have hqn2 : p.length + q.length + 1 - (i + 1) = q.length := by omega
  rw [hqn2]
  have hb1' : Blk w1.drew rb (([.int .i64 room, .int .i64 (p.length + q.length + 1 : Nat)] ++ ((p.map fun p => bv p.1) ++ ((q.map fun p => bv p.1) ++ rn :: (List.replicate k (bv 0) ++ (p.map fun p => Value.pointer (some p.2)))))) ++ C0 ++ xn :: List.replicate k (.pointer none)) T_small_Row := by
    have := hb1.drew
    simpa only [List.append_assoc, List.cons_append, List.nil_append] using this
  have hl2 : (([Value.int .i64 room, .int .i64 (p.length + q.length + 1 : Nat)] ++ ((p.map fun p : UInt8 × Addr => bv p.1) ++ ((q.map fun p : UInt8 × Addr => bv p.1) ++ rn :: (List.replicate k (bv 0) ++ (p.map fun p : UInt8 × Addr => Value.pointer (some p.2)))))) ++ C0 ++ xn :: List.replicate k (.pointer none) : List Value).length = 34 := by simp; omega
  refine copy_in (ys := q.map fun p => .pointer (some p.2)) ei_p hb1' (fun hq => by rw [ho3]; simp; omega) (by rw [hl2]; omega) (by omega) ?_ (by rw [hl2]; omega) (by omega) (by omega) ?_ fun w2 hb2 hz2 he2 => ?_
  · by_cases hq : q.length = 0
    · have : q = [] := List.eq_nil_of_length_eq_zero hq
      subst this; simp
    · rw [ho4 (by omega), List.append_assoc, ← e2, show ∀ (A E : List Value) (y : Value), A ++ y :: E = (A ++ [y]) ++ E from fun A E y => by simp, List.drop_left' (by simp; omega), List.take_left' (by simp)]
  · intro v hv
    obtain ⟨c, -, rfl⟩ := List.mem_map.1 hv
    rfl
  refine hb2.ld (v := .int .i64 (p.length + q.length + 1 : Nat)) rfl ?_
  refine xi (r := ((p.length + q.length : Nat) : Int)) (by rw [wrapI (by omega)]; omega) ?_
  refine hb2.st (o := 1) (by simp) rfl fun w3 hb3 hz3 he3 => ?_
  have hb3' : Blk w3 rb (([.int .i64 room, .int .i64 (p.length + q.length : Nat)] ++ ((p.map fun p => bv p.1) ++ (q.map fun p => bv p.1))) ++ rn :: (List.replicate k (bv 0) ++ (p.map fun p => Value.pointer (some p.2)) ++ (q.map fun p => .pointer (some p.2)) ++ xn :: List.replicate k (.pointer none))) T_small_Row := by
    have : ∀ (a b c : Value) (L : List Value), ([a, b] ++ L).set 1 c = [a, c] ++ L := fun _ _ _ _ => rfl
    have h4 := hb3
    simp only [List.append_assoc] at h4
    rw [this] at h4
    simpa only [List.append_assoc, List.cons_append, List.nil_append] using h4
  refine hb3'.drew.ld (v := .int .i64 (p.length + q.length : Nat)) rfl ?_
  refine hb3'.drew.ld (v := .int .i64 (p.length + q.length : Nat)) rfl ?_
  refine xixA (p.length + q.length) rfl (by omega) ?_
  refine hb3'.drew.st (o := 2 + (p.length + q.length)) (by simp; omega) rfl fun w4 hb4 hz4 he4 => ?_
  rw [set_mid' (by simp; omega)] at hb4
  refine xixA (p.length + q.length) rfl (by omega) ?_
  refine hb4.st (o := 18 + (p.length + q.length)) (by simp; omega) rfl fun w5 hb5 hz5 he5 => ?_
  refine ⟨rfl, (((he1.undrew.undrew.transS he2.undrew).transS he3).transS he4.undrew).transS he5, p ++ q, ⟨?_, rise_drop h.rise, ?_, h.top, h.pos⟩, lkp_gone h.rise⟩
  · have hb6 : Blk w5 rb ((([Value.int .i64 room, .int .i64 (p.length + q.length : Nat)] ++ ((p.map fun p : UInt8 × Addr => bv p.1) ++ ((q.map fun p : UInt8 × Addr => bv p.1) ++ bv 0 :: (List.replicate k (bv 0) ++ ((p.map fun p : UInt8 × Addr => Value.pointer (some p.2)) ++ (q.map fun p : UInt8 × Addr => Value.pointer (some p.2))))))) ++ xn :: List.replicate k (.pointer none)).set (18 + (p.length + q.length)) (.pointer none)) T_small_Row := by
      have h4 := hb5
      simp only [List.append_assoc, List.cons_append, List.nil_append] at h4 ⊢
      exact h4
    rw [set_mid' (by simp; omega)] at hb6
    have : rowCells room (p ++ q) = ([Value.int .i64 room, .int .i64 (p.length + q.length : Nat)] ++ ((p.map fun p : UInt8 × Addr => bv p.1) ++ ((q.map fun p : UInt8 × Addr => bv p.1) ++ bv 0 :: (List.replicate k (bv 0) ++ ((p.map fun p : UInt8 × Addr => Value.pointer (some p.2)) ++ (q.map fun p : UInt8 × Addr => Value.pointer (some p.2))))))) ++ .pointer none :: List.replicate k (.pointer none) := by
      unfold rowCells
      rw [List.length_append, hk16]
      simp [List.append_assoc, List.replicate_succ]
    rw [this]
    exact hb6
  · have := h.le
    rw [hn] at this
    rw [List.length_append]; omega

theorem c_RowCopy {l : List (UInt8 × Addr)} (h : Row w rb room l) : Ret P n_small_Row_Copy [rp rb] w fun v w' => ∃ b, v = rp b ∧ w.heap.size ≤ b ∧ Row w' b room l ∧ Ext No w w' := by
  refine W_small_Row_Copy ?_
  refine (c_RowOk h).mono ?_
  rintro v w' ⟨rfl, rfl⟩
  have hl := rowCells_length (room := room) h.le16
  refine h.blk.ldA hl ?_
  refine xnew fun b w1 hb hblk hz he => ?_
  refine xstoreVar hblk (by rw [hl]; kernel_rfl) (by rw [hl]; decide) ?_ fun w2 hb2 hz2 he2 => ?_
  · intro v hv
    unfold rowCells at hv
    simp only [List.mem_cons, List.mem_append, List.mem_map, List.mem_replicate] at hv
    rcases hv with rfl | rfl | ((⟨c, -, rfl⟩ | ⟨-, rfl⟩) | (⟨c, -, rfl⟩ | ⟨-, rfl⟩)) <;> rfl
  · refine ⟨b, rfl, by omega, ⟨?_, h.rise, h.le, h.top, h.pos⟩, he.trans1 he2 (by omega)⟩
    have e : z_small_Row.drop (0 + (rowCells room l).length) = [] := by rw [hl]; decide
    rw [e] at hb2
    simpa using hb2
theorem c_RowNew {r : Nat} (h0 : 0 < r) (h16 : r ≤ 16) : Ret P n_small_New_Node [.int .i64 r] w fun v w' => ∃ b, v = .tuple #[rp b, .int .i64 0] ∧ w.heap.size ≤ b ∧ Row w' b r [] ∧ Ext No w w' := by
  refine W_small_New_Node ?_
  refine xjd ?_
  refine xifD (fun hlt => by omega) fun _ => ?_
  intro g
  refine xifD (fun hgt => by omega) fun _ => ?_
  refine xnew fun b w1 hb hblk hz he => ?_
  refine ⟨b, rfl, by omega, ⟨?_, List.Pairwise.nil, by simp, h16, h0⟩, he⟩
  exact hblk
end
end Go.Proofs.YtidkkkdlaclolaaGreat
end
end
section
section
namespace Go.Proofs.YtidkkkdlaclolaaGreat
open Go Go.RowKit X
set_option linter.unusedSimpArgs false
set_option linter.unusedVariables false

theorem ei_u16 : EI P T_s_uint16 T_uint16 1 2 (.int .u16 0) := ⟨by kernel_rfl, by kernel_rfl, by rfl, by omega⟩
/-- the block of a slice -/
def SX (v : Value) : Nat → Prop := fun b => v.ownBlock = some b
theorem X.Own.st {w : World} {B : Nat} {e : TypeId} {v y : Value} {n : Nat} {xs : List Value} {kd : IntKind} {i : Int} {K : World → Prop} (h : Own w B e 1 v n xs) (m : Nat) (hi : i = (m : Int)) (hm : m < n) (hy : y.oneCell' = true)
    (k : ∀ w1, Own w1 B e 1 v n (xs.set m y) → w1.heap.size = w.heap.size → Ext (SX v) w w1 → K w1) : xIxS v (.int kd i) 1 fun u => xAt u fun a => XSt w a y K := by
  obtain ⟨hl, hh⟩ := h
  rcases hh with ⟨rfl, rfl⟩ | ⟨g, cap, cur, rfl, hb, hg, hn, hc, hs, ht⟩
  · omega
  · rw [Nat.mul_one] at hs ht hl
    have hblk : Blk w g cur.toList e := ⟨by simpa using hg⟩
    refine ⟨m, hi, hm, ?_⟩
    simp only [Addr.add_lit, Nat.mul_one, Nat.zero_add]
    refine hblk.st (by simp; omega) hy fun w1 h1 hz he => k w1 ⟨by simpa using hl, .inr ⟨g, cap, (cur.toList.set m y).toArray, rfl, hb, h1.h, hn, hc, by simpa using hs, ?_⟩⟩ hz (he.mono fun c _ h => by subst h; rfl)
    simp only [Nat.mul_one]
    rw [List.take_set, ht]
theorem X.Own.lt {w : World} {B : Nat} {e : TypeId} {sz : Nat} {v : Value} {n : Nat} {xs : List Value} (h : Own w B e sz v n xs) {b : Nat} (hb : SX v b) : b < w.heap.size := (h.ge hb).2
/-- the block of a slice holds things of its type -/
theorem X.Own.blk {w : World} {B : Nat} {e : TypeId} {sz : Nat} {v : Value} {n : Nat} {xs : List Value} (h : Own w B e sz v n xs) {b : Nat} (hb : SX v b) : ∃ cs, Blk w b cs e := by
  rcases h.2 with ⟨rfl, -⟩ | ⟨g, cap, cur, rfl, h1, h2, _⟩
  · cases hb
  · simp only [SX, Value.ownBlock, Option.some.injEq] at hb
    subst hb
    exact ⟨cur.toList, ⟨by simpa using h2⟩⟩
theorem X.Own.ne {w : World} {B b : Nat} {e T : TypeId} {sz : Nat} {v : Value} {n : Nat} {xs cs : List Value} (h : Own w B e sz v n xs) (hb : Blk w b cs T) (ht : T ≠ e) : ¬ SX v b := fun hs => by
  obtain ⟨cs', h'⟩ := h.blk hs
  exact ht (hb.inj h').2
theorem X.Own.ne2 {w : World} {B B' b : Nat} {e T : TypeId} {sz sz' : Nat} {v v' : Value} {n n' : Nat} {xs xs' : List Value} (h : Own w B e sz v n xs) (h' : Own w B' T sz' v' n' xs') (hb : SX v' b) (ht : T ≠ e) : ¬ SX v b := by
  obtain ⟨cs, hc⟩ := h'.blk hb
  exact h.ne hc ht
/-- fewer of them -/
theorem X.Own.cut {w : World} {B : Nat} {e : TypeId} {v : Value} {n : Nat} {xs : List Value} {kd : IntKind} {i : Int} {K : Value → Prop} (h : Own w B e 1 v n xs) (m : Nat) (hi : i = (m : Int)) (hm : m ≤ n) (k : ∀ v', Own w B e 1 v' m (xs.take m) → v'.ownBlock = v.ownBlock → K v') : xCutS 1 v none (some (.int kd i)) none K := by
  obtain ⟨hl, hh⟩ := h
  rw [Nat.mul_one] at hl
  rcases hh with ⟨rfl, rfl⟩ | ⟨g, cap, cur, rfl, hb, hg, hn, hc, hs, ht⟩
  · have : m = 0 := by omega
    subst this
    refine xcutH 0 hi (by omega) (k _ ⟨rfl, .inl ⟨rfl, rfl⟩⟩ rfl)
  · refine xcutH m hi (by omega) ?_
    have : cutAddr (some (⟨g, 0, none⟩ : Addr)) 0 cap 1 = some ⟨g, 0, none⟩ := by
      unfold cutAddr
      split
      · rfl
      · simp [Addr.add_lit]
    rw [this]
    refine k _ ⟨by simp; omega, .inr ⟨g, cap, cur, rfl, hb, hg, by omega, hc, hs, ?_⟩⟩ rfl
    rw [Nat.mul_one] at ht ⊢
    rw [← ht, List.take_take, Nat.min_eq_left hm]

def atCells (a : UInt8 → Nat) : List Value := byt.map fun c => .int .u16 (a c)
def brdCells (room n : Nat) (a : UInt8 → Nat) (xv fv : Value) : List Value := .int .i64 room :: .int .i64 n :: (atCells a ++ [xv, fv])
theorem atCells_length (a : UInt8 → Nat) : (atCells a).length = 256 := by simp [atCells, byt]
theorem brdCells_length (room n : Nat) (a : UInt8 → Nat) (xv fv : Value) : (brdCells room n a xv fv).length = 260 := by simp [brdCells, atCells_length]
theorem byt_at (c : UInt8) : byt[c.toNat]? = some c := by
  unfold byt
  rw [List.getElem?_map, List.getElem?_range (c.toNat_lt)]
  simp
theorem atCells_at (a : UInt8 → Nat) (c : UInt8) : (atCells a)[c.toNat]? = some (.int .u16 (a c)) := by
  unfold atCells
  rw [List.getElem?_map, byt_at]
  rfl
theorem brd_at {room n : Nat} {a : UInt8 → Nat} {xv fv : Value} (c : UInt8) : (brdCells room n a xv fv)[2 + c.toNat]? = some (.int .u16 (a c)) := by
  have e : 2 + c.toNat = c.toNat + 1 + 1 := by omega
  have := c.toNat_lt
  rw [e, brdCells, List.getElem?_cons_succ, List.getElem?_cons_succ, List.getElem?_append_left (by rw [atCells_length]; omega), atCells_at]
theorem brd_x {room n : Nat} {a : UInt8 → Nat} {xv fv : Value} : (brdCells room n a xv fv)[258]? = some xv := by
  rw [brdCells, List.getElem?_cons_succ, List.getElem?_cons_succ, List.getElem?_append_right (by rw [atCells_length]; omega), atCells_length]
  rfl
theorem brd_f {room n : Nat} {a : UInt8 → Nat} {xv fv : Value} : (brdCells room n a xv fv)[259]? = some fv := by
  rw [brdCells, List.getElem?_cons_succ, List.getElem?_cons_succ, List.getElem?_append_right (by rw [atCells_length]; omega), atCells_length]
  rfl
def updN (a : UInt8 → Nat) (b : UInt8) (n : Nat) : UInt8 → Nat := fun c => if c = b then n else a c
theorem atCells_set (a : UInt8 → Nat) (b : UInt8) (n : Nat) : (atCells a).set b.toNat (.int .u16 n) = atCells (updN a b n) := by
  apply List.ext_getElem?
  intro i
  rw [List.getElem?_set]
  rcases Nat.lt_or_ge i 256 with h | h
  · obtain ⟨c, rfl⟩ : ∃ c : UInt8, c.toNat = i := ⟨UInt8.ofNat i, ofNat_toNat h⟩
    rw [atCells_at, atCells_at]
    unfold updN
    by_cases e : b = c
    · subst e
      rw [if_pos rfl, if_pos rfl, if_pos (by rw [atCells_length]; exact h)]
    · rw [if_neg (fun h => e (UInt8.toNat_inj.1 h)), if_neg (fun h => e h.symm)]
  · rw [if_neg (by have := b.toNat_lt; omega), List.getElem?_eq_none (by rw [atCells_length]; omega), List.getElem?_eq_none (by rw [atCells_length]; omega)]
theorem brd_setA {room n : Nat} {a : UInt8 → Nat} {xv fv : Value} (b : UInt8) (k : Nat) : (brdCells room n a xv fv).set (2 + b.toNat) (.int .u16 k) = brdCells room n (updN a b k) xv fv := by
  have e : 2 + b.toNat = b.toNat + 1 + 1 := by omega
  have := b.toNat_lt
  rw [e, brdCells, List.set_cons_succ, List.set_cons_succ, List.set_append_left _ _ (by rw [atCells_length]; omega), atCells_set]
  rfl
theorem brd_setN {room n k : Nat} {a : UInt8 → Nat} {xv fv : Value} : (brdCells room n a xv fv).set 1 (.int .i64 k) = brdCells room k a xv fv := rfl
theorem brd_setX {room n : Nat} {a : UInt8 → Nat} {xv fv x : Value} : (brdCells room n a xv fv).set 258 x = brdCells room n a x fv := by
  rw [brdCells, List.set_cons_succ, List.set_cons_succ, List.set_append_right _ _ (by rw [atCells_length]; omega), atCells_length]
  rfl
theorem brd_setF {room n : Nat} {a : UInt8 → Nat} {xv fv x : Value} : (brdCells room n a xv fv).set 259 x = brdCells room n a xv x := by
  rw [brdCells, List.set_cons_succ, List.set_cons_succ, List.set_append_right _ _ (by rw [atCells_length]; omega), atCells_length]
  rfl

/-- the board's cells, in memory -/
structure BrdM (w : World) (bb room n : Nat) (xv fv : Value) (a : UInt8 → Nat) (xs : List (Option Addr)) (fs : List Nat) : Prop where
  blk : Blk w bb (brdCells room n a xv fv) T_wide_Board
  xo : Own w 0 T_p_node_Node 1 xv xs.length (xs.map Value.pointer)
  fo : Own w 0 T_uint16 1 fv fs.length (fs.map fun n : Nat => .int .u16 (n : Int))
/-- what the cells mean -/
structure BrdI (room n : Nat) (a : UInt8 → Nat) (xs : List (Option Addr)) (fs : List Nat) (m : UInt8 → Option Addr) : Prop where
  nc : n = cnt m
  at0 : ∀ c, a c = 0 ↔ m c = none
  atx : ∀ c, a c ≠ 0 → xs[a c - 1]? = some (m c)
  inj : ∀ c d, a c ≠ 0 → a c = a d → c = d
  nod : fs.Nodup
  fr : ∀ f ∈ fs, 0 < f ∧ f ≤ xs.length ∧ ∀ c, a c ≠ f
  cn : xs.length = n + fs.length
  xle : xs.length ≤ 256
  le : n ≤ room
  top : room = 48 ∨ room = 256
/-- the blocks of a board -/
def BX (bb : Nat) (xv fv : Value) : Nat → Prop := fun b => b = bb ∨ SX xv b ∨ SX fv b
theorem BrdM.ext {X : Nat → Prop} {w w' : World} {bb room n : Nat} {xv fv : Value} {a : UInt8 → Nat} {xs : List (Option Addr)} {fs : List Nat} (h : BrdM w bb room n xv fv a xs fs) (e : Ext X w w') (hx : ∀ b, BX bb xv fv b → ¬ X b) : BrdM w' bb room n xv fv a xs fs :=
  ⟨h.blk.ext e (hx _ (.inl rfl)), h.xo.ext e fun b hb => hx _ (.inr (.inl hb)), h.fo.ext e fun b hb => hx _ (.inr (.inr hb))⟩
theorem BrdM.extN {w w' : World} {bb room n : Nat} {xv fv : Value} {a : UInt8 → Nat} {xs : List (Option Addr)} {fs : List Nat} (h : BrdM w bb room n xv fv a xs fs) (e : Ext No w w') : BrdM w' bb room n xv fv a xs fs := h.ext e fun _ _ h => h
theorem BrdM.drew {w : World} {bb room n : Nat} {xv fv : Value} {a : UInt8 → Nat} {xs : List (Option Addr)} {fs : List Nat} (h : BrdM w bb room n xv fv a xs fs) : BrdM w.drew bb room n xv fv a xs fs := ⟨h.blk.drew, h.xo.drew, h.fo.drew⟩

section
variable {w : World} {bb room n : Nat} {xv fv : Value} {a : UInt8 → Nat} {xs : List (Option Addr)} {fs : List Nat} {m : UInt8 → Option Addr}
theorem BrdM.at_ (h : BrdM w bb room n xv fv a xs fs) (c : UInt8) {K : Value → Prop} (k : K (.int .u16 (a c))) : XLd w ⟨bb, 2 + c.toNat, none⟩ K := h.blk.ld (brd_at c) k
theorem BrdM.x (h : BrdM w bb room n xv fv a xs fs) {K : Value → Prop} (k : K xv) : XLd w ⟨bb, 258, none⟩ K := h.blk.ld brd_x k
theorem BrdM.f (h : BrdM w bb room n xv fv a xs fs) {K : Value → Prop} (k : K fv) : XLd w ⟨bb, 259, none⟩ K := h.blk.ld brd_f k
theorem BrdM.n_ (h : BrdM w bb room n xv fv a xs fs) {K : Value → Prop} (k : K (.int .i64 n)) : XLd w ⟨bb, 1, none⟩ K := h.blk.ld rfl k
theorem BrdM.r (h : BrdM w bb room n xv fv a xs fs) {K : Value → Prop} (k : K (.int .i64 room)) : XLd w ⟨bb, 0, none⟩ K := h.blk.ld rfl k
theorem c_BrdOk (h : BrdM w bb room n xv fv a xs fs) (hr : 0 < room) : Ret P n_wide_Board_ok [rp bb] w fun v w' => v = .bool true ∧ w' = w := by
  refine W_wide_Board_ok ?_
  refine xjd ?_
  refine h.r ?_
  exact fun g => ⟨by show Value.bool (decide ((room : Int) > 0)) = _; rw [decide_eq_true (by omega)], rfl⟩
theorem c_BrdNil : Ret P n_wide_Board_ok [.pointer none] w fun v w' => v = .bool false ∧ w' = w := by
  refine W_wide_Board_ok ?_
  refine xjd ?_
  exact fun g => ⟨rfl, rfl⟩
theorem BrdI.pos (i : BrdI room n a xs fs m) : 0 < room := by rcases i.top with h | h <;> omega
theorem c_BrdLen (h : BrdM w bb room n xv fv a xs fs) (i : BrdI room n a xs fs m) : Ret P n_wide_Board_Len [rp bb] w fun v w' => v = .int .i64 n ∧ w' = w := by
  refine W_wide_Board_Len ?_
  refine (c_BrdOk h i.pos).mono ?_
  rintro v w' ⟨rfl, rfl⟩
  exact h.n_ ⟨rfl, rfl⟩
theorem c_BrdRoom (h : BrdM w bb room n xv fv a xs fs) (i : BrdI room n a xs fs m) : Ret P n_wide_Board_Room [rp bb] w fun v w' => v = .int .i64 room ∧ w' = w := by
  refine W_wide_Board_Room ?_
  refine (c_BrdOk h i.pos).mono ?_
  rintro v w' ⟨rfl, rfl⟩
  exact h.r ⟨rfl, rfl⟩
theorem BrdI.at_le (i : BrdI room n a xs fs m) (c : UInt8) : a c ≤ xs.length := by
  by_cases h : a c = 0
  · omega
  · have := (List.getElem?_eq_some_iff.1 (i.atx c h)).1; omega
theorem c_BrdGet (h : BrdM w bb room n xv fv a xs fs) (i : BrdI room n a xs fs m) {b : UInt8} : Ret P n_wide_Board_Get [rp bb, bv b] w fun v w' => v = getV m b ∧ Ext No w w' := by
  refine W_wide_Board_Get ?_
  refine xjd ?_
  refine (c_BrdOk h i.pos).mono ?_
  rintro v w' ⟨rfl, rfl⟩
  have hb : b.toNat < 256 := b.toNat_lt
  refine xifF rfl ?_
  refine xixA b.toNat rfl hb ?_
  refine h.at_ b ?_
  intro g
  refine xifE (fun he => ?_) fun he => ?_
  · have : m b = none := (i.at0 b).1 (by omega)
    exact ⟨by simp [getV, this], Ext.refl _ _⟩
  · have hab : a b ≠ 0 := by omega
    have hx := i.atx b hab
    have hle := i.at_le b
    have h256 := i.xle
    refine h.drew.x ?_
    refine xixA b.toNat rfl hb ?_
    refine h.drew.at_ b ?_
    refine xi (r := ((a b - 1 : Nat) : Int)) (by rw [wrapU16 (by omega)]; omega) ?_
    refine h.drew.xo.sl.rd1 (a b - 1) rfl (by omega) (x := .pointer (m b)) (by rw [List.getElem?_map, hx]; rfl) ?_
    refine ⟨?_, (Ext.refl No w').drew⟩
    have : (m b).isSome = true := by
      cases hm : m b with
      | none => exact absurd ((i.at0 b).2 hm) hab
      | some x => rfl
    simp [getV, this]
end
end Go.Proofs.YtidkkkdlaclolaaGreat
end
section
namespace Go.Proofs.YtidkkkdlaclolaaGreat
open Go Go.RowKit X
set_option linter.unusedSimpArgs false
set_option linter.unusedVariables false

theorem X.Own.one {w : World} {B : Nat} {e : TypeId} {sz : Nat} {v : Value} {n : Nat} {xs : List Value} (h : Own w B e sz v n xs) : v.oneCell' = true := by
  rcases h.2 with ⟨rfl, -⟩ | ⟨g, cap, cur, rfl, _⟩ <;> rfl
theorem X.Ext.toBX {w w' : World} {X : Nat → Prop} {bb : Nat} {xv fv : Value} (h : Ext X w w') (hx : ∀ b, X b → BX bb xv fv b) : Ext (BX bb xv fv) w w' := h.mono fun b _ hb => hx b hb
theorem updN_same (a : UInt8 → Nat) (b : UInt8) (k : Nat) : updN a b k b = k := by simp [updN]
theorem updN_other (a : UInt8 → Nat) {b c : UInt8} (k : Nat) (h : c ≠ b) : updN a b k c = a c := by simp [updN, h]

section
variable {w : World} {bb room n : Nat} {xv fv : Value} {a : UInt8 → Nat} {xs : List (Option Addr)} {fs : List Nat} {m : UInt8 → Option Addr}
theorem t_brd_p : T_wide_Board ≠ T_p_node_Node := by decide
theorem t_brd_u : T_wide_Board ≠ T_uint16 := by decide
theorem t_p_u : T_p_node_Node ≠ T_uint16 := by decide
/-- the board's own block is written -/
theorem BrdM.stB (h : BrdM w bb room n xv fv a xs fs) {o : Nat} {y : Value} {K : World → Prop} {n' : Nat} {a' : UInt8 → Nat} (ho : o < 260) (hy : y.oneCell' = true) (hs : (brdCells room n a xv fv).set o y = brdCells room n' a' xv fv)
    (k : ∀ w1, BrdM w1 bb room n' xv fv a' xs fs → w1.heap.size = w.heap.size → Ext (BX bb xv fv) w w1 → K w1) : XSt w ⟨bb, o, none⟩ y K :=
  h.blk.st (by rw [brdCells_length]; exact ho) hy fun w1 hb hz he => k w1 ⟨by rw [hs] at hb; exact hb, h.xo.ext he fun b hb' e => h.xo.ne h.blk t_brd_p (by rw [← show b = bb from e]; exact hb'), h.fo.ext he fun b hb' e => h.fo.ne h.blk t_brd_u (by rw [← show b = bb from e]; exact hb')⟩ hz (he.toBX fun b e => .inl e)
/-- a slice's room in place of the other -/
theorem c_Place (h : BrdM w bb room n xv fv a xs fs) (hl : fs = [] → xs.length < 256) (hff : ∀ f ∈ fs, f < 65536) : Ret P n_wide_Board_place [rp bb] w fun v w' => ∃ (f : Nat) (xv' fv' : Value) (xs' : List (Option Addr)) (fs' : List Nat),
    v = .int .u16 f ∧ BrdM w' bb room n xv' fv' a xs' fs' ∧ ((fs = fs' ++ [f] ∧ xs' = xs) ∨ (fs = [] ∧ fs' = [] ∧ xs' = xs ++ [none] ∧ f = xs.length + 1)) ∧ Ext (BX bb xv fv) w w' ∧ (∀ b, BX bb xv' fv' b → BX bb xv fv b ∨ w.heap.size ≤ b) := by
  refine W_wide_Board_place ?_
  refine h.f ?_
  refine xLen_sl h.fo.sl ?_
  refine xifD (fun hgt => ?_) fun hle => ?_
  · have hne : fs ≠ [] := by intro e; subst e; simp at hgt
    obtain ⟨fs', f, rfl⟩ : ∃ fs' f, fs = fs' ++ [f] := ⟨fs.dropLast, fs.getLast hne, (List.dropLast_concat_getLast hne).symm⟩
    have hlen : (fs' ++ [f]).length = fs'.length + 1 := by simp
    have hlmax : fs'.length + 1 ≤ 9223372036854775807 := by
      have h1 := h.fo
      rcases h1.2 with ⟨-, h1⟩ | ⟨g, cap, cur, -, -, -, h1, h2, -⟩
      · omega
      · unfold maxLen at h2; omega
    refine h.f ?_
    refine xi (r := (fs'.length : Int)) (by rw [hlen, wrapI (by omega)]; omega) ?_
    refine h.fo.sl.rd1 fs'.length rfl (by omega) (x := .int .u16 f) (by simp) ?_
    refine h.f ?_
    refine xi (r := (fs'.length : Int)) (by rw [hlen, wrapI (by omega)]; omega) ?_
    refine h.fo.cut fs'.length rfl (by omega) fun fv' hfo hfb => ?_
    have hfo' : Own w 0 T_uint16 1 fv' fs'.length (fs'.map fun n : Nat => .int .u16 (n : Int)) := by
      have e : ((fs' ++ [f]).map fun n : Nat => Value.int .u16 (n : Int)).take fs'.length = fs'.map fun n : Nat => .int .u16 (n : Int) := by
        rw [List.map_append, List.take_left' (by simp)]
      rw [e] at hfo; exact hfo
    refine h.blk.st (o := 259) (by rw [brdCells_length]; omega) hfo'.one fun w1 hb hz he => ?_
    rw [brd_setF] at hb
    refine ⟨f, xv, fv', xs, fs', rfl, ⟨hb, h.xo.ext he fun b hb' e => h.xo.ne h.blk t_brd_p (by rw [← show b = bb from e]; exact hb'), hfo'.ext he fun b hb' e => hfo'.ne h.blk t_brd_u (by rw [← show b = bb from e]; exact hb')⟩, .inl ⟨rfl, rfl⟩, he.toBX fun b e => .inl e, fun b hb => .inl ?_⟩
    rcases hb with hb | hb | hb
    · exact .inl hb
    · exact .inr (.inl hb)
    · exact .inr (.inr (by unfold SX at hb ⊢; rw [← hfb]; exact hb))
  · have hfs : fs = [] := List.eq_nil_of_length_eq_zero (by omega)
    subst hfs
    have hl := hl rfl
    refine h.x ?_
    refine xnew fun nb w1 hnb hblk hz he => ?_
    have h1 := h.extN he
    refine app_own ei_p (n := xs.length) (m := 1) (xs := xs.map Value.pointer) (ys := [.pointer none]) h1.xo (Nat.zero_le _) (hblk.sl (o := 0) (n := 1) (cap := 1) (by show 0 + 1 ≤ 1; omega) (by omega)) (by intro u hu; simp at hu; subst hu; rfl) (by omega) (by omega) fun xv' w2 hx he2 _ hfresh => ?_
    have hblk2 : Blk w2 bb (brdCells room n a xv fv) T_wide_Board := h1.blk.ext he2 (h1.xo.ne h1.blk t_brd_p)
    have hfo2 := h1.fo.ext he2 fun b hb hb' => h1.xo.ne2 h1.fo hb (Ne.symm t_p_u) hb'
    refine hblk2.st (o := 258) (by rw [brdCells_length]; omega) hx.one fun w3 hb3 hz3 he3 => ?_
    rw [brd_setX] at hb3
    have hx3 := hx.ext he3 fun b hb' e => hx.ne hblk2 t_brd_p (by rw [← show b = bb from e]; exact hb')
    have hf3 := hfo2.ext he3 fun b hb' e => hfo2.ne hblk2 t_brd_u (by rw [← show b = bb from e]; exact hb')
    refine hb3.ld brd_x ?_
    refine xLen_sl hx3.sl ?_
    refine xi (r := ((xs.length + 1 : Nat) : Int)) (wrapU16 (by omega)) ?_
    refine ⟨xs.length + 1, xv', fv, xs ++ [none], [], rfl, ⟨hb3, by simpa using hx3, hf3⟩, .inr ⟨rfl, rfl, rfl, rfl⟩, ?_, ?_⟩
    · refine ((he.mono fun _ _ h => h.elim).transS (he2.mono fun b _ hb => .inr (.inl hb))).transS (he3.mono fun b _ hb => .inl hb)
    · intro b hb
      rcases hb with hb | hb | hb
      · exact .inl (.inl hb)
      · rcases hfresh b hb with h | h
        · exact .inl (.inr (.inl h))
        · exact .inr (by have := he.size; omega)
      · exact .inl (.inr (.inr hb))

theorem BrdI.put (i : BrdI room n a xs fs m) {b : UInt8} (hb : a b ≠ 0) (x : Addr) : BrdI room n a (xs.set (a b - 1) (some x)) fs (upd m b (some x)) := by
  have hmb : (m b).isSome := by
    cases hm : m b with
    | none => exact absurd ((i.at0 b).2 hm) hb
    | some x => rfl
  refine ⟨?_, fun c => ?_, fun c hc => ?_, i.inj, i.nod, fun f hf => ?_, by rw [List.length_set]; exact i.cn, by rw [List.length_set]; exact i.xle, i.le, i.top⟩
  · have := cnt_upd m b (some x)
    simp [hmb] at this
    rw [this]; exact i.nc
  · by_cases e : c = b
    · subst e; rw [upd_same]; simp [hb]
    · rw [upd_other m _ e]; exact i.at0 c
  · by_cases e : c = b
    · subst e
      rw [upd_same, List.getElem?_set, if_pos rfl, if_pos (by have := i.at_le c; omega)]
    · rw [upd_other m _ e, List.getElem?_set, if_neg, i.atx c hc]
      intro h
      exact e (i.inj c b hc (by omega))
  · rw [List.length_set]; exact i.fr f hf
theorem BrdI.new (i : BrdI room n a xs fs m) {b : UInt8} (hb : a b = 0) (hlt : n < room) (x : Addr) {f : Nat} {xs' : List (Option Addr)} {fs' : List Nat} (hc : (fs = fs' ++ [f] ∧ xs' = xs) ∨ (fs = [] ∧ fs' = [] ∧ xs' = xs ++ [none] ∧ f = xs.length + 1)) :
    f ≠ 0 ∧ f ≤ xs'.length ∧ xs'.length ≤ 256 ∧ BrdI room (n + 1) (updN a b f) (xs'.set (f - 1) (some x)) fs' (upd m b (some x)) := by
  have hmb : m b = none := (i.at0 b).1 hb
  have h256 : xs'.length ≤ 256 := by
    rcases hc with ⟨-, rfl⟩ | ⟨rfl, rfl, rfl, rfl⟩
    · exact i.xle
    · have := i.cn; have := i.top; simp at *; omega
  have hf : f ≠ 0 ∧ f ≤ xs'.length ∧ (∀ c, a c ≠ f) ∧ fs'.Nodup ∧ (∀ g ∈ fs', g ≠ f ∧ 0 < g ∧ g ≤ xs'.length ∧ ∀ c, a c ≠ g) ∧ xs'.length = n + 1 + fs'.length ∧ (∀ c, a c ≠ 0 → xs'[a c - 1]? = some (m c)) := by
    rcases hc with ⟨rfl, rfl⟩ | ⟨rfl, rfl, rfl, rfl⟩
    · have h1 := i.fr f (by simp)
      have h2 := List.nodup_append.1 i.nod
      have h3 := i.cn
      refine ⟨by omega, h1.2.1, h1.2.2, h2.1, fun g hg => ⟨?_, i.fr g (by simp [hg])⟩, by simp at h3; omega, i.atx⟩
      exact h2.2.2 g hg f (by simp)
    · have h3 := i.cn
      refine ⟨by omega, by simp, fun c => by have := i.at_le c; omega, List.nodup_nil, by simp, by simp at h3 ⊢; omega, fun c hc => ?_⟩
      rw [List.getElem?_append_left (by have := i.at_le c; omega)]
      exact i.atx c hc
  obtain ⟨h1, h2, h3, h4, h5, h6, h7⟩ := hf
  refine ⟨h1, h2, h256, ?_, fun c => ?_, fun c hc' => ?_, fun c d hc' he => ?_, h4, fun g hg => ?_, by rw [List.length_set]; exact h6, by rw [List.length_set]; exact h256, by omega, i.top⟩
  · have := cnt_upd m b (some x)
    simp [hmb] at this
    rw [this, ← i.nc]
  · by_cases e : c = b
    · subst e; rw [upd_same, updN_same]; simp [h1]
    · rw [upd_other m _ e, updN_other a _ e]; exact i.at0 c
  · by_cases e : c = b
    · subst e
      rw [upd_same, updN_same, List.getElem?_set, if_pos rfl, if_pos (by omega)]
    · rw [updN_other a _ e] at hc' ⊢
      rw [upd_other m _ e, List.getElem?_set, if_neg, h7 c hc']
      intro h
      exact h3 c (by omega)
  · by_cases e : c = b
    · subst e
      by_cases e2 : d = c
      · exact e2.symm
      · rw [updN_same, updN_other a _ e2] at he
        exact absurd he.symm (h3 d)
    · by_cases e2 : d = b
      · subst e2
        rw [updN_same, updN_other a _ e] at he
        exact absurd he (h3 c)
      · rw [updN_other a _ e, updN_other a _ e2] at he
        rw [updN_other a _ e] at hc'
        exact i.inj c d hc' he
  · obtain ⟨g1, g2, g3, g4⟩ := h5 g hg
    refine ⟨g2, by rw [List.length_set]; exact g3, fun c => ?_⟩
    by_cases e : c = b
    · subst e; rw [updN_same]; exact fun h => g1 h.symm
    · rw [updN_other a _ e]; exact g4 c

/-- a thing of the board is written -/
theorem BrdM.stX (h : BrdM w bb room n xv fv a xs fs) {kd : IntKind} {i : Int} {y : Option Addr} {K : World → Prop} (k : Nat) (hi : i = (k : Int)) (hk : k < xs.length)
    (kk : ∀ w1, BrdM w1 bb room n xv fv a (xs.set k y) fs → w1.heap.size = w.heap.size → Ext (BX bb xv fv) w w1 → K w1) : xIxS xv (.int kd i) 1 fun u => xAt u fun a => XSt w a (.pointer y) K :=
  h.xo.st k hi hk rfl fun w1 hx hz he => kk w1 ⟨h.blk.ext he (h.xo.ne h.blk t_brd_p), by rw [List.length_set, List.map_set]; exact hx, h.fo.ext he fun b hb hb' => h.xo.ne2 h.fo hb (Ne.symm t_p_u) hb'⟩ hz (he.toBX fun b hb => .inr (.inl hb))
theorem c_BrdSet (h : BrdM w bb room n xv fv a xs fs) (i : BrdI room n a xs fs m) {b : UInt8} {x : Addr} (hf : n < room ∨ (m b).isSome) : Ret P n_wide_Board_Set [rp bb, bv b, .pointer (some x)] w fun v w' =>
    v = .int .i64 0 ∧ ∃ n' xv' fv' a' xs' fs', BrdM w' bb room n' xv' fv' a' xs' fs' ∧ BrdI room n' a' xs' fs' (upd m b (some x)) ∧ Ext (BX bb xv fv) w w' ∧ (∀ b, BX bb xv' fv' b → BX bb xv fv b ∨ w.heap.size ≤ b) := by
  refine W_wide_Board_Set ?_
  refine xjd ?_
  refine (c_BrdOk h i.pos).mono ?_
  rintro v w' ⟨rfl, rfl⟩
  refine xifF rfl ?_
  refine xjd ?_
  have hb : b.toNat < 256 := b.toNat_lt
  have hle := i.at_le b
  have h256 := i.xle
  have hlr := i.le
  have htop := i.top
  refine xixA b.toNat rfl hb ?_
  refine h.drew.at_ b ?_
  by_cases e : a b = 0
  · refine xifT (by simp [e]) ?_
    have hlt : n < room := by
      rcases hf with hf | hf
      · exact hf
      · rw [(i.at0 b).1 e] at hf; cases hf
    refine h.drew.n_ ?_
    refine h.drew.r ?_
    intro g
    refine xifE (fun he => by omega) fun _ => ?_
    refine xixA b.toNat rfl hb ?_
    refine h.drew.at_ b ?_
    refine xifT (by simp [e]) ?_
    refine (c_Place h.drew.drew (fun hfs => by have := i.cn; subst hfs; simp at this; omega) (fun f hf => by have := (i.fr f hf).2.1; omega)).mono ?_
    rintro v w1 ⟨f, xv', fv', xs', fs', rfl, h1, hcase, he1, hfr⟩
    obtain ⟨hf0, hfl, hx256, hI⟩ := i.new e hlt x hcase
    refine xixA b.toNat rfl hb ?_
    refine h1.stB (o := 2 + b.toNat) (by omega) rfl (brd_setA b f) fun w2 h2 hz2 he2 => ?_
    refine h2.n_ ?_
    refine xi (r := ((n + 1 : Nat) : Int)) (by rw [wrapI (by omega)]; omega) ?_
    refine h2.stB (o := 1) (by omega) rfl brd_setN fun w3 h3 hz3 he3 => ?_
    intro g
    refine h3.drew.x ?_
    refine xixA b.toNat rfl hb ?_
    refine h3.drew.at_ b ?_
    rw [updN_same]
    refine xi (r := ((f - 1 : Nat) : Int)) (by rw [wrapU16 (by omega)]; omega) ?_
    refine h3.drew.stX (f - 1) rfl (by omega) fun w4 h4 hz4 he4 => ?_
    refine ⟨rfl, n + 1, xv', fv', updN a b f, _, fs', h4, hI, ?_, hfr⟩
    refine he1.undrew.undrew.trans ((he2.transS he3).transS he4.undrew) fun c hc hc' => ?_
    rcases hfr c hc' with h | h
    · exact h
    · have : c < w'.heap.size := hc
      have : w'.heap.size ≤ c := h
      omega
  · refine xifF (by simp; omega) ?_
    intro g
    refine xifF rfl ?_
    refine xixA b.toNat rfl hb ?_
    refine h.drew.at_ b ?_
    refine xifF (by simp; omega) ?_
    intro g
    refine h.drew.drew.x ?_
    refine xixA b.toNat rfl hb ?_
    refine h.drew.drew.at_ b ?_
    refine xi (r := ((a b - 1 : Nat) : Int)) (by rw [wrapU16 (by omega)]; omega) ?_
    refine h.drew.drew.stX (a b - 1) rfl (by omega) fun w4 h4 hz4 he4 => ?_
    exact ⟨rfl, n, xv, fv, a, _, fs, h4, i.put e x, he4.undrew.undrew, fun b hb => .inl hb⟩
end
end Go.Proofs.YtidkkkdlaclolaaGreat
end
section
namespace Go.Proofs.YtidkkkdlaclolaaGreat
open Go Go.RowKit X
set_option linter.unusedSimpArgs false
set_option linter.unusedVariables false

section
variable {w : World} {bb room n : Nat} {xv fv : Value} {a : UInt8 → Nat} {xs : List (Option Addr)} {fs : List Nat} {m : UInt8 → Option Addr}
theorem BrdI.drop (i : BrdI room n a xs fs m) {b : UInt8} (hb : a b ≠ 0) : 0 < n ∧ BrdI room (n - 1) (updN a b 0) (xs.set (a b - 1) none) (fs ++ [a b]) (upd m b none) := by
  have hmb : (m b).isSome := by
    cases hm : m b with
    | none => exact absurd ((i.at0 b).2 hm) hb
    | some x => rfl
  have hpos : 0 < n := by rw [i.nc]; exact cnt_pos hmb
  have hle := i.at_le b
  have hcn := i.cn
  refine ⟨hpos, ?_, fun c => ?_, fun c hc => ?_, fun c d hc he => ?_, ?_, fun f hf => ?_, by simp; omega, by rw [List.length_set]; exact i.xle, by have := i.le; omega, i.top⟩
  · have := cnt_upd m b none
    simp [hmb] at this
    have := i.nc
    omega
  · by_cases e : c = b
    · subst e; rw [upd_same, updN_same]; simp
    · rw [upd_other m _ e, updN_other a _ e]; exact i.at0 c
  · by_cases e : c = b
    · subst e; rw [updN_same] at hc; exact absurd rfl hc
    · rw [updN_other a _ e] at hc ⊢
      rw [upd_other m _ e, List.getElem?_set, if_neg, i.atx c hc]
      intro h
      exact e (i.inj c b hc (by omega))
  · by_cases e : c = b
    · subst e; rw [updN_same] at hc; exact absurd rfl hc
    · rw [updN_other a _ e] at hc he
      by_cases e2 : d = b
      · subst e2; rw [updN_same] at he; exact absurd he hc
      · rw [updN_other a _ e2] at he
        exact i.inj c d hc he
  · refine List.nodup_append.2 ⟨i.nod, by simp, fun x hx y hy => ?_⟩
    simp only [List.mem_singleton] at hy
    subst hy
    exact fun e => (i.fr x hx).2.2 b e.symm
  · rw [List.length_set]
    rcases List.mem_append.1 hf with hf | hf
    · obtain ⟨g1, g2, g3⟩ := i.fr f hf
      refine ⟨g1, g2, fun c => ?_⟩
      by_cases e : c = b
      · subst e; rw [updN_same]; omega
      · rw [updN_other a _ e]; exact g3 c
    · simp only [List.mem_singleton] at hf
      subst hf
      refine ⟨by omega, hle, fun c => ?_⟩
      by_cases e : c = b
      · subst e; rw [updN_same]; omega
      · rw [updN_other a _ e]
        intro h
        exact e (i.inj c b (by omega) h)
theorem c_BrdDrop (h : BrdM w bb room n xv fv a xs fs) (i : BrdI room n a xs fs m) {b : UInt8} (hf : (m b).isSome) : Ret P n_wide_Board_Drop [rp bb, bv b] w fun v w' =>
    v = .int .i64 0 ∧ ∃ n' xv' fv' a' xs' fs', BrdM w' bb room n' xv' fv' a' xs' fs' ∧ BrdI room n' a' xs' fs' (upd m b none) ∧ Ext (BX bb xv fv) w w' ∧ (∀ b, BX bb xv' fv' b → BX bb xv fv b ∨ w.heap.size ≤ b) := by
  refine W_wide_Board_Drop ?_
  refine (c_BrdOk h i.pos).mono ?_
  rintro v w' ⟨rfl, rfl⟩
  refine xifF rfl ?_
  have hb : b.toNat < 256 := b.toNat_lt
  have hab : a b ≠ 0 := fun e => by rw [(i.at0 b).1 e] at hf; cases hf
  have hle := i.at_le b
  have h256 := i.xle
  have hcn := i.cn
  have hlr := i.le
  have htop := i.top
  obtain ⟨hpos, hI⟩ := i.drop hab
  refine xixA b.toNat rfl hb ?_
  refine h.at_ b ?_
  refine xifF (by simp; omega) ?_
  refine h.drew.x ?_
  refine xixA b.toNat rfl hb ?_
  refine h.drew.at_ b ?_
  refine xi (r := ((a b - 1 : Nat) : Int)) (by rw [wrapU16 (by omega)]; omega) ?_
  refine h.drew.stX (a b - 1) rfl (by omega) fun w1 h1 hz1 he1 => ?_
  refine h1.drew.f ?_
  refine xixA b.toNat rfl hb ?_
  refine h1.drew.at_ b ?_
  refine xnew fun nb w2 hnb hblk hz he => ?_
  have h2 := h1.drew.extN he
  refine ⟨by
    have := h2.blk.cell 259
    rw [brd_f] at this
    exact this, ?_⟩
  refine app_own ei_u16 (n := fs.length) (m := 1) (xs := fs.map fun n : Nat => .int .u16 (n : Int)) (ys := [.int .u16 (a b)]) h2.fo (Nat.zero_le _) (hblk.sl (o := 0) (n := 1) (cap := 1) (by show 0 + 1 ≤ 1; omega) (by omega)) (by intro u hu; simp at hu; subst hu; rfl) (by omega) (by omega) fun fv' w3 hfv he3 _ hfresh => ?_
  have hblk3 : Blk w3 bb (brdCells room n a xv fv) T_wide_Board := h2.blk.ext he3 (h2.fo.ne h2.blk t_brd_u)
  have hxo3 := h2.xo.ext he3 fun b hb hb' => h2.fo.ne2 h2.xo hb t_p_u hb'
  refine hblk3.st (o := 259) (by rw [brdCells_length]; omega) hfv.one fun w4 hb4 hz4 he4 => ?_
  rw [brd_setF] at hb4
  have h4 : BrdM w4 bb room n xv fv' a (xs.set (a b - 1) none) (fs ++ [a b]) := ⟨hb4, hxo3.ext he4 fun b hb' e => hxo3.ne hblk3 t_brd_p (by rw [← show b = bb from e]; exact hb'), by
    have := hfv.ext he4 fun b hb' e => hfv.ne hblk3 t_brd_u (by rw [← show b = bb from e]; exact hb')
    simpa using this⟩
  refine xixA b.toNat rfl hb ?_
  refine h4.stB (o := 2 + b.toNat) (by omega) rfl (brd_setA b 0) fun w5 h5 hz5 he5 => ?_
  refine h5.n_ ?_
  refine xi (r := ((n - 1 : Nat) : Int)) (by rw [wrapI (by omega)]; omega) ?_
  refine h5.stB (o := 1) (by omega) rfl brd_setN fun w6 h6 hz6 he6 => ?_
  have hfr : ∀ c, BX bb xv fv' c → BX bb xv fv c ∨ w'.heap.size ≤ c := by
    intro c hc
    rcases hc with hc | hc | hc
    · exact .inl (.inl hc)
    · exact .inl (.inr (.inl hc))
    · rcases hfresh c hc with h7 | h7
      · exact .inl (.inr (.inr h7))
      · refine .inr ?_
        have e1 : w1.drew.heap.size = w'.heap.size := hz1
        have := he.size
        omega
  refine ⟨rfl, n - 1, xv, fv', _, _, _, h6, hI, ?_, hfr⟩
  have hA : Ext (BX bb xv fv) w' w2 := he1.undrew.transN he.undrew
  have hB : Ext (BX bb xv fv) w' w4 := (hA.transS (he3.mono fun b _ hb => .inr (.inr hb))).transS (he4.mono fun b _ hb => .inl hb)
  refine hB.trans (he5.transS he6) fun c hc hc' => ?_
  rcases hfr c hc' with h | h
  · exact h
  · omega

set_option maxRecDepth 100000 in
theorem c_BrdNext {i : Nat} (h : BrdM w bb room n xv fv a xs fs) (hi : BrdI room n a xs fs m) (hlt : i ≤ 256) : Ret P n_wide_Board_Next [rp bb, .int .i64 i] w fun v w' => v = nextV m i ∧ Ext No w w' := by
  refine W_wide_Board_Next ?_
  refine xjd ?_
  refine (c_BrdOk h hi.pos).mono ?_
  rintro v w' ⟨rfl, rfl⟩
  refine xifT rfl ?_
  have e0 : (if ((i : Int) < 0) then (0 : Int) else i) = i := by rw [if_neg (by omega)]
  refine xloop (fun nn vs w1 => ∃ (j : Nat) (x y : Value), vs = [.int .i64 j, x, y, .int .u8 0, .pointer none, .bool false] ∧ i ≤ j ∧ j ≤ 256 ∧ nn = 256 - j ∧ (∀ c : UInt8, i ≤ c.toNat → c.toNat < j → m c = none) ∧ Ext No w' w1) (256 - i)
    ⟨i, _, _, by rw [if_neg (show ¬ (i : Int) < 0 by omega)], by omega, by omega, rfl, fun c h1 h2 => by omega, Ext.refl _ _⟩ ?_
  rintro nn vs g w1 ⟨j, x, y, rfl, h1, h2, rfl, h3, he⟩
  refine xifD (fun hlt => ?_) fun hge => ?_
  · have hj : j < 256 := by omega
    refine xi (r := (j : Int)) (wrapU8 (by omega)) ?_
    rw [bv_of hj]
    refine (c_BrdGet (h.extN he) hi).mono ?_
    rintro v w2 ⟨rfl, he2⟩
    have ht := ofNat_toNat hj
    cases hm : m (UInt8.ofNat j) with
    | some x =>
      refine xifT (by simp [getV, hm]) ?_
      refine xi (r := (j : Int)) (wrapU8 (by omega)) ?_
      refine ⟨?_, he.transN he2⟩
      have : nextB m i = some (UInt8.ofNat j) := nextB_some.2 ⟨by rw [hm]; rfl, by omega, fun d h5 h6 => h3 d h5 (by omega)⟩
      simp only [nextV, this]
      rw [bv_of hj, hm]
    | none =>
      refine xifF (by simp [getV, hm]) ?_
      refine xi (r := ((j + 1 : Nat) : Int)) (by rw [wrapI (by omega)]; omega) ?_
      refine xnext (256 - (j + 1)) (by omega) ⟨j + 1, _, _, rfl, by omega, by omega, rfl, fun c h5 h6 => ?_, he.transN he2⟩
      rcases Nat.lt_or_ge c.toNat j with h7 | h7
      · exact h3 c h5 h7
      · have : c = UInt8.ofNat j := UInt8.toNat_inj.1 (by omega)
        rw [this]; exact hm
  · intro g
    refine ⟨?_, he⟩
    have : nextB m i = none := nextB_none.2 fun c hc => h3 c hc (by have := c.toNat_lt; omega)
    simp [nextV, this]

theorem c_CloneP {v : Value} {k : Nat} {ys : List Value} (h : Own w 0 T_p_node_Node 1 v k ys) (h1 : ∀ u ∈ ys, u.oneCell' = true) (hk : k ≤ 1000000) : Ret P n_slices_Clone_Node [v] w fun v' w' => Own w' w.heap.size T_p_node_Node 1 v' k ys ∧ Ext No w w' := by
  refine W_slices_Clone_Node ?_
  have h' := h
  obtain ⟨hl, hh⟩ := h
  rcases hh with ⟨rfl, rfl⟩ | ⟨g, cap, cur, rfl, _⟩
  · have : ys = [] := List.eq_nil_of_length_eq_zero (by simpa using hl)
    subst this
    exact ⟨Own.nil _ _ _ _, Ext.refl _ _⟩
  · refine xnew fun b w1 hb hblk hsz he => ?_
    refine app_own ei_p (B := w.heap.size) (n := 0) (xs := []) (m := k) ⟨rfl, .inr ⟨b, 0, _, rfl, by omega, hblk.h, by omega, by decide, rfl, rfl⟩⟩ (by omega) (h'.extN he).sl h1 (by omega) (by omega) fun v' w' ho h1 _ _ => ?_
    refine ⟨by simpa using ho, he.trans1 (b := b) (h1.mono fun c _ h => ?_) (by omega)⟩
    simp only [Value.ownBlock, Option.some.injEq] at h
    exact h.symm
theorem c_CloneU {v : Value} {k : Nat} {ys : List Value} (h : Own w 0 T_uint16 1 v k ys) (h1 : ∀ u ∈ ys, u.oneCell' = true) (hk : k ≤ 1000000) : Ret P n_slices_Clone_uint16 [v] w fun v' w' => Own w' w.heap.size T_uint16 1 v' k ys ∧ Ext No w w' := by
  refine W_slices_Clone_uint16 ?_
  have h' := h
  obtain ⟨hl, hh⟩ := h
  rcases hh with ⟨rfl, rfl⟩ | ⟨g, cap, cur, rfl, _⟩
  · have : ys = [] := List.eq_nil_of_length_eq_zero (by simpa using hl)
    subst this
    exact ⟨Own.nil _ _ _ _, Ext.refl _ _⟩
  · refine xnew fun b w1 hb hblk hsz he => ?_
    refine app_own ei_u16 (B := w.heap.size) (n := 0) (xs := []) (m := k) ⟨rfl, .inr ⟨b, 0, _, rfl, by omega, hblk.h, by omega, by decide, rfl, rfl⟩⟩ (by omega) (h'.extN he).sl h1 (by omega) (by omega) fun v' w' ho h1 _ _ => ?_
    refine ⟨by simpa using ho, he.trans1 (b := b) (h1.mono fun c _ h => ?_) (by omega)⟩
    simp only [Value.ownBlock, Option.some.injEq] at h
    exact h.symm
set_option maxRecDepth 100000 in
theorem c_BrdCopy (h : BrdM w bb room n xv fv a xs fs) (i : BrdI room n a xs fs m) : Ret P n_wide_Board_Copy [rp bb] w fun v w' => ∃ b xv' fv', v = rp b ∧ BrdM w' b room n xv' fv' a xs fs ∧ Ext No w w' ∧ ∀ c, BX b xv' fv' c → w.heap.size ≤ c := by
  refine W_wide_Board_Copy ?_
  refine (c_BrdOk h i.pos).mono ?_
  rintro v w' ⟨rfl, rfl⟩
  refine xifF rfl ?_
  have hl := brdCells_length room n a xv fv
  have h256 := i.xle
  have hcn := i.cn
  refine h.blk.ldA hl ?_
  refine xnew fun b w1 hb hblk hz he => ?_
  refine xstoreVar hblk (by rw [hl]; kernel_rfl) (by rw [hl]; simp [z_wide_Board]) ?_ fun w2 hb2 hz2 he2 => ?_
  · intro v hv
    unfold brdCells atCells at hv
    simp only [List.mem_cons, List.mem_append, List.mem_map, List.mem_nil_iff, or_false] at hv
    rcases hv with rfl | rfl | ⟨c, -, rfl⟩ | rfl | rfl
    · rfl
    · rfl
    · rfl
    · exact h.xo.one
    · exact h.fo.one
  · have e : z_wide_Board.drop (0 + (brdCells room n a xv fv).length) = [] := List.drop_eq_nil_of_le (by rw [hl]; simp [z_wide_Board])
    rw [e] at hb2
    have hb2' : Blk w2 b (brdCells room n a xv fv) T_wide_Board := by simpa using hb2
    have hE : Ext No w' w2 := he.trans1 he2 (by omega)
    have h2 := h.extN hE
    refine h2.drew.x ?_
    refine h2.drew.f ?_
    refine (c_CloneP h2.drew.xo (by intro u hu; obtain ⟨c, -, rfl⟩ := List.mem_map.1 hu; rfl) (by omega)).mono ?_
    rintro xv' w3 ⟨hx3, he3⟩
    have h3 := h2.drew.extN he3
    refine ⟨by
      have := h3.blk.cell 259
      rw [brd_f] at this
      exact this, ?_⟩
    refine (c_CloneU h3.fo (by intro u hu; obtain ⟨c, -, rfl⟩ := List.mem_map.1 hu; rfl) (by omega)).mono ?_
    rintro fv' w4 ⟨hf4, he4⟩
    have hx4 := hx3.extN he4
    have hb4 : Blk w4 b (brdCells room n a xv fv) T_wide_Board := (hb2'.drew.ext he3 fun h => h).ext he4 fun h => h
    refine hb4.st (o := 258) (by rw [hl]; omega) hx4.one fun w5 hb5 hz5 he5 => ?_
    rw [brd_setX] at hb5
    refine hb5.st (o := 259) (by rw [brdCells_length]; omega) hf4.one fun w6 hb6 hz6 he6 => ?_
    rw [brd_setF] at hb6
    have s1 : w2.drew.heap.size = w2.heap.size := rfl
    have s2 := hE.size
    have s3 := he3.size
    have sb : w'.heap.size ≤ b := by omega
    refine ⟨b, xv', fv', rfl, ⟨hb6, ?_, ?_⟩, ?_, ?_⟩
    · have h5 := hx4.ext he5 fun c hb' e => hx4.ne hb4 t_brd_p (by rw [← show c = b from e]; exact hb')
      exact (h5.ext he6 fun c hb' e => h5.ne hb5 t_brd_p (by rw [← show c = b from e]; exact hb')).mono (Nat.zero_le _)
    · have h5 := hf4.ext he5 fun c hb' e => hf4.ne hb4 t_brd_u (by rw [← show c = b from e]; exact hb')
      exact (h5.ext he6 fun c hb' e => h5.ne hb5 t_brd_u (by rw [← show c = b from e]; exact hb')).mono (Nat.zero_le _)
    · exact (((hE.transN he3.undrew).transN he4).trans1 he5 sb).trans1 he6 sb
    · intro c hc
      rcases hc with rfl | hc | hc
      · exact sb
      · have := (hx3.ge hc).1; omega
      · have := (hf4.ge hc).1; omega
set_option maxRecDepth 100000 in
theorem brd_zero (r : Nat) : brdCells r 0 (fun _ => 0) (.slice none 0 0) (.slice none 0 0) = .int .i64 r :: .int .i64 0 :: (List.replicate 256 (.int .u16 0) ++ [.slice none 0 0, .slice none 0 0]) := by
  unfold brdCells atCells
  rw [List.map_const']
  rfl
set_option maxRecDepth 100000 in
theorem c_BrdNew {r : Nat} (hr : r = 48 ∨ r = 256) : Ret P n_wide_New_Node [.int .i64 r] w fun v w' => ∃ b, v = .tuple #[rp b, .int .i64 0] ∧ BrdM w' b r 0 (.slice none 0 0) (.slice none 0 0) (fun _ => 0) [] [] ∧ BrdI r 0 (fun _ => 0) [] [] (fun _ => none) ∧ Ext No w w' ∧ ∀ c, BX b (.slice none 0 0) (.slice none 0 0) c → w.heap.size ≤ c := by
  refine W_wide_New_Node ?_
  refine xj (fun vs w' => vs = [.bool false] ∧ w' = w) ?_ ?_
  · refine xifN (fun h1 => ?_) fun h1 => ⟨rfl, rfl⟩
    have : r = 256 := by omega
    subst this
    exact ⟨rfl, rfl⟩
  · rintro vs g w' ⟨rfl, rfl⟩
    refine xifF rfl ?_
    refine xnew fun b w1 hb hblk hz he => ?_
    refine ⟨b, rfl, ⟨?_, Own.nil _ _ _ _, Own.nil _ _ _ _⟩, ⟨?_, by simp, by simp, by simp, List.nodup_nil, by simp, rfl, by simp, by omega, hr⟩, he, ?_⟩
    · rw [brd_zero]; exact hblk
    · simp [cnt, dom_none]
    · intro c hc
      rcases hc with hc | hc | hc
      · omega
      · cases hc
      · cases hc
end
end Go.Proofs.YtidkkkdlaclolaaGreat
end
end
section
section
namespace Go.Proofs.YtidkkkdlaclolaaGreat
open Go Go.RowKit X
set_option linter.unusedSimpArgs false
set_option linter.unusedVariables false

theorem X.index_ints {P : Program} {w : World} {t e : TypeId} {n m : Nat} {k kd : IntKind} {cs : Array Value} {i : Int} {v : Value} {K : Value → World → Prop} (h : P.underlying t = some (.array n e)) (he : P.underlying e = some (.int k)) (hs : (P.info? e).map (·.size) = some 1)
    (hi : i = (m : Int)) (hm : m < n) (hv : cs[m]? = some v) (kk : K v w) : XRun P (Instr.index t (.agg cs) (.int kd i)) w K := by
  refine ⟨v, w, ?_, kk⟩
  subst hi
  cases hq : P.info? e with
  | none => simp [hq] at hs
  | some inf =>
    have hs1 : inf.size = 1 := by simpa [hq] using hs
    simp [Instr.index, asIntOf, run_underlying h, run_underlying he, part, isAgg, sizeOf, typeInfo, hq, hs1, hm, hv]

def kinds : List Nat := [4, 16, 48, 256]
set_option maxRecDepth 100000 in
theorem c_KindOf {w : World} {n : Nat} (h : n ≤ 256) : Ret P n_kids_KindOf [.int .i64 n] w fun v w' => v = .int .i64 (kindN n) ∧ Ext No w w' := by
  refine W_kids_KindOf ?_
  unfold S_kids_KindOf
  refine xifD (fun hlt => by omega) fun _ => ?_
  have hk : ∀ i, i < 4 → (#[.int .i64 4, .int .i64 16, .int .i64 48, .int .i64 256] : Array Value)[i]? = (kinds[i]?).map fun n : Nat => .int .i64 (n : Int) := by
    intro i hi
    rcases (show i = 0 ∨ i = 1 ∨ i = 2 ∨ i = 3 by omega) with rfl | rfl | rfl | rfl <;> rfl
  refine xloop (fun nn vs w' => ∃ (i : Nat) (x y : Value), vs = [.int .i64 i, x, y] ∧ i ≤ 4 ∧ nn = 4 - i ∧ (∀ j k, j < i → kinds[j]? = some k → k < n) ∧ Ext No w w') 4 ⟨0, _, _, rfl, by omega, rfl, by omega, Ext.refl _ _⟩ ?_
  rintro nn vs g w1 ⟨i, x, y, rfl, hi, rfl, hlo, he⟩
  refine xifD (fun hlt => ?_) fun hge => ?_
  · have hi4 : i < 4 := by omega
    obtain ⟨k, hkk⟩ : ∃ k, kinds[i]? = some k := ⟨kinds[i]'hi4, List.getElem?_eq_getElem hi4⟩
    refine index_ints (e := T_int) (n := 4) (m := i) (k := .i64) (v := .int .i64 k) (by kernel_rfl) (by kernel_rfl) (by kernel_rfl) rfl hi4 ?_ ?_
    · have := hk i hi4
      rw [hkk] at this
      exact this
    · refine xifD (fun hle => ?_) fun hgt => ?_
      · refine ⟨?_, he⟩
        congr 2
        have h1 := hlo 0 4
        have h2 := hlo 1 16
        have h3 := hlo 2 48
        have h4 := hlo 3 256
        unfold kinds at *
        unfold kindN
        rcases (show i = 0 ∨ i = 1 ∨ i = 2 ∨ i = 3 by omega) with rfl | rfl | rfl | rfl <;> simp at * <;> repeat' split
        all_goals omega
      · refine xi (r := ((i + 1 : Nat) : Int)) (by rw [wrapI (by omega)]; omega) ?_
        refine xnext (4 - (i + 1)) (by omega) ⟨i + 1, _, _, rfl, by omega, rfl, fun j k' hj hk' => ?_, he⟩
        rcases Nat.lt_or_ge j i with h5 | h5
        · exact hlo j k' h5 hk'
        · have : j = i := by omega
          subst this
          rw [hkk] at hk'
          cases hk'
          omega
  · exfalso
    have := hlo 3 256 (by omega) rfl
    omega

/-- kids: of nothing (no blocks); in a row; on a board -/
def Kd (w : World) (ks : List Nat) (room : Nat) (m : UInt8 → Option Addr) : Prop :=
  (ks = [] ∧ room = 0 ∧ m = fun _ => none) ∨
  (∃ kb rb l, ks = [kb, rb] ∧ Blk w kb [rp rb, .pointer none] T_kids_Kids ∧ Row w rb room l ∧ lkp l = m) ∨
  (∃ kb bb n xv fv a xs fs, ks = kb :: bb :: (xv.ownBlock.toList ++ fv.ownBlock.toList) ∧ Blk w kb [.pointer none, rp bb] T_kids_Kids ∧ BrdM w bb room n xv fv a xs fs ∧ BrdI room n a xs fs m)
def kptr (ks : List Nat) : Value := match ks with | [] => .pointer none | b :: _ => rp b
theorem mem_BX {kb bb b : Nat} {xv fv : Value} : b ∈ kb :: bb :: (xv.ownBlock.toList ++ fv.ownBlock.toList) ↔ b = kb ∨ BX bb xv fv b := by
  simp [BX, SX, Option.mem_toList, Option.mem_def]
/-- the types of the blocks of kids -/
def KT (T : TypeId) : Prop := T = T_kids_Kids ∨ T = T_small_Row ∨ T = T_wide_Board ∨ T = T_p_node_Node ∨ T = T_uint16
theorem Kd.ty {w : World} {ks : List Nat} {room : Nat} {m : UInt8 → Option Addr} (h : Kd w ks room m) : ∀ b ∈ ks, ∃ cs T, Blk w b cs T ∧ KT T := by
  intro b hb
  rcases h with ⟨rfl, -, -⟩ | ⟨kb, rb, l, rfl, h1, h2, -⟩ | ⟨kb, bb, n, xv, fv, a, xs, fs, rfl, h1, h2, -⟩
  · cases hb
  · simp only [List.mem_cons, List.mem_nil_iff, or_false] at hb
    rcases hb with rfl | rfl
    · exact ⟨_, _, h1, .inl rfl⟩
    · exact ⟨_, _, h2.blk, .inr (.inl rfl)⟩
  · rcases mem_BX.1 hb with rfl | rfl | hb | hb
    · exact ⟨_, _, h1, .inl rfl⟩
    · exact ⟨_, _, h2.blk, .inr (.inr (.inl rfl))⟩
    · obtain ⟨cs, hc⟩ := h2.xo.blk hb
      exact ⟨_, _, hc, .inr (.inr (.inr (.inl rfl)))⟩
    · obtain ⟨cs, hc⟩ := h2.fo.blk hb
      exact ⟨_, _, hc, .inr (.inr (.inr (.inr rfl)))⟩
theorem Kd.lt {w : World} {ks : List Nat} {room : Nat} {m : UInt8 → Option Addr} (h : Kd w ks room m) {b : Nat} (hb : b ∈ ks) : b < w.heap.size := by
  obtain ⟨cs, T, h1, -⟩ := h.ty b hb
  exact h1.lt
theorem Kd.ext {X : Nat → Prop} {w w' : World} {ks : List Nat} {room : Nat} {m : UInt8 → Option Addr} (h : Kd w ks room m) (e : Ext X w w') (hx : ∀ b ∈ ks, ¬ X b) : Kd w' ks room m := by
  rcases h with h | ⟨kb, rb, l, rfl, h1, h2, h3⟩ | ⟨kb, bb, n, xv, fv, a, xs, fs, rfl, h1, h2, h3⟩
  · exact .inl h
  · exact .inr (.inl ⟨kb, rb, l, rfl, h1.ext e (hx _ (by simp)), h2.ext e (hx _ (by simp)), h3⟩)
  · exact .inr (.inr ⟨kb, bb, n, xv, fv, a, xs, fs, rfl, h1.ext e (hx _ (by simp)), h2.ext e fun b hb => hx b (mem_BX.2 (.inr hb)), h3⟩)
theorem Kd.extN {w w' : World} {ks : List Nat} {room : Nat} {m : UInt8 → Option Addr} (h : Kd w ks room m) (e : Ext No w w') : Kd w' ks room m := h.ext e fun _ _ h => h
theorem Kd.drew {w : World} {ks : List Nat} {room : Nat} {m : UInt8 → Option Addr} (h : Kd w ks room m) : Kd w.drew ks room m := h.extN (Ext.refl No w).drew

section
variable {w : World} {ks : List Nat} {room : Nat} {m : UInt8 → Option Addr}
theorem Kd.le (h : Kd w ks room m) : cnt m ≤ room := by
  rcases h with ⟨-, rfl, rfl⟩ | ⟨kb, rb, l, rfl, h1, h2, rfl⟩ | ⟨kb, bb, n, xv, fv, a, xs, fs, rfl, h1, h2, h3⟩
  · simp [cnt, dom_none]
  · rw [lkp_cnt h2.rise]; exact h2.le
  · rw [← h3.nc]; exact h3.le
theorem c_KOk (h : Kd w ks room m) : Ret P n_kids_Kids_ok [kptr ks] w fun v w' => v = .bool !ks.isEmpty ∧ w' = w := by
  refine W_kids_Kids_ok ?_
  refine xjd ?_
  rcases h with ⟨rfl, rfl, rfl⟩ | ⟨kb, rb, l, rfl, h1, h2, rfl⟩ | ⟨kb, bb, n, xv, fv, a, xs, fs, rfl, h1, h2, h3⟩
  · exact fun g => ⟨rfl, rfl⟩
  · refine xifT rfl ?_
    refine h1.ld (v := rp rb) rfl ?_
    exact fun g => ⟨rfl, rfl⟩
  · refine xifT rfl ?_
    refine h1.ld (v := .pointer none) rfl ?_
    refine xifF rfl ?_
    refine h1.ld (v := rp bb) rfl ?_
    exact fun g => ⟨rfl, rfl⟩
theorem c_KLen (h : Kd w ks room m) : Ret P n_kids_Kids_Len [kptr ks] w fun v w' => v = .int .i64 (cnt m) ∧ w' = w := by
  refine W_kids_Kids_Len ?_
  refine (c_KOk h).mono ?_
  rintro v w' ⟨rfl, rfl⟩
  rcases h with ⟨rfl, rfl, rfl⟩ | ⟨kb, rb, l, rfl, h1, h2, rfl⟩ | ⟨kb, bb, n, xv, fv, a, xs, fs, rfl, h1, h2, h3⟩
  · exact ⟨by simp [cnt, dom_none], rfl⟩
  · refine xifF rfl ?_
    refine h1.ld (v := rp rb) rfl ?_
    refine xifT rfl ?_
    refine h1.ld (v := rp rb) rfl ?_
    refine (c_RowLen h2).mono ?_
    rintro v w1 ⟨rfl, rfl⟩
    exact ⟨by rw [lkp_cnt h2.rise], rfl⟩
  · refine xifF rfl ?_
    refine h1.ld (v := .pointer none) rfl ?_
    refine xifF rfl ?_
    refine h1.ld (v := rp bb) rfl ?_
    refine (c_BrdLen h2 h3).mono ?_
    rintro v w1 ⟨rfl, rfl⟩
    exact ⟨by rw [h3.nc], rfl⟩
theorem c_KKind (h : Kd w ks room m) : Ret P n_kids_Kids_Kind [kptr ks] w fun v w' => v = .int .i64 room ∧ w' = w := by
  refine W_kids_Kids_Kind ?_
  refine (c_KOk h).mono ?_
  rintro v w' ⟨rfl, rfl⟩
  rcases h with ⟨rfl, rfl, rfl⟩ | ⟨kb, rb, l, rfl, h1, h2, rfl⟩ | ⟨kb, bb, n, xv, fv, a, xs, fs, rfl, h1, h2, h3⟩
  · exact ⟨rfl, rfl⟩
  · refine xifF rfl ?_
    refine h1.ld (v := rp rb) rfl ?_
    refine xifT rfl ?_
    refine h1.ld (v := rp rb) rfl ?_
    refine (c_RowRoom h2).mono ?_
    rintro v w1 ⟨rfl, rfl⟩
    exact ⟨rfl, rfl⟩
  · refine xifF rfl ?_
    refine h1.ld (v := .pointer none) rfl ?_
    refine xifF rfl ?_
    refine h1.ld (v := rp bb) rfl ?_
    refine (c_BrdRoom h2 h3).mono ?_
    rintro v w1 ⟨rfl, rfl⟩
    exact ⟨rfl, rfl⟩
theorem c_KGet (h : Kd w ks room m) {b : UInt8} : Ret P n_kids_Kids_Get [kptr ks, bv b] w fun v w' => v = getV m b ∧ Ext No w w' := by
  refine W_kids_Kids_Get ?_
  refine (c_KOk h).mono ?_
  rintro v w' ⟨rfl, rfl⟩
  rcases h with ⟨rfl, rfl, rfl⟩ | ⟨kb, rb, l, rfl, h1, h2, rfl⟩ | ⟨kb, bb, n, xv, fv, a, xs, fs, rfl, h1, h2, h3⟩
  · exact ⟨rfl, Ext.refl _ _⟩
  · refine xifF rfl ?_
    refine h1.ld (v := rp rb) rfl ?_
    refine xifT rfl ?_
    refine h1.ld (v := rp rb) rfl ?_
    refine (c_RowGet h2).mono ?_
    rintro v w1 ⟨rfl, he⟩
    exact ⟨rfl, he⟩
  · refine xifF rfl ?_
    refine h1.ld (v := .pointer none) rfl ?_
    refine xifF rfl ?_
    refine h1.ld (v := rp bb) rfl ?_
    refine (c_BrdGet h2 h3).mono ?_
    rintro v w1 ⟨rfl, he⟩
    exact ⟨rfl, he⟩
theorem nextV_shape (m : UInt8 → Option Addr) (i : Nat) : ∃ a b c, nextV m i = .tuple #[a, b, c] := by
  unfold nextV
  cases nextB m i <;> exact ⟨_, _, _, rfl⟩
theorem nextV_none (i : Nat) : nextV (fun _ => none) i = .tuple #[.int .u8 0, .pointer none, .bool false] := by
  have : nextB (fun _ => none : UInt8 → Option Addr) i = none := nextB_none.2 fun _ _ => rfl
  simp [nextV, this]
theorem c_KNext {i : Nat} (h : Kd w ks room m) (hi : i ≤ 256) : Ret P n_kids_Kids_Next [kptr ks, .int .i64 i] w fun v w' => v = nextV m i ∧ Ext No w w' := by
  refine W_kids_Kids_Next ?_
  refine (c_KOk h).mono ?_
  rintro v w' ⟨rfl, rfl⟩
  rcases h with ⟨rfl, rfl, rfl⟩ | ⟨kb, rb, l, rfl, h1, h2, rfl⟩ | ⟨kb, bb, n, xv, fv, a, xs, fs, rfl, h1, h2, h3⟩
  · exact ⟨(nextV_none i).symm, Ext.refl _ _⟩
  · refine xifF rfl ?_
    refine h1.ld (v := rp rb) rfl ?_
    refine xifT rfl ?_
    refine h1.ld (v := rp rb) rfl ?_
    refine (c_RowNext h2).mono ?_
    rintro v w1 ⟨rfl, he⟩
    obtain ⟨x, y, z, e⟩ := nextV_shape (lkp l) i
    rw [e]
    exact ⟨rfl, he⟩
  · refine xifF rfl ?_
    refine h1.ld (v := .pointer none) rfl ?_
    refine xifF rfl ?_
    refine h1.ld (v := rp bb) rfl ?_
    refine (c_BrdNext h2 h3 hi).mono ?_
    rintro v w1 ⟨rfl, he⟩
    obtain ⟨x, y, z, e⟩ := nextV_shape m i
    rw [e]
    exact ⟨rfl, he⟩
end
end Go.Proofs.YtidkkkdlaclolaaGreat
end
section
namespace Go.Proofs.YtidkkkdlaclolaaGreat
open Go Go.RowKit X
set_option linter.unusedSimpArgs false
set_option linter.unusedVariables false

theorem X.cnt_mono {α : Type} {m m' : UInt8 → Option α} (h : ∀ c, (m c).isSome → (m' c).isSome) : cnt m ≤ cnt m' := by
  rw [cnt_eq, cnt_eq]
  exact List.countP_mono_left fun c _ => h c
def Sub (ks ks' : List Nat) (n : Nat) : Prop := ∀ c ∈ ks', c ∈ ks ∨ n ≤ c

section
variable {w : World} {ks : List Nat} {room : Nat} {m : UInt8 → Option Addr}
theorem c_KPut (h : Kd w ks room m) (hne : ks ≠ []) {b : UInt8} {x : Addr} (hf : cnt m < room ∨ (m b).isSome) : Ret P n_kids_Kids_put [kptr ks, bv b, .pointer (some x)] w fun v w' =>
    ∃ ks', Kd w' ks' room (upd m b (some x)) ∧ ks' ≠ [] ∧ kptr ks' = kptr ks ∧ Ext (· ∈ ks) w w' ∧ Sub ks ks' w.heap.size := by
  refine W_kids_Kids_put ?_
  rcases h with ⟨rfl, rfl, rfl⟩ | ⟨kb, rb, l, rfl, h1, h2, rfl⟩ | ⟨kb, bb, n, xv, fv, a, xs, fs, rfl, h1, h2, h3⟩
  · exact absurd rfl hne
  · refine h1.ld (v := rp rb) rfl ?_
    refine xifT rfl ?_
    refine h1.ld (v := rp rb) rfl ?_
    refine (c_RowSet h2 (by rw [lkp_cnt h2.rise] at hf; exact hf)).mono ?_
    rintro v w' ⟨rfl, he, l', h4, h5⟩
    refine ⟨[kb, rb], .inr (.inl ⟨kb, rb, l', rfl, h1.ext he (h1.ne h2.blk (by decide)), h4, h5⟩), by simp, rfl, he.mono fun b _ hb => by simp [show b = rb from hb], fun c hc => .inl hc⟩
  · refine h1.ld (v := .pointer none) rfl ?_
    refine xifF rfl ?_
    refine h1.ld (v := rp bb) rfl ?_
    refine (c_BrdSet h2 h3 (by rw [← h3.nc] at hf; exact hf)).mono ?_
    rintro v w' ⟨rfl, n', xv', fv', a', xs', fs', h4, h5, he, hfr⟩
    refine ⟨_, .inr (.inr ⟨kb, bb, n', xv', fv', a', xs', fs', rfl, h1.ext he fun hb => ?_, h4, h5⟩), by simp, rfl, he.mono fun b _ hb => mem_BX.2 (.inr hb), fun c hc => ?_⟩
    · rcases hb with hb | hb | hb
      · exact h1.ne h2.blk (by decide) hb
      · exact h2.xo.ne h1 (by decide) hb
      · exact h2.fo.ne h1 (by decide) hb
    · rcases mem_BX.1 hc with rfl | hc
      · exact .inl (by simp)
      · rcases hfr c hc with h | h
        · exact .inl (mem_BX.2 (.inr h))
        · exact .inr h
theorem c_KRoom {r : Nat} (hr : r ∈ kinds) : Ret P n_kids_room_Node [.int .i64 r] w fun v w' => ∃ ks, v = kptr ks ∧ ks ≠ [] ∧ Kd w' ks r (fun _ => none) ∧ Ext No w w' ∧ Sub [] ks w.heap.size := by
  refine W_kids_room_Node ?_
  refine xnew fun b w1 hb hblk hz he => ?_
  have hblk' : Blk w1 b [.pointer none, .pointer none] T_kids_Kids := hblk
  refine xjd ?_
  unfold kinds at hr
  simp only [List.mem_cons, List.mem_nil_iff, or_false] at hr
  refine xifD (fun hle => ?_) fun hgt => ?_
  · refine (c_RowNew (r := r) (by omega) (by omega)).mono ?_
    rintro v w2 ⟨rb, rfl, hrb, hrow, he2⟩
    refine (hblk'.ext he2 fun h => h).st (o := 0) (by simp) rfl fun w3 hb3 hz3 he3 => ?_
    intro g
    refine ⟨[b, rb], rfl, by simp, .inr (.inl ⟨b, rb, [], rfl, hb3, hrow.ext he3 (show ¬ rb = b by have := hblk'.lt; omega), rfl⟩), (he.transN he2).trans1 he3 (by omega), fun c hc => .inr ?_⟩
    simp only [List.mem_cons, List.mem_nil_iff, or_false] at hc
    have := he.size
    rcases hc with rfl | rfl <;> omega
  · refine (c_BrdNew (r := r) (by omega)).mono ?_
    rintro v w2 ⟨bb, rfl, h4, h5, he2, hfr⟩
    refine (hblk'.ext he2 fun h => h).st (o := 1) (by simp) rfl fun w3 hb3 hz3 he3 => ?_
    intro g
    have hlt := hblk'.lt
    refine ⟨_, rfl, by simp, .inr (.inr ⟨b, bb, 0, _, _, _, [], [], rfl, hb3, h4.ext he3 fun c hc => ?_, h5⟩), (he.transN he2).trans1 he3 (by omega), fun c hc => .inr ?_⟩
    · have := hfr c hc
      exact show ¬ c = b by omega
    · have := he.size
      rcases mem_BX.1 hc with rfl | hc
      · omega
      · have := hfr c hc; omega
theorem c_KNew : Ret P n_kids_New_Node [] w fun v w' => ∃ ks, v = kptr ks ∧ ks ≠ [] ∧ Kd w' ks 4 (fun _ => none) ∧ Ext No w w' ∧ Sub [] ks w.heap.size := by
  refine W_kids_New_Node ?_
  exact c_KRoom (r := 4) (by decide)
/-- the two cells of kids -/
theorem Kd.two (h : Kd w ks room m) (hne : ks ≠ []) : ∃ kb r x y, ks = kb :: r ∧ Blk w kb [x, y] T_kids_Kids ∧ x.oneCell' = true ∧ y.oneCell' = true ∧
    (∀ w' kb', Blk w' kb' [x, y] T_kids_Kids → Ext (· = kb') w w' → kb' ∉ r → Kd w' (kb' :: r) room m) := by
  rcases h with ⟨rfl, rfl, rfl⟩ | ⟨kb, rb, l, rfl, h1, h2, rfl⟩ | ⟨kb, bb, n, xv, fv, a, xs, fs, rfl, h1, h2, h3⟩
  · exact absurd rfl hne
  · refine ⟨kb, _, _, _, rfl, h1, rfl, rfl, fun w' kb' hb he hn => .inr (.inl ⟨kb', rb, l, rfl, hb, h2.ext he (fun e => hn (by rw [← show rb = kb' from e]; simp)), rfl⟩)⟩
  · refine ⟨kb, _, _, _, rfl, h1, rfl, rfl, fun w' kb' hb he hn => .inr (.inr ⟨kb', bb, n, xv, fv, a, xs, fs, rfl, hb, h2.ext he (fun c hc e => hn ?_), h3⟩)⟩
    have e : c = kb' := e
    subst e
    rcases mem_BX.1 (mem_BX.2 (.inr hc) : c ∈ c :: bb :: (xv.ownBlock.toList ++ fv.ownBlock.toList)) with _ | h
    · have := (mem_BX (kb := c + 1)).2 (.inr hc)
      rcases List.mem_cons.1 this with h | h
      · omega
      · exact h
    · have := (mem_BX (kb := c + 1)).2 (.inr hc)
      rcases List.mem_cons.1 this with h | h
      · omega
      · exact h
def below (m : UInt8 → Option Addr) (j : Nat) : UInt8 → Option Addr := fun c => if c.toNat < j then m c else none
theorem below_all {j : Nat} (h : ∀ c : UInt8, j ≤ c.toNat → m c = none) : below m j = m := by
  funext c
  unfold below
  split
  · rfl
  · exact (h c (by omega)).symm
theorem below_step {j : Nat} {c : UInt8} (h : nextB m j = some c) : upd (below m j) c (m c) = below m (c.toNat + 1) := by
  obtain ⟨h1, h2, h3⟩ := nextB_some.1 h
  funext d
  unfold upd below
  by_cases e : d = c
  · subst e; simp
  · have hne : d.toNat ≠ c.toNat := fun h => e (UInt8.toNat_inj.1 h)
    rw [if_neg e]
    by_cases h4 : d.toNat < j
    · rw [if_pos h4, if_pos (by omega)]
    · rw [if_neg h4]
      by_cases h5 : d.toNat < c.toNat + 1
      · rw [if_pos h5, h3 d (by omega) (by omega)]
      · rw [if_neg h5]
set_option maxRecDepth 100000 in
theorem c_KMove (h : Kd w ks room m) (hne : ks ≠ []) {k : Nat} (hk : k ∈ kinds) (hc : cnt m ≤ k) : Ret P n_kids_move_Node [kptr ks, .int .i64 k] w fun v w' =>
    ∃ ks', Kd w' ks' k m ∧ ks' ≠ [] ∧ kptr ks' = kptr ks ∧ Ext (· ∈ ks) w w' ∧ Sub ks ks' w.heap.size := by
  refine W_kids_move_Node ?_
  refine (c_KRoom hk).mono ?_
  rintro v w1 ⟨ks1, rfl, hne1, hk1, he1, hs1⟩
  refine xj (fun vs w' => ∃ ks2, Kd w' ks2 k m ∧ ks2 ≠ [] ∧ kptr ks2 = kptr ks1 ∧ Ext No w w' ∧ Sub [] ks2 w.heap.size) ?_ ?_
  · refine xloop (fun nn vs w' => ∃ (j : Nat) (x y z : Value), vs = [.int .i64 j, x, y, z] ∧ j ≤ 256 ∧ nn = 256 - j ∧ ∃ ks2, Kd w' ks2 k (below m j) ∧ ks2 ≠ [] ∧ kptr ks2 = kptr ks1 ∧ Ext No w w' ∧ Sub [] ks2 w.heap.size) 256
      ⟨0, _, _, _, rfl, by omega, rfl, ks1, by
        have : below m 0 = fun _ => none := by funext c; simp [below]
        rw [this]; exact hk1, hne1, rfl, he1, hs1⟩ ?_
    rintro nn vs g w2 ⟨j, x, y, z, rfl, hj, rfl, ks2, hk2, hne2, hp2, he2, hs2⟩
    refine xifD (fun hlt => ?_) fun hge => ?_
    · refine (c_KNext (h.extN he2) hj).mono ?_
      rintro v w3 ⟨rfl, he3⟩
      cases hn : nextB m j with
      | none =>
        simp only [nextV, hn]
        refine xifT rfl ?_
        have := below_all (nextB_none.1 hn)
        rw [this] at hk2
        exact ⟨ks2, hk2.extN he3, hne2, hp2, he2.transN he3, hs2⟩
      | some c =>
        simp only [nextV, hn]
        refine xifF rfl ?_
        obtain ⟨h1, h2, h3⟩ := nextB_some.1 hn
        obtain ⟨x, hx⟩ := Option.isSome_iff_exists.1 h1
        rw [hx, ← hp2]
        have hlt2 := c.toNat_lt
        refine (c_KPut (hk2.extN he3) hne2 (b := c) (x := x) (.inl ?_)).mono ?_
        · have e := cnt_upd (below m j) c (m c)
          have e2 : below m j c = none := by unfold below; rw [if_neg (by omega)]
          have e3 : cnt (upd (below m j) c (m c)) ≤ cnt m := cnt_mono fun d hd => by
            rw [below_step hn] at hd
            unfold below at hd
            split at hd
            · exact hd
            · cases hd
          rw [e2, hx] at e
          rw [hx] at e3
          simp at e
          omega
        · rintro v w4 ⟨ks3, hk3, hne3, hp3, he4, hs3⟩
          refine xi (r := (c.toNat : Int)) (wrapI (by omega)) ?_
          refine xi (r := ((c.toNat + 1 : Nat) : Int)) (by rw [wrapI (by omega)]; omega) ?_
          have hsz := he2.size
          have hsz3 := he3.size
          refine xnext (256 - (c.toNat + 1)) (by omega) ⟨c.toNat + 1, _, _, _, rfl, by omega, rfl, ks3, by rw [← below_step hn, hx]; exact hk3, hne3, hp3, (he2.transN he3).trans he4 fun b hb hb2 => ?_, fun b hb => ?_⟩
          · rcases hs2 b hb2 with h | h
            · cases h
            · omega
          · rcases hs3 b hb with h | h
            · exact hs2 b h
            · exact .inr (by omega)
    · have e : below m j = m := below_all fun c hc => by have := c.toNat_lt; omega
      rw [e] at hk2
      exact ⟨ks2, hk2, hne2, hp2, he2, hs2⟩
  · rintro vs g w2 ⟨ks2, hk2, hne2, hp2, he2, hs2⟩
    rw [← hp2]
    obtain ⟨kb2, r2, x, y, rfl, hb2, hx, hy, hre⟩ := hk2.two hne2
    obtain ⟨kb, r, x', y', rfl, hb, -, -, -⟩ := (h.extN he2).two hne
    refine hb2.ldA rfl ?_
    refine xstoreVar hb (by kernel_rfl) (by simp) (by intro v hv; simp at hv; rcases hv with rfl | rfl <;> assumption) fun w3 hb3 hz3 he3 => ?_
    have hkb : kb < w.heap.size := h.lt (by simp)
    refine ⟨kb :: r2, hre w3 kb (by simpa using hb3) he3 (fun hm => ?_), by simp, rfl, ?_, fun c hc => ?_⟩
    · rcases hs2 kb (by simp [hm]) with h | h
      · cases h
      · omega
    · exact (he2.mono fun _ _ h => h.elim).transS (he3.mono fun c _ e => by simp [show c = kb from e])
    · rcases List.mem_cons.1 hc with rfl | hc
      · exact .inl (by simp)
      · rcases hs2 c (by simp [hc]) with h | h
        · cases h
        · exact .inr h
end
end Go.Proofs.YtidkkkdlaclolaaGreat
end
section
namespace Go.Proofs.YtidkkkdlaclolaaGreat
open Go Go.RowKit X
set_option linter.unusedSimpArgs false
set_option linter.unusedVariables false

theorem kindN_mem {n : Nat} (h : n ≤ 256) : kindN n ∈ kinds := by
  unfold kindN kinds
  repeat' split
  all_goals first | omega | simp
theorem kindN_ge {n : Nat} (h : n ≤ 256) : n ≤ kindN n := kindN_le h
theorem kindN_room {n : Nat} (h : n < kindN n) : kindN (n + 1) = kindN n := by
  unfold kindN at *
  repeat' split
  all_goals first | rfl | omega | (split at h <;> omega)
/-- kids in the room that their number asks; or none -/
def Ks (w : World) (ks : List Nat) (m : UInt8 → Option Addr) : Prop := if ks = [] then m = fun _ => none else Kd w ks (kindN (cnt m)) m
theorem Ks.nil (w : World) : Ks w [] (fun _ => none) := rfl
theorem Ks.mk {w : World} {ks : List Nat} {m : UInt8 → Option Addr} (hne : ks ≠ []) (h : Kd w ks (kindN (cnt m)) m) : Ks w ks m := by unfold Ks; rw [if_neg hne]; exact h
theorem Ks.kd {w : World} {ks : List Nat} {m : UInt8 → Option Addr} (h : Ks w ks m) (hne : ks ≠ []) : Kd w ks (kindN (cnt m)) m := by unfold Ks at h; rw [if_neg hne] at h; exact h
theorem Ks.any {w : World} {ks : List Nat} {m : UInt8 → Option Addr} (h : Ks w ks m) : ∃ room, Kd w ks room m ∧ (ks ≠ [] → room = kindN (cnt m)) := by
  by_cases e : ks = []
  · subst e
    exact ⟨0, .inl ⟨rfl, rfl, h⟩, fun h => absurd rfl h⟩
  · exact ⟨_, h.kd e, fun _ => rfl⟩
theorem Ks.ext {X : Nat → Prop} {w w' : World} {ks : List Nat} {m : UInt8 → Option Addr} (h : Ks w ks m) (e : Ext X w w') (hx : ∀ b ∈ ks, ¬ X b) : Ks w' ks m := by
  by_cases hk : ks = []
  · subst hk; exact h
  · exact Ks.mk hk ((h.kd hk).ext e hx)
theorem Ks.extN {w w' : World} {ks : List Nat} {m : UInt8 → Option Addr} (h : Ks w ks m) (e : Ext No w w') : Ks w' ks m := h.ext e fun _ _ h => h
theorem Ks.ty {w : World} {ks : List Nat} {m : UInt8 → Option Addr} (h : Ks w ks m) : ∀ b ∈ ks, ∃ cs T, Blk w b cs T ∧ KT T := by
  obtain ⟨r, hr, -⟩ := h.any
  exact hr.ty
theorem Ks.lt {w : World} {ks : List Nat} {m : UInt8 → Option Addr} (h : Ks w ks m) {b : Nat} (hb : b ∈ ks) : b < w.heap.size := by
  obtain ⟨cs, T, h1, -⟩ := h.ty b hb
  exact h1.lt

section
variable {w : World} {ks : List Nat} {m : UInt8 → Option Addr}
theorem c_KsLen (h : Ks w ks m) : Ret P n_kids_Kids_Len [kptr ks] w fun v w' => v = .int .i64 (cnt m) ∧ w' = w := by
  obtain ⟨r, hr, -⟩ := h.any
  exact c_KLen hr
theorem c_KsKind (h : Ks w ks m) (hne : ks ≠ []) : Ret P n_kids_Kids_Kind [kptr ks] w fun v w' => v = .int .i64 (kindN (cnt m)) ∧ w' = w := c_KKind (h.kd hne)
theorem c_KsGet (h : Ks w ks m) {b : UInt8} : Ret P n_kids_Kids_Get [kptr ks, bv b] w fun v w' => v = getV m b ∧ Ext No w w' := by
  obtain ⟨r, hr, -⟩ := h.any
  exact c_KGet hr
theorem c_KsNext (h : Ks w ks m) {i : Nat} (hi : i ≤ 256) : Ret P n_kids_Kids_Next [kptr ks, .int .i64 i] w fun v w' => v = nextV m i ∧ Ext No w w' := by
  obtain ⟨r, hr, -⟩ := h.any
  exact c_KNext hr hi
theorem c_KsNew : Ret P n_kids_New_Node [] w fun v w' => ∃ ks, v = kptr ks ∧ ks ≠ [] ∧ Ks w' ks (fun _ => none) ∧ Ext No w w' ∧ Sub [] ks w.heap.size := by
  refine c_KNew.mono ?_
  rintro v w' ⟨ks, h1, h2, h3, h4, h5⟩
  exact ⟨ks, h1, h2, Ks.mk h2 (by
    have : kindN (cnt (fun _ => none : UInt8 → Option Addr)) = 4 := by simp [cnt, dom_none, kindN]
    rw [this]; exact h3), h4, h5⟩
theorem kptr_ne (hne : ks ≠ []) : ∃ kb, kptr ks = rp kb := by
  cases ks with
  | nil => exact absurd rfl hne
  | cons a r => exact ⟨a, rfl⟩
theorem Sub.trans {ks ks' ks'' : List Nat} {n n' : Nat} (h : Sub ks ks' n) (h' : Sub ks' ks'' n') (hn : n ≤ n') : Sub ks ks'' n := fun c hc => by
  rcases h' c hc with h1 | h1
  · exact h c h1
  · exact .inr (by omega)
theorem c_KsSet (h : Ks w ks m) (hne : ks ≠ []) {b : UInt8} {x : Addr} : Ret P n_kids_Kids_Set [kptr ks, bv b, .pointer (some x)] w fun v w' =>
    v = .int .i64 0 ∧ ∃ ks', Ks w' ks' (upd m b (some x)) ∧ ks' ≠ [] ∧ kptr ks' = kptr ks ∧ Ext (· ∈ ks) w w' ∧ Sub ks ks' w.heap.size := by
  have hk := h.kd hne
  have hle := cnt_le m
  have hup := cnt_upd m b (some x)
  refine W_kids_Kids_Set ?_
  refine (c_KOk hk).mono ?_
  rintro v w' ⟨rfl, rfl⟩
  have hemp : ks.isEmpty = false := by cases ks with | nil => exact absurd rfl hne | cons => rfl
  rw [hemp]
  refine xifF rfl ?_
  -- where it is put there is room
  refine xj (fun vs w1 => ∃ ks1, Kd w1 ks1 (kindN (cnt (upd m b (some x)))) m ∧ ks1 ≠ [] ∧ kptr ks1 = kptr ks ∧ Ext (· ∈ ks) w' w1 ∧ Sub ks ks1 w'.heap.size) ?_ ?_
  · refine (c_KGet hk).mono ?_
    rintro v w1 ⟨rfl, he1⟩
    have hk1 := hk.extN he1
    refine xjd ?_
    cases hm : m b with
    | some y =>
      refine xifF (by simp [hm]) ?_
      intro g
      refine xifF rfl ?_
      rw [hm] at hup
      simp at hup
      rw [hup]
      exact ⟨ks, hk1, hne, rfl, he1.mono fun _ _ h => h.elim, fun c hc => .inl hc⟩
    | none =>
      refine xifT (by simp [hm]) ?_
      rw [hm] at hup
      simp at hup
      refine (c_KLen hk1).mono ?_
      rintro v w2 ⟨rfl, rfl⟩
      refine (c_KKind hk1).mono ?_
      rintro v w3 ⟨rfl, rfl⟩
      intro g
      have hlt : cnt m < 256 := by
        rcases Nat.lt_or_ge (cnt m) 256 with h1 | h1
        · exact h1
        · have := cnt_full (m := m) (by omega) b
          rw [hm] at this; cases this
      refine xifE (fun he => ?_) fun he => ?_
      · refine (c_KLen hk1).mono ?_
        rintro v w4 ⟨rfl, rfl⟩
        refine xi (r := ((cnt m + 1 : Nat) : Int)) (by rw [wrapI (by omega)]; omega) ?_
        refine (c_KindOf (by omega)).mono ?_
        rintro v w5 ⟨rfl, he5⟩
        refine (c_KMove (hk1.extN he5) hne (kindN_mem (by omega)) (by have := kindN_ge (n := cnt m + 1) (by omega); omega)).mono ?_
        rintro v w6 ⟨ks', hk', hne', hp', he6, hs'⟩
        rw [hup]
        have s1 := he1.size
        have s5 := he5.size
        refine ⟨ks', hk', hne', hp', ((he1.transN he5).mono fun _ _ h => h.elim).transS he6, fun c hc => ?_⟩
        rcases hs' c hc with h | h
        · exact .inl h
        · exact .inr (by omega)
      · rw [hup, kindN_room (by have := kindN_ge (n := cnt m) (by omega); omega)]
        exact ⟨ks, hk1, hne, rfl, he1.mono fun _ _ h => h.elim, fun c hc => .inl hc⟩
  · rintro vs g w1 ⟨ks1, hk1, hne1, hp1, he1, hs1⟩
    rw [← hp1]
    have hge := kindN_ge (cnt_le (upd m b (some x)))
    refine (c_KPut hk1 hne1 (b := b) (x := x) ?_).mono ?_
    · cases hm : m b with
      | some y => exact .inr rfl
      | none =>
        rw [hm] at hup
        simp at hup
        exact .inl (by omega)
    · rintro v w2 ⟨ks2, hk2, hne2, hp2, he2, hs2⟩
      refine ⟨rfl, ks2, Ks.mk hne2 hk2, hne2, hp2, he1.trans he2 fun c hc h => ?_, hs1.trans hs2 he1.size⟩
      rcases hs1 c h with h | h
      · exact h
      · omega
theorem c_KsDrop (h : Ks w ks m) (hne : ks ≠ []) {b : UInt8} (hb : (m b).isSome) : Ret P n_kids_Kids_Drop [kptr ks, bv b] w fun v w' =>
    v = .int .i64 0 ∧ ∃ ks', Ks w' ks' (upd m b none) ∧ ks' ≠ [] ∧ kptr ks' = kptr ks ∧ Ext (· ∈ ks) w w' ∧ Sub ks ks' w.heap.size := by
  have hk := h.kd hne
  have hle := cnt_le (upd m b none)
  refine W_kids_Kids_Drop ?_
  refine (c_KOk hk).mono ?_
  rintro v w' ⟨rfl, rfl⟩
  have hemp : ks.isEmpty = false := by cases ks with | nil => exact absurd rfl hne | cons => rfl
  rw [hemp]
  refine xifF rfl ?_
  refine xj (fun vs w1 => vs = [.int .i64 0] ∧ ∃ ks1, Kd w1 ks1 (kindN (cnt m)) (upd m b none) ∧ ks1 ≠ [] ∧ kptr ks1 = kptr ks ∧ Ext (· ∈ ks) w' w1 ∧ Sub ks ks1 w'.heap.size) ?_ ?_
  · rcases hk with ⟨rfl, -, -⟩ | ⟨kb, rb, l, rfl, h1, h2, rfl⟩ | ⟨kb, bb, n, xv, fv, a, xs, fs, rfl, h1, h2, h3⟩
    · exact absurd rfl hne
    · refine h1.ld (v := rp rb) rfl ?_
      refine xifT rfl ?_
      refine h1.ld (v := rp rb) rfl ?_
      refine (c_RowDrop h2 hb).mono ?_
      rintro v w' ⟨rfl, he, l', h4, h5⟩
      refine ⟨rfl, [kb, rb], .inr (.inl ⟨kb, rb, l', rfl, h1.ext he (h1.ne h2.blk (by decide)), h4, h5⟩), by simp, rfl, he.mono fun b _ hb => by simp [show b = rb from hb], fun c hc => .inl hc⟩
    · refine h1.ld (v := .pointer none) rfl ?_
      refine xifF rfl ?_
      refine h1.ld (v := rp bb) rfl ?_
      refine (c_BrdDrop h2 h3 hb).mono ?_
      rintro v w' ⟨rfl, n', xv', fv', a', xs', fs', h4, h5, he, hfr⟩
      refine ⟨rfl, _, .inr (.inr ⟨kb, bb, n', xv', fv', a', xs', fs', rfl, h1.ext he fun hb => ?_, h4, h5⟩), by simp, rfl, he.mono fun b _ hb => mem_BX.2 (.inr hb), fun c hc => ?_⟩
      · rcases hb with hb | hb | hb
        · exact h1.ne h2.blk (by decide) hb
        · exact h2.xo.ne h1 (by decide) hb
        · exact h2.fo.ne h1 (by decide) hb
      · rcases mem_BX.1 hc with rfl | hc
        · exact .inl (by simp)
        · rcases hfr c hc with h | h
          · exact .inl (mem_BX.2 (.inr h))
          · exact .inr h
  · rintro vs g w1 ⟨rfl, ks1, hk1, hne1, hp1, he1, hs1⟩
    rw [← hp1]
    refine xjd ?_
    refine (c_KLen hk1).mono ?_
    rintro v w2 ⟨rfl, rfl⟩
    refine (c_KindOf hle).mono ?_
    rintro v w3 ⟨rfl, he3⟩
    refine (c_KKind (hk1.extN he3)).mono ?_
    rintro v w4 ⟨rfl, rfl⟩
    refine xifN (fun hn => ?_) fun he => ?_
    · refine (c_KMove (hk1.extN he3) hne1 (kindN_mem hle) (kindN_ge hle)).mono ?_
      rintro v w5 ⟨ks2, hk2, hne2, hp2, he5, hs2⟩ g
      have s3 := he3.size
      have s1 := he1.size
      refine ⟨rfl, ks2, Ks.mk hne2 hk2, hne2, hp2, (he1.transN he3).trans he5 fun c hc h => ?_, hs1.trans hs2 (by omega)⟩
      rcases hs1 c h with h | h
      · exact h
      · omega
    · intro g
      have e : kindN (cnt (upd m b none)) = kindN (cnt m) := by omega
      exact ⟨rfl, ks1, Ks.mk hne1 (by rw [e]; exact hk1.extN he3), hne1, rfl, he1.transN he3, hs1⟩
theorem c_RowCopyNil : Ret P n_small_Row_Copy [.pointer none] w fun v w' => v = .pointer none ∧ w' = w := by
  refine W_small_Row_Copy ?_
  refine c_RowNil.mono ?_
  rintro v w' ⟨rfl, rfl⟩
  exact ⟨rfl, rfl⟩
theorem c_BrdCopyNil : Ret P n_wide_Board_Copy [.pointer none] w fun v w' => v = .pointer none ∧ w' = w := by
  refine W_wide_Board_Copy ?_
  refine c_BrdNil.mono ?_
  rintro v w' ⟨rfl, rfl⟩
  exact ⟨rfl, rfl⟩
theorem c_KCopy {room : Nat} (h : Kd w ks room m) (hne : ks ≠ []) : Ret P n_kids_Kids_Copy [kptr ks] w fun v w' => ∃ ks', v = kptr ks' ∧ ks' ≠ [] ∧ Kd w' ks' room m ∧ Ext No w w' ∧ Sub [] ks' w.heap.size := by
  refine W_kids_Kids_Copy ?_
  refine (c_KOk h).mono ?_
  rintro v w' ⟨rfl, rfl⟩
  rcases h with ⟨rfl, rfl, rfl⟩ | ⟨kb, rb, l, rfl, h1, h2, rfl⟩ | ⟨kb, bb, n, xv, fv, a, xs, fs, rfl, h1, h2, h3⟩
  · exact absurd rfl hne
  · refine xifF rfl ?_
    refine h1.drew.ld (v := rp rb) rfl ?_
    refine h1.drew.ld (v := .pointer none) rfl ?_
    refine (c_RowCopy h2.drew).mono ?_
    rintro v w1 ⟨b, rfl, hb, hrow, he⟩
    refine ⟨by
      have := (h1.drew.ext he fun h => h).cell 1
      exact this, ?_⟩
    refine c_BrdCopyNil.mono ?_
    rintro v w2 ⟨rfl, rfl⟩
    refine xnew fun nb w3 hnb hblk hz he3 => ?_
    have s1 := he.size
    have s2 : w'.drew.heap.size = w'.heap.size := rfl
    refine ⟨[nb, b], rfl, by simp, .inr (.inl ⟨nb, b, l, rfl, hblk, hrow.ext he3 fun h => h, rfl⟩), he.undrew.transN he3, fun c hc => .inr ?_⟩
    simp only [List.mem_cons, List.mem_nil_iff, or_false] at hc
    rcases hc with rfl | rfl <;> omega
  · refine xifF rfl ?_
    refine h1.drew.ld (v := .pointer none) rfl ?_
    refine h1.drew.ld (v := rp bb) rfl ?_
    refine c_RowCopyNil.mono ?_
    rintro v w1 ⟨rfl, rfl⟩
    refine ⟨by
      have := h1.drew.cell 1
      exact this, ?_⟩
    refine (c_BrdCopy h2.drew h3).mono ?_
    rintro v w2 ⟨b, xv', fv', rfl, hm, he, hfr⟩
    refine xnew fun nb w3 hnb hblk hz he3 => ?_
    have s1 := he.size
    have s2 : w'.drew.heap.size = w'.heap.size := rfl
    refine ⟨_, rfl, by simp, .inr (.inr ⟨nb, b, n, xv', fv', a, xs, fs, rfl, hblk, hm.extN he3, h3⟩), he.undrew.transN he3, fun c hc => .inr ?_⟩
    rcases mem_BX.1 hc with rfl | hc
    · omega
    · exact hfr c hc
theorem c_KsCopy (h : Ks w ks m) : Ret P n_kids_Kids_Copy [kptr ks] w fun v w' => ∃ ks', v = kptr ks' ∧ (ks' = [] ↔ ks = []) ∧ Ks w' ks' m ∧ Ext No w w' ∧ Sub [] ks' w.heap.size := by
  by_cases e : ks = []
  · subst e
    refine W_kids_Kids_Copy ?_
    refine (c_KOk (ks := []) (.inl ⟨rfl, rfl, rfl⟩)).mono ?_
    rintro v w' ⟨rfl, rfl⟩
    refine xifT rfl ⟨[], rfl, Iff.rfl, h, Ext.refl _ _, fun c hc => by cases hc⟩
  · refine (c_KCopy (h.kd e) e).mono ?_
    rintro v w' ⟨ks', h1, h2, h3, h4, h5⟩
    exact ⟨ks', h1, ⟨fun h => absurd h h2, fun h => absurd h e⟩, Ks.mk h2 h3, h4, h5⟩
end
end Go.Proofs.YtidkkkdlaclolaaGreat
end
end
