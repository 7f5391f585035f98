/-  the board of many things.  -/
import Derived.Test.YtbleadagnpckbaaGreatDoorRow
section
namespace Go.Proofs.YtbleadagnpckbaaGreatDoor
open Go Go.RowKit X
set_option linter.unusedSimpArgs false
set_option linter.unusedVariables false

theorem ei_u16 : EI P T_s_uint16 T_uint16 1 2 (.int .u16 0) := ⟨by kernel_rfl, by kernel_rfl, by rfl, by omega⟩
/-- the block of a slice -/
def SX (v : Value) : Nat → Prop := fun b => v.ownBlock = some b
theorem X.Own.st {w : World} {B : Nat} {e : TypeId} {v y : Value} {n : Nat} {xs : List Value} {kd : IntKind} {i : Int} {K : World → Prop} (h : Own w B e 1 v n xs) (m : Nat) (hi : i = (m : Int)) (hm : m < n) (hy : y.oneCell' = true)
    (k : ∀ w1, Own w1 B e 1 v n (xs.set m y) → w1.heap.size = w.heap.size → Ext (SX v) w w1 → K w1) : xIxS v (.int kd i) 1 fun u => xAt u fun a => XSt w a y K := by
  obtain ⟨hl, hh⟩ := h
  rcases hh with ⟨rfl, rfl⟩ | ⟨g, cap, cur, rfl, hb, hg, hn, hc, hs, ht⟩
  · omega
  · rw [Nat.mul_one] at hs ht hl
    have hblk : Blk w g cur.toList e := ⟨by simpa using hg⟩
    refine ⟨m, hi, hm, ?_⟩
    simp only [Addr.add_lit, Nat.mul_one, Nat.zero_add]
    refine hblk.st (by simp; omega) hy fun w1 h1 hz he => k w1 ⟨by simpa using hl, .inr ⟨g, cap, (cur.toList.set m y).toArray, rfl, hb, h1.h, hn, hc, by simpa using hs, ?_⟩⟩ hz (he.mono fun c _ h => by subst h; rfl)
    simp only [Nat.mul_one]
    rw [List.take_set, ht]
theorem X.Own.lt {w : World} {B : Nat} {e : TypeId} {sz : Nat} {v : Value} {n : Nat} {xs : List Value} (h : Own w B e sz v n xs) {b : Nat} (hb : SX v b) : b < w.heap.size := (h.ge hb).2
/-- the block of a slice holds things of its type -/
theorem X.Own.blk {w : World} {B : Nat} {e : TypeId} {sz : Nat} {v : Value} {n : Nat} {xs : List Value} (h : Own w B e sz v n xs) {b : Nat} (hb : SX v b) : ∃ cs, Blk w b cs e := by
  rcases h.2 with ⟨rfl, -⟩ | ⟨g, cap, cur, rfl, h1, h2, _⟩
  · cases hb
  · simp only [SX, Value.ownBlock, Option.some.injEq] at hb
    subst hb
    exact ⟨cur.toList, ⟨by simpa using h2⟩⟩
theorem X.Own.ne {w : World} {B b : Nat} {e T : TypeId} {sz : Nat} {v : Value} {n : Nat} {xs cs : List Value} (h : Own w B e sz v n xs) (hb : Blk w b cs T) (ht : T ≠ e) : ¬ SX v b := fun hs => by
  obtain ⟨cs', h'⟩ := h.blk hs
  exact ht (hb.inj h').2
theorem X.Own.ne2 {w : World} {B B' b : Nat} {e T : TypeId} {sz sz' : Nat} {v v' : Value} {n n' : Nat} {xs xs' : List Value} (h : Own w B e sz v n xs) (h' : Own w B' T sz' v' n' xs') (hb : SX v' b) (ht : T ≠ e) : ¬ SX v b := by
  obtain ⟨cs, hc⟩ := h'.blk hb
  exact h.ne hc ht
/-- fewer of them -/
theorem X.Own.cut {w : World} {B : Nat} {e : TypeId} {v : Value} {n : Nat} {xs : List Value} {kd : IntKind} {i : Int} {K : Value → Prop} (h : Own w B e 1 v n xs) (m : Nat) (hi : i = (m : Int)) (hm : m ≤ n) (k : ∀ v', Own w B e 1 v' m (xs.take m) → v'.ownBlock = v.ownBlock → K v') : xCutS 1 v none (some (.int kd i)) none K := by
  obtain ⟨hl, hh⟩ := h
  rw [Nat.mul_one] at hl
  rcases hh with ⟨rfl, rfl⟩ | ⟨g, cap, cur, rfl, hb, hg, hn, hc, hs, ht⟩
  · have : m = 0 := by omega
    subst this
    refine xcutH 0 hi (by omega) (k _ ⟨rfl, .inl ⟨rfl, rfl⟩⟩ rfl)
  · refine xcutH m hi (by omega) ?_
    have : cutAddr (some (⟨g, 0, none⟩ : Addr)) 0 cap 1 = some ⟨g, 0, none⟩ := by
      unfold cutAddr
      split
      · rfl
      · simp [Addr.add_lit]
    rw [this]
    refine k _ ⟨by simp; omega, .inr ⟨g, cap, cur, rfl, hb, hg, by omega, hc, hs, ?_⟩⟩ rfl
    rw [Nat.mul_one] at ht ⊢
    rw [← ht, List.take_take, Nat.min_eq_left hm]

def atCells (a : UInt8 → Nat) : List Value := byt.map fun c => .int .u16 (a c)
def brdCells (room n : Nat) (a : UInt8 → Nat) (xv fv : Value) : List Value := .int .i64 room :: .int .i64 n :: (atCells a ++ [xv, fv])
theorem atCells_length (a : UInt8 → Nat) : (atCells a).length = 256 := by simp [atCells, byt]
theorem brdCells_length (room n : Nat) (a : UInt8 → Nat) (xv fv : Value) : (brdCells room n a xv fv).length = 260 := by simp [brdCells, atCells_length]
theorem byt_at (c : UInt8) : byt[c.toNat]? = some c := by
  unfold byt
  rw [List.getElem?_map, List.getElem?_range (c.toNat_lt)]
  simp
theorem atCells_at (a : UInt8 → Nat) (c : UInt8) : (atCells a)[c.toNat]? = some (.int .u16 (a c)) := by
  unfold atCells
  rw [List.getElem?_map, byt_at]
  rfl
theorem brd_at {room n : Nat} {a : UInt8 → Nat} {xv fv : Value} (c : UInt8) : (brdCells room n a xv fv)[2 + c.toNat]? = some (.int .u16 (a c)) := by
  have e : 2 + c.toNat = c.toNat + 1 + 1 := by omega
  have := c.toNat_lt
  rw [e, brdCells, List.getElem?_cons_succ, List.getElem?_cons_succ, List.getElem?_append_left (by rw [atCells_length]; omega), atCells_at]
theorem brd_x {room n : Nat} {a : UInt8 → Nat} {xv fv : Value} : (brdCells room n a xv fv)[258]? = some xv := by
  rw [brdCells, List.getElem?_cons_succ, List.getElem?_cons_succ, List.getElem?_append_right (by rw [atCells_length]; omega), atCells_length]
  rfl
theorem brd_f {room n : Nat} {a : UInt8 → Nat} {xv fv : Value} : (brdCells room n a xv fv)[259]? = some fv := by
  rw [brdCells, List.getElem?_cons_succ, List.getElem?_cons_succ, List.getElem?_append_right (by rw [atCells_length]; omega), atCells_length]
  rfl
def updN (a : UInt8 → Nat) (b : UInt8) (n : Nat) : UInt8 → Nat := fun c => if c = b then n else a c
theorem atCells_set (a : UInt8 → Nat) (b : UInt8) (n : Nat) : (atCells a).set b.toNat (.int .u16 n) = atCells (updN a b n) := by
  apply List.ext_getElem?
  intro i
  rw [List.getElem?_set]
  rcases Nat.lt_or_ge i 256 with h | h
  · obtain ⟨c, rfl⟩ : ∃ c : UInt8, c.toNat = i := ⟨UInt8.ofNat i, ofNat_toNat h⟩
    rw [atCells_at, atCells_at]
    unfold updN
    by_cases e : b = c
    · subst e
      rw [if_pos rfl, if_pos rfl, if_pos (by rw [atCells_length]; exact h)]
    · rw [if_neg (fun h => e (UInt8.toNat_inj.1 h)), if_neg (fun h => e h.symm)]
  · rw [if_neg (by have := b.toNat_lt; omega), List.getElem?_eq_none (by rw [atCells_length]; omega), List.getElem?_eq_none (by rw [atCells_length]; omega)]
theorem brd_setA {room n : Nat} {a : UInt8 → Nat} {xv fv : Value} (b : UInt8) (k : Nat) : (brdCells room n a xv fv).set (2 + b.toNat) (.int .u16 k) = brdCells room n (updN a b k) xv fv := by
  have e : 2 + b.toNat = b.toNat + 1 + 1 := by omega
  have := b.toNat_lt
  rw [e, brdCells, List.set_cons_succ, List.set_cons_succ, List.set_append_left _ _ (by rw [atCells_length]; omega), atCells_set]
  rfl
theorem brd_setN {room n k : Nat} {a : UInt8 → Nat} {xv fv : Value} : (brdCells room n a xv fv).set 1 (.int .i64 k) = brdCells room k a xv fv := rfl
theorem brd_setX {room n : Nat} {a : UInt8 → Nat} {xv fv x : Value} : (brdCells room n a xv fv).set 258 x = brdCells room n a x fv := by
  rw [brdCells, List.set_cons_succ, List.set_cons_succ, List.set_append_right _ _ (by rw [atCells_length]; omega), atCells_length]
  rfl
theorem brd_setF {room n : Nat} {a : UInt8 → Nat} {xv fv x : Value} : (brdCells room n a xv fv).set 259 x = brdCells room n a xv x := by
  rw [brdCells, List.set_cons_succ, List.set_cons_succ, List.set_append_right _ _ (by rw [atCells_length]; omega), atCells_length]
  rfl

/-- the board's cells, in memory -/
structure BrdM (w : World) (bb room n : Nat) (xv fv : Value) (a : UInt8 → Nat) (xs : List (Option Addr)) (fs : List Nat) : Prop where
  blk : Blk w bb (brdCells room n a xv fv) T_wide_Board
  xo : Own w 0 T_p_node_Node 1 xv xs.length (xs.map Value.pointer)
  fo : Own w 0 T_uint16 1 fv fs.length (fs.map fun n : Nat => .int .u16 (n : Int))
/-- what the cells mean -/
structure BrdI (room n : Nat) (a : UInt8 → Nat) (xs : List (Option Addr)) (fs : List Nat) (m : UInt8 → Option Addr) : Prop where
  nc : n = cnt m
  at0 : ∀ c, a c = 0 ↔ m c = none
  atx : ∀ c, a c ≠ 0 → xs[a c - 1]? = some (m c)
  inj : ∀ c d, a c ≠ 0 → a c = a d → c = d
  nod : fs.Nodup
  fr : ∀ f ∈ fs, 0 < f ∧ f ≤ xs.length ∧ ∀ c, a c ≠ f
  cn : xs.length = n + fs.length
  xle : xs.length ≤ 256
  le : n ≤ room
  top : room = 48 ∨ room = 256
/-- the blocks of a board -/
def BX (bb : Nat) (xv fv : Value) : Nat → Prop := fun b => b = bb ∨ SX xv b ∨ SX fv b
theorem BrdM.ext {X : Nat → Prop} {w w' : World} {bb room n : Nat} {xv fv : Value} {a : UInt8 → Nat} {xs : List (Option Addr)} {fs : List Nat} (h : BrdM w bb room n xv fv a xs fs) (e : Ext X w w') (hx : ∀ b, BX bb xv fv b → ¬ X b) : BrdM w' bb room n xv fv a xs fs :=
  ⟨h.blk.ext e (hx _ (.inl rfl)), h.xo.ext e fun b hb => hx _ (.inr (.inl hb)), h.fo.ext e fun b hb => hx _ (.inr (.inr hb))⟩
theorem BrdM.extN {w w' : World} {bb room n : Nat} {xv fv : Value} {a : UInt8 → Nat} {xs : List (Option Addr)} {fs : List Nat} (h : BrdM w bb room n xv fv a xs fs) (e : Ext No w w') : BrdM w' bb room n xv fv a xs fs := h.ext e fun _ _ h => h
theorem BrdM.drew {w : World} {bb room n : Nat} {xv fv : Value} {a : UInt8 → Nat} {xs : List (Option Addr)} {fs : List Nat} (h : BrdM w bb room n xv fv a xs fs) : BrdM w.drew bb room n xv fv a xs fs := ⟨h.blk.drew, h.xo.drew, h.fo.drew⟩

section
variable {w : World} {bb room n : Nat} {xv fv : Value} {a : UInt8 → Nat} {xs : List (Option Addr)} {fs : List Nat} {m : UInt8 → Option Addr}
theorem BrdM.at_ (h : BrdM w bb room n xv fv a xs fs) (c : UInt8) {K : Value → Prop} (k : K (.int .u16 (a c))) : XLd w ⟨bb, 2 + c.toNat, none⟩ K := h.blk.ld (brd_at c) k
theorem BrdM.x (h : BrdM w bb room n xv fv a xs fs) {K : Value → Prop} (k : K xv) : XLd w ⟨bb, 258, none⟩ K := h.blk.ld brd_x k
theorem BrdM.f (h : BrdM w bb room n xv fv a xs fs) {K : Value → Prop} (k : K fv) : XLd w ⟨bb, 259, none⟩ K := h.blk.ld brd_f k
theorem BrdM.n_ (h : BrdM w bb room n xv fv a xs fs) {K : Value → Prop} (k : K (.int .i64 n)) : XLd w ⟨bb, 1, none⟩ K := h.blk.ld rfl k
theorem BrdM.r (h : BrdM w bb room n xv fv a xs fs) {K : Value → Prop} (k : K (.int .i64 room)) : XLd w ⟨bb, 0, none⟩ K := h.blk.ld rfl k
theorem c_BrdOk (h : BrdM w bb room n xv fv a xs fs) (hr : 0 < room) : Ret P n_wide_Board_ok [rp bb] w fun v w' => v = .bool true ∧ w' = w := by
  refine W_wide_Board_ok ?_
  refine xjd ?_
  refine h.r ?_
  exact fun g => ⟨by show Value.bool (decide ((room : Int) > 0)) = _; rw [decide_eq_true (by omega)], rfl⟩
theorem c_BrdNil : Ret P n_wide_Board_ok [.pointer none] w fun v w' => v = .bool false ∧ w' = w := by
  refine W_wide_Board_ok ?_
  refine xjd ?_
  exact fun g => ⟨rfl, rfl⟩
theorem BrdI.pos (i : BrdI room n a xs fs m) : 0 < room := by rcases i.top with h | h <;> omega
theorem c_BrdLen (h : BrdM w bb room n xv fv a xs fs) (i : BrdI room n a xs fs m) : Ret P n_wide_Board_Len [rp bb] w fun v w' => v = .int .i64 n ∧ w' = w := by
  refine W_wide_Board_Len ?_
  refine (c_BrdOk h i.pos).mono ?_
  rintro v w' ⟨rfl, rfl⟩
  exact h.n_ ⟨rfl, rfl⟩
theorem c_BrdRoom (h : BrdM w bb room n xv fv a xs fs) (i : BrdI room n a xs fs m) : Ret P n_wide_Board_Room [rp bb] w fun v w' => v = .int .i64 room ∧ w' = w := by
  refine W_wide_Board_Room ?_
  refine (c_BrdOk h i.pos).mono ?_
  rintro v w' ⟨rfl, rfl⟩
  exact h.r ⟨rfl, rfl⟩
theorem BrdI.at_le (i : BrdI room n a xs fs m) (c : UInt8) : a c ≤ xs.length := by
  by_cases h : a c = 0
  · omega
  · have := (List.getElem?_eq_some_iff.1 (i.atx c h)).1; omega
theorem c_BrdGet (h : BrdM w bb room n xv fv a xs fs) (i : BrdI room n a xs fs m) {b : UInt8} : Ret P n_wide_Board_Get [rp bb, bv b] w fun v w' => v = getV m b ∧ Ext No w w' := by
  refine W_wide_Board_Get ?_
  refine xjd ?_
  refine (c_BrdOk h i.pos).mono ?_
  rintro v w' ⟨rfl, rfl⟩
  have hb : b.toNat < 256 := b.toNat_lt
  refine xifF rfl ?_
  refine xixA b.toNat rfl hb ?_
  refine h.at_ b ?_
  intro g
  refine xifE (fun he => ?_) fun he => ?_
  · have : m b = none := (i.at0 b).1 (by omega)
    exact ⟨by simp [getV, this], Ext.refl _ _⟩
  · have hab : a b ≠ 0 := by omega
    have hx := i.atx b hab
    have hle := i.at_le b
    have h256 := i.xle
    refine h.drew.x ?_
    refine xixA b.toNat rfl hb ?_
    refine h.drew.at_ b ?_
    refine xi (r := ((a b - 1 : Nat) : Int)) (by rw [wrapU16 (by omega)]; omega) ?_
    refine h.drew.xo.sl.rd1 (a b - 1) rfl (by omega) (x := .pointer (m b)) (by rw [List.getElem?_map, hx]; rfl) ?_
    refine ⟨?_, (Ext.refl No w').drew⟩
    have : (m b).isSome = true := by
      cases hm : m b with
      | none => exact absurd ((i.at0 b).2 hm) hab
      | some x => rfl
    simp [getV, this]
end
end Go.Proofs.YtbleadagnpckbaaGreatDoor
end
section
namespace Go.Proofs.YtbleadagnpckbaaGreatDoor
open Go Go.RowKit X
set_option linter.unusedSimpArgs false
set_option linter.unusedVariables false

theorem X.Own.one {w : World} {B : Nat} {e : TypeId} {sz : Nat} {v : Value} {n : Nat} {xs : List Value} (h : Own w B e sz v n xs) : v.oneCell' = true := by
  rcases h.2 with ⟨rfl, -⟩ | ⟨g, cap, cur, rfl, _⟩ <;> rfl
theorem X.Ext.toBX {w w' : World} {X : Nat → Prop} {bb : Nat} {xv fv : Value} (h : Ext X w w') (hx : ∀ b, X b → BX bb xv fv b) : Ext (BX bb xv fv) w w' := h.mono fun b _ hb => hx b hb
theorem updN_same (a : UInt8 → Nat) (b : UInt8) (k : Nat) : updN a b k b = k := by simp [updN]
theorem updN_other (a : UInt8 → Nat) {b c : UInt8} (k : Nat) (h : c ≠ b) : updN a b k c = a c := by simp [updN, h]

section
variable {w : World} {bb room n : Nat} {xv fv : Value} {a : UInt8 → Nat} {xs : List (Option Addr)} {fs : List Nat} {m : UInt8 → Option Addr}
theorem t_brd_p : T_wide_Board ≠ T_p_node_Node := by decide
theorem t_brd_u : T_wide_Board ≠ T_uint16 := by decide
theorem t_p_u : T_p_node_Node ≠ T_uint16 := by decide
/-- the board's own block is written -/
theorem BrdM.stB (h : BrdM w bb room n xv fv a xs fs) {o : Nat} {y : Value} {K : World → Prop} {n' : Nat} {a' : UInt8 → Nat} (ho : o < 260) (hy : y.oneCell' = true) (hs : (brdCells room n a xv fv).set o y = brdCells room n' a' xv fv)
    (k : ∀ w1, BrdM w1 bb room n' xv fv a' xs fs → w1.heap.size = w.heap.size → Ext (BX bb xv fv) w w1 → K w1) : XSt w ⟨bb, o, none⟩ y K :=
  h.blk.st (by rw [brdCells_length]; exact ho) hy fun w1 hb hz he => k w1 ⟨by rw [hs] at hb; exact hb, h.xo.ext he fun b hb' e => h.xo.ne h.blk t_brd_p (by rw [← show b = bb from e]; exact hb'), h.fo.ext he fun b hb' e => h.fo.ne h.blk t_brd_u (by rw [← show b = bb from e]; exact hb')⟩ hz (he.toBX fun b e => .inl e)
/-- a slice's room in place of the other -/
theorem c_Place (h : BrdM w bb room n xv fv a xs fs) (hl : fs = [] → xs.length < 256) (hff : ∀ f ∈ fs, f < 65536) : Ret P n_wide_Board_place [rp bb] w fun v w' => ∃ (f : Nat) (xv' fv' : Value) (xs' : List (Option Addr)) (fs' : List Nat),
    v = .int .u16 f ∧ BrdM w' bb room n xv' fv' a xs' fs' ∧ ((fs = fs' ++ [f] ∧ xs' = xs) ∨ (fs = [] ∧ fs' = [] ∧ xs' = xs ++ [none] ∧ f = xs.length + 1)) ∧ Ext (BX bb xv fv) w w' ∧ (∀ b, BX bb xv' fv' b → BX bb xv fv b ∨ w.heap.size ≤ b) := by
  refine W_wide_Board_place ?_
  refine h.f ?_
  refine xLen_sl h.fo.sl ?_
  refine xifD (fun hgt => ?_) fun hle => ?_
  · have hne : fs ≠ [] := by intro e; subst e; simp at hgt
    obtain ⟨fs', f, rfl⟩ : ∃ fs' f, fs = fs' ++ [f] := ⟨fs.dropLast, fs.getLast hne, (List.dropLast_concat_getLast hne).symm⟩
    have hlen : (fs' ++ [f]).length = fs'.length + 1 := by simp
    have hlmax : fs'.length + 1 ≤ 9223372036854775807 := by
      have h1 := h.fo
      rcases h1.2 with ⟨-, h1⟩ | ⟨g, cap, cur, -, -, -, h1, h2, -⟩
      · omega
      · unfold maxLen at h2; omega
    refine h.f ?_
    refine xi (r := (fs'.length : Int)) (by rw [hlen, wrapI (by omega)]; omega) ?_
    refine h.fo.sl.rd1 fs'.length rfl (by omega) (x := .int .u16 f) (by simp) ?_
    refine h.f ?_
    refine xi (r := (fs'.length : Int)) (by rw [hlen, wrapI (by omega)]; omega) ?_
    refine h.fo.cut fs'.length rfl (by omega) fun fv' hfo hfb => ?_
    have hfo' : Own w 0 T_uint16 1 fv' fs'.length (fs'.map fun n : Nat => .int .u16 (n : Int)) := by
      have e : ((fs' ++ [f]).map fun n : Nat => Value.int .u16 (n : Int)).take fs'.length = fs'.map fun n : Nat => .int .u16 (n : Int) := by
        rw [List.map_append, List.take_left' (by simp)]
      rw [e] at hfo; exact hfo
    refine h.blk.st (o := 259) (by rw [brdCells_length]; omega) hfo'.one fun w1 hb hz he => ?_
    rw [brd_setF] at hb
    refine ⟨f, xv, fv', xs, fs', rfl, ⟨hb, h.xo.ext he fun b hb' e => h.xo.ne h.blk t_brd_p (by rw [← show b = bb from e]; exact hb'), hfo'.ext he fun b hb' e => hfo'.ne h.blk t_brd_u (by rw [← show b = bb from e]; exact hb')⟩, .inl ⟨rfl, rfl⟩, he.toBX fun b e => .inl e, fun b hb => .inl ?_⟩
    rcases hb with hb | hb | hb
    · exact .inl hb
    · exact .inr (.inl hb)
    · exact .inr (.inr (by unfold SX at hb ⊢; rw [← hfb]; exact hb))
  · have hfs : fs = [] := List.eq_nil_of_length_eq_zero (by omega)
    subst hfs
    have hl := hl rfl
    refine h.x ?_
    refine xnew fun nb w1 hnb hblk hz he => ?_
    have h1 := h.extN he
    refine app_own ei_p (n := xs.length) (m := 1) (xs := xs.map Value.pointer) (ys := [.pointer none]) h1.xo (Nat.zero_le _) (hblk.sl (o := 0) (n := 1) (cap := 1) (by show 0 + 1 ≤ 1; omega) (by omega)) (by intro u hu; simp at hu; subst hu; rfl) (by omega) (by omega) fun xv' w2 hx he2 _ hfresh => ?_
    have hblk2 : Blk w2 bb (brdCells room n a xv fv) T_wide_Board := h1.blk.ext he2 (h1.xo.ne h1.blk t_brd_p)
    have hfo2 := h1.fo.ext he2 fun b hb hb' => h1.xo.ne2 h1.fo hb (Ne.symm t_p_u) hb'
    refine hblk2.st (o := 258) (by rw [brdCells_length]; omega) hx.one fun w3 hb3 hz3 he3 => ?_
    rw [brd_setX] at hb3
    have hx3 := hx.ext he3 fun b hb' e => hx.ne hblk2 t_brd_p (by rw [← show b = bb from e]; exact hb')
    have hf3 := hfo2.ext he3 fun b hb' e => hfo2.ne hblk2 t_brd_u (by rw [← show b = bb from e]; exact hb')
    refine hb3.ld brd_x ?_
    refine xLen_sl hx3.sl ?_
    refine xi (r := ((xs.length + 1 : Nat) : Int)) (wrapU16 (by omega)) ?_
    refine ⟨xs.length + 1, xv', fv, xs ++ [none], [], rfl, ⟨hb3, by simpa using hx3, hf3⟩, .inr ⟨rfl, rfl, rfl, rfl⟩, ?_, ?_⟩
    · refine ((he.mono fun _ _ h => h.elim).transS (he2.mono fun b _ hb => .inr (.inl hb))).transS (he3.mono fun b _ hb => .inl hb)
    · intro b hb
      rcases hb with hb | hb | hb
      · exact .inl (.inl hb)
      · rcases hfresh b hb with h | h
        · exact .inl (.inr (.inl h))
        · exact .inr (by have := he.size; omega)
      · exact .inl (.inr (.inr hb))

theorem BrdI.put (i : BrdI room n a xs fs m) {b : UInt8} (hb : a b ≠ 0) (x : Addr) : BrdI room n a (xs.set (a b - 1) (some x)) fs (upd m b (some x)) := by
  have hmb : (m b).isSome := by
    cases hm : m b with
    | none => exact absurd ((i.at0 b).2 hm) hb
    | some x => rfl
  refine ⟨?_, fun c => ?_, fun c hc => ?_, i.inj, i.nod, fun f hf => ?_, by rw [List.length_set]; exact i.cn, by rw [List.length_set]; exact i.xle, i.le, i.top⟩
  · have := cnt_upd m b (some x)
    simp [hmb] at this
    rw [this]; exact i.nc
  · by_cases e : c = b
    · subst e; rw [upd_same]; simp [hb]
    · rw [upd_other m _ e]; exact i.at0 c
  · by_cases e : c = b
    · subst e
      rw [upd_same, List.getElem?_set, if_pos rfl, if_pos (by have := i.at_le c; omega)]
    · rw [upd_other m _ e, List.getElem?_set, if_neg, i.atx c hc]
      intro h
      exact e (i.inj c b hc (by omega))
  · rw [List.length_set]; exact i.fr f hf
theorem BrdI.new (i : BrdI room n a xs fs m) {b : UInt8} (hb : a b = 0) (hlt : n < room) (x : Addr) {f : Nat} {xs' : List (Option Addr)} {fs' : List Nat} (hc : (fs = fs' ++ [f] ∧ xs' = xs) ∨ (fs = [] ∧ fs' = [] ∧ xs' = xs ++ [none] ∧ f = xs.length + 1)) :
    f ≠ 0 ∧ f ≤ xs'.length ∧ xs'.length ≤ 256 ∧ BrdI room (n + 1) (updN a b f) (xs'.set (f - 1) (some x)) fs' (upd m b (some x)) := by
  have hmb : m b = none := (i.at0 b).1 hb
  have h256 : xs'.length ≤ 256 := by
    rcases hc with ⟨-, rfl⟩ | ⟨rfl, rfl, rfl, rfl⟩
    · exact i.xle
    · have := i.cn; have := i.top; simp at *; omega
  have hf : f ≠ 0 ∧ f ≤ xs'.length ∧ (∀ c, a c ≠ f) ∧ fs'.Nodup ∧ (∀ g ∈ fs', g ≠ f ∧ 0 < g ∧ g ≤ xs'.length ∧ ∀ c, a c ≠ g) ∧ xs'.length = n + 1 + fs'.length ∧ (∀ c, a c ≠ 0 → xs'[a c - 1]? = some (m c)) := by
    rcases hc with ⟨rfl, rfl⟩ | ⟨rfl, rfl, rfl, rfl⟩
    · have h1 := i.fr f (by simp)
      have h2 := List.nodup_append.1 i.nod
      have h3 := i.cn
      refine ⟨by omega, h1.2.1, h1.2.2, h2.1, fun g hg => ⟨?_, i.fr g (by simp [hg])⟩, by simp at h3; omega, i.atx⟩
      exact h2.2.2 g hg f (by simp)
    · have h3 := i.cn
      refine ⟨by omega, by simp, fun c => by have := i.at_le c; omega, List.nodup_nil, by simp, by simp at h3 ⊢; omega, fun c hc => ?_⟩
      rw [List.getElem?_append_left (by have := i.at_le c; omega)]
      exact i.atx c hc
  obtain ⟨h1, h2, h3, h4, h5, h6, h7⟩ := hf
  refine ⟨h1, h2, h256, ?_, fun c => ?_, fun c hc' => ?_, fun c d hc' he => ?_, h4, fun g hg => ?_, by rw [List.length_set]; exact h6, by rw [List.length_set]; exact h256, by omega, i.top⟩
  · have := cnt_upd m b (some x)
    simp [hmb] at this
    rw [this, ← i.nc]
  · by_cases e : c = b
    · subst e; rw [upd_same, updN_same]; simp [h1]
    · rw [upd_other m _ e, updN_other a _ e]; exact i.at0 c
  · by_cases e : c = b
    · subst e
      rw [upd_same, updN_same, List.getElem?_set, if_pos rfl, if_pos (by omega)]
    · rw [updN_other a _ e] at hc' ⊢
      rw [upd_other m _ e, List.getElem?_set, if_neg, h7 c hc']
      intro h
      exact h3 c (by omega)
  · by_cases e : c = b
    · subst e
      by_cases e2 : d = c
      · exact e2.symm
      · rw [updN_same, updN_other a _ e2] at he
        exact absurd he.symm (h3 d)
    · by_cases e2 : d = b
      · subst e2
        rw [updN_same, updN_other a _ e] at he
        exact absurd he (h3 c)
      · rw [updN_other a _ e, updN_other a _ e2] at he
        rw [updN_other a _ e] at hc'
        exact i.inj c d hc' he
  · obtain ⟨g1, g2, g3, g4⟩ := h5 g hg
    refine ⟨g2, by rw [List.length_set]; exact g3, fun c => ?_⟩
    by_cases e : c = b
    · subst e; rw [updN_same]; exact fun h => g1 h.symm
    · rw [updN_other a _ e]; exact g4 c

/-- a thing of the board is written -/
theorem BrdM.stX (h : BrdM w bb room n xv fv a xs fs) {kd : IntKind} {i : Int} {y : Option Addr} {K : World → Prop} (k : Nat) (hi : i = (k : Int)) (hk : k < xs.length)
    (kk : ∀ w1, BrdM w1 bb room n xv fv a (xs.set k y) fs → w1.heap.size = w.heap.size → Ext (BX bb xv fv) w w1 → K w1) : xIxS xv (.int kd i) 1 fun u => xAt u fun a => XSt w a (.pointer y) K :=
  h.xo.st k hi hk rfl fun w1 hx hz he => kk w1 ⟨h.blk.ext he (h.xo.ne h.blk t_brd_p), by rw [List.length_set, List.map_set]; exact hx, h.fo.ext he fun b hb hb' => h.xo.ne2 h.fo hb (Ne.symm t_p_u) hb'⟩ hz (he.toBX fun b hb => .inr (.inl hb))
theorem c_BrdSet (h : BrdM w bb room n xv fv a xs fs) (i : BrdI room n a xs fs m) {b : UInt8} {x : Addr} (hf : n < room ∨ (m b).isSome) : Ret P n_wide_Board_Set [rp bb, bv b, .pointer (some x)] w fun v w' =>
    v = .int .i64 0 ∧ ∃ n' xv' fv' a' xs' fs', BrdM w' bb room n' xv' fv' a' xs' fs' ∧ BrdI room n' a' xs' fs' (upd m b (some x)) ∧ Ext (BX bb xv fv) w w' ∧ (∀ b, BX bb xv' fv' b → BX bb xv fv b ∨ w.heap.size ≤ b) := by
  refine W_wide_Board_Set ?_
  refine xjd ?_
  refine (c_BrdOk h i.pos).mono ?_
  rintro v w' ⟨rfl, rfl⟩
  refine xifF rfl ?_
  refine xjd ?_
  have hb : b.toNat < 256 := b.toNat_lt
  have hle := i.at_le b
  have h256 := i.xle
  have hlr := i.le
  have htop := i.top
  refine xixA b.toNat rfl hb ?_
  refine h.drew.at_ b ?_
  by_cases e : a b = 0
  · refine xifT (by simp [e]) ?_
    have hlt : n < room := by
      rcases hf with hf | hf
      · exact hf
      · rw [(i.at0 b).1 e] at hf; cases hf
    refine h.drew.n_ ?_
    refine h.drew.r ?_
    intro g
    refine xifE (fun he => by omega) fun _ => ?_
    refine xixA b.toNat rfl hb ?_
    refine h.drew.at_ b ?_
    refine xifT (by simp [e]) ?_
    refine (c_Place h.drew.drew (fun hfs => by have := i.cn; subst hfs; simp at this; omega) (fun f hf => by have := (i.fr f hf).2.1; omega)).mono ?_
    rintro v w1 ⟨f, xv', fv', xs', fs', rfl, h1, hcase, he1, hfr⟩
    obtain ⟨hf0, hfl, hx256, hI⟩ := i.new e hlt x hcase
    refine xixA b.toNat rfl hb ?_
    refine h1.stB (o := 2 + b.toNat) (by omega) rfl (brd_setA b f) fun w2 h2 hz2 he2 => ?_
    refine h2.n_ ?_
    refine xi (r := ((n + 1 : Nat) : Int)) (by rw [wrapI (by omega)]; omega) ?_
    refine h2.stB (o := 1) (by omega) rfl brd_setN fun w3 h3 hz3 he3 => ?_
    intro g
    refine h3.drew.x ?_
    refine xixA b.toNat rfl hb ?_
    refine h3.drew.at_ b ?_
    rw [updN_same]
    refine xi (r := ((f - 1 : Nat) : Int)) (by rw [wrapU16 (by omega)]; omega) ?_
    refine h3.drew.stX (f - 1) rfl (by omega) fun w4 h4 hz4 he4 => ?_
    refine ⟨rfl, n + 1, xv', fv', updN a b f, _, fs', h4, hI, ?_, hfr⟩
    refine he1.undrew.undrew.trans ((he2.transS he3).transS he4.undrew) fun c hc hc' => ?_
    rcases hfr c hc' with h | h
    · exact h
    · have : c < w'.heap.size := hc
      have : w'.heap.size ≤ c := h
      omega
  · refine xifF (by simp; omega) ?_
    intro g
    refine xifF rfl ?_
    refine xixA b.toNat rfl hb ?_
    refine h.drew.at_ b ?_
    refine xifF (by simp; omega) ?_
    intro g
    refine h.drew.drew.x ?_
    refine xixA b.toNat rfl hb ?_
    refine h.drew.drew.at_ b ?_
    refine xi (r := ((a b - 1 : Nat) : Int)) (by rw [wrapU16 (by omega)]; omega) ?_
    refine h.drew.drew.stX (a b - 1) rfl (by omega) fun w4 h4 hz4 he4 => ?_
    exact ⟨rfl, n, xv, fv, a, _, fs, h4, i.put e x, he4.undrew.undrew, fun b hb => .inl hb⟩
end
end Go.Proofs.YtbleadagnpckbaaGreatDoor
end
section
namespace Go.Proofs.YtbleadagnpckbaaGreatDoor
open Go Go.RowKit X
set_option linter.unusedSimpArgs false
set_option linter.unusedVariables false

section
variable {w : World} {bb room n : Nat} {xv fv : Value} {a : UInt8 → Nat} {xs : List (Option Addr)} {fs : List Nat} {m : UInt8 → Option Addr}
theorem BrdI.drop (i : BrdI room n a xs fs m) {b : UInt8} (hb : a b ≠ 0) : 0 < n ∧ BrdI room (n - 1) (updN a b 0) (xs.set (a b - 1) none) (fs ++ [a b]) (upd m b none) := by
  have hmb : (m b).isSome := by
    cases hm : m b with
    | none => exact absurd ((i.at0 b).2 hm) hb
    | some x => rfl
  have hpos : 0 < n := by rw [i.nc]; exact cnt_pos hmb
  have hle := i.at_le b
  have hcn := i.cn
  refine ⟨hpos, ?_, fun c => ?_, fun c hc => ?_, fun c d hc he => ?_, ?_, fun f hf => ?_, by simp; omega, by rw [List.length_set]; exact i.xle, by have := i.le; omega, i.top⟩
  · have := cnt_upd m b none
    simp [hmb] at this
    have := i.nc
    omega
  · by_cases e : c = b
    · subst e; rw [upd_same, updN_same]; simp
    · rw [upd_other m _ e, updN_other a _ e]; exact i.at0 c
  · by_cases e : c = b
    · subst e; rw [updN_same] at hc; exact absurd rfl hc
    · rw [updN_other a _ e] at hc ⊢
      rw [upd_other m _ e, List.getElem?_set, if_neg, i.atx c hc]
      intro h
      exact e (i.inj c b hc (by omega))
  · by_cases e : c = b
    · subst e; rw [updN_same] at hc; exact absurd rfl hc
    · rw [updN_other a _ e] at hc he
      by_cases e2 : d = b
      · subst e2; rw [updN_same] at he; exact absurd he hc
      · rw [updN_other a _ e2] at he
        exact i.inj c d hc he
  · refine List.nodup_append.2 ⟨i.nod, by simp, fun x hx y hy => ?_⟩
    simp only [List.mem_singleton] at hy
    subst hy
    exact fun e => (i.fr x hx).2.2 b e.symm
  · rw [List.length_set]
    rcases List.mem_append.1 hf with hf | hf
    · obtain ⟨g1, g2, g3⟩ := i.fr f hf
      refine ⟨g1, g2, fun c => ?_⟩
      by_cases e : c = b
      · subst e; rw [updN_same]; omega
      · rw [updN_other a _ e]; exact g3 c
    · simp only [List.mem_singleton] at hf
      subst hf
      refine ⟨by omega, hle, fun c => ?_⟩
      by_cases e : c = b
      · subst e; rw [updN_same]; omega
      · rw [updN_other a _ e]
        intro h
        exact e (i.inj c b (by omega) h)
theorem c_BrdDrop (h : BrdM w bb room n xv fv a xs fs) (i : BrdI room n a xs fs m) {b : UInt8} (hf : (m b).isSome) : Ret P n_wide_Board_Drop [rp bb, bv b] w fun v w' =>
    v = .int .i64 0 ∧ ∃ n' xv' fv' a' xs' fs', BrdM w' bb room n' xv' fv' a' xs' fs' ∧ BrdI room n' a' xs' fs' (upd m b none) ∧ Ext (BX bb xv fv) w w' ∧ (∀ b, BX bb xv' fv' b → BX bb xv fv b ∨ w.heap.size ≤ b) := by
  refine W_wide_Board_Drop ?_
  refine (c_BrdOk h i.pos).mono ?_
  rintro v w' ⟨rfl, rfl⟩
  refine xifF rfl ?_
  have hb : b.toNat < 256 := b.toNat_lt
  have hab : a b ≠ 0 := fun e => by rw [(i.at0 b).1 e] at hf; cases hf
  have hle := i.at_le b
  have h256 := i.xle
  have hcn := i.cn
  have hlr := i.le
  have htop := i.top
  obtain ⟨hpos, hI⟩ := i.drop hab
  refine xixA b.toNat rfl hb ?_
  refine h.at_ b ?_
  refine xifF (by simp; omega) ?_
  refine h.drew.x ?_
  refine xixA b.toNat rfl hb ?_
  refine h.drew.at_ b ?_
  refine xi (r := ((a b - 1 : Nat) : Int)) (by rw [wrapU16 (by omega)]; omega) ?_
  refine h.drew.stX (a b - 1) rfl (by omega) fun w1 h1 hz1 he1 => ?_
  refine h1.drew.f ?_
  refine xixA b.toNat rfl hb ?_
  refine h1.drew.at_ b ?_
  refine xnew fun nb w2 hnb hblk hz he => ?_
  have h2 := h1.drew.extN he
  refine ⟨by
    have := h2.blk.cell 259
    rw [brd_f] at this
    exact this, ?_⟩
  refine app_own ei_u16 (n := fs.length) (m := 1) (xs := fs.map fun n : Nat => .int .u16 (n : Int)) (ys := [.int .u16 (a b)]) h2.fo (Nat.zero_le _) (hblk.sl (o := 0) (n := 1) (cap := 1) (by show 0 + 1 ≤ 1; omega) (by omega)) (by intro u hu; simp at hu; subst hu; rfl) (by omega) (by omega) fun fv' w3 hfv he3 _ hfresh => ?_
  have hblk3 : Blk w3 bb (brdCells room n a xv fv) T_wide_Board := h2.blk.ext he3 (h2.fo.ne h2.blk t_brd_u)
  have hxo3 := h2.xo.ext he3 fun b hb hb' => h2.fo.ne2 h2.xo hb t_p_u hb'
  refine hblk3.st (o := 259) (by rw [brdCells_length]; omega) hfv.one fun w4 hb4 hz4 he4 => ?_
  rw [brd_setF] at hb4
  have h4 : BrdM w4 bb room n xv fv' a (xs.set (a b - 1) none) (fs ++ [a b]) := ⟨hb4, hxo3.ext he4 fun b hb' e => hxo3.ne hblk3 t_brd_p (by rw [← show b = bb from e]; exact hb'), by
    have := hfv.ext he4 fun b hb' e => hfv.ne hblk3 t_brd_u (by rw [← show b = bb from e]; exact hb')
    simpa using this⟩
  refine xixA b.toNat rfl hb ?_
  refine h4.stB (o := 2 + b.toNat) (by omega) rfl (brd_setA b 0) fun w5 h5 hz5 he5 => ?_
  refine h5.n_ ?_
  refine xi (r := ((n - 1 : Nat) : Int)) (by rw [wrapI (by omega)]; omega) ?_
  refine h5.stB (o := 1) (by omega) rfl brd_setN fun w6 h6 hz6 he6 => ?_
  have hfr : ∀ c, BX bb xv fv' c → BX bb xv fv c ∨ w'.heap.size ≤ c := by
    intro c hc
    rcases hc with hc | hc | hc
    · exact .inl (.inl hc)
    · exact .inl (.inr (.inl hc))
    · rcases hfresh c hc with h7 | h7
      · exact .inl (.inr (.inr h7))
      · refine .inr ?_
        have e1 : w1.drew.heap.size = w'.heap.size := hz1
        have := he.size
        omega
  refine ⟨rfl, n - 1, xv, fv', _, _, _, h6, hI, ?_, hfr⟩
  have hA : Ext (BX bb xv fv) w' w2 := he1.undrew.transN he.undrew
  have hB : Ext (BX bb xv fv) w' w4 := (hA.transS (he3.mono fun b _ hb => .inr (.inr hb))).transS (he4.mono fun b _ hb => .inl hb)
  refine hB.trans (he5.transS he6) fun c hc hc' => ?_
  rcases hfr c hc' with h | h
  · exact h
  · omega

set_option maxRecDepth 100000 in
theorem c_BrdNext {i : Nat} (h : BrdM w bb room n xv fv a xs fs) (hi : BrdI room n a xs fs m) (hlt : i ≤ 256) : Ret P n_wide_Board_Next [rp bb, .int .i64 i] w fun v w' => v = nextV m i ∧ Ext No w w' := by
  refine W_wide_Board_Next ?_
  refine xjd ?_
  refine (c_BrdOk h hi.pos).mono ?_
  rintro v w' ⟨rfl, rfl⟩
  refine xifT rfl ?_
  have e0 : (if ((i : Int) < 0) then (0 : Int) else i) = i := by rw [if_neg (by omega)]
  refine xloop (fun nn vs w1 => ∃ (j : Nat) (x y : Value), vs = [.int .i64 j, x, y, .int .u8 0, .pointer none, .bool false] ∧ i ≤ j ∧ j ≤ 256 ∧ nn = 256 - j ∧ (∀ c : UInt8, i ≤ c.toNat → c.toNat < j → m c = none) ∧ Ext No w' w1) (256 - i)
    ⟨i, _, _, by rw [if_neg (show ¬ (i : Int) < 0 by omega)], by omega, by omega, rfl, fun c h1 h2 => by omega, Ext.refl _ _⟩ ?_
  rintro nn vs g w1 ⟨j, x, y, rfl, h1, h2, rfl, h3, he⟩
  refine xifD (fun hlt => ?_) fun hge => ?_
  · have hj : j < 256 := by omega
    refine xi (r := (j : Int)) (wrapU8 (by omega)) ?_
    rw [bv_of hj]
    refine (c_BrdGet (h.extN he) hi).mono ?_
    rintro v w2 ⟨rfl, he2⟩
    have ht := ofNat_toNat hj
    cases hm : m (UInt8.ofNat j) with
    | some x =>
      refine xifT (by simp [getV, hm]) ?_
      refine xi (r := (j : Int)) (wrapU8 (by omega)) ?_
      refine ⟨?_, he.transN he2⟩
      have : nextB m i = some (UInt8.ofNat j) := nextB_some.2 ⟨by rw [hm]; rfl, by omega, fun d h5 h6 => h3 d h5 (by omega)⟩
      simp only [nextV, this]
      rw [bv_of hj, hm]
    | none =>
      refine xifF (by simp [getV, hm]) ?_
      refine xi (r := ((j + 1 : Nat) : Int)) (by rw [wrapI (by omega)]; omega) ?_
      refine xnext (256 - (j + 1)) (by omega) ⟨j + 1, _, _, rfl, by omega, by omega, rfl, fun c h5 h6 => ?_, he.transN he2⟩
      rcases Nat.lt_or_ge c.toNat j with h7 | h7
      · exact h3 c h5 h7
      · have : c = UInt8.ofNat j := UInt8.toNat_inj.1 (by omega)
        rw [this]; exact hm
  · intro g
    refine ⟨?_, he⟩
    have : nextB m i = none := nextB_none.2 fun c hc => h3 c hc (by have := c.toNat_lt; omega)
    simp [nextV, this]

theorem c_CloneP {v : Value} {k : Nat} {ys : List Value} (h : Own w 0 T_p_node_Node 1 v k ys) (h1 : ∀ u ∈ ys, u.oneCell' = true) (hk : k ≤ 1000000) : Ret P n_slices_Clone_Node [v] w fun v' w' => Own w' w.heap.size T_p_node_Node 1 v' k ys ∧ Ext No w w' := by
  refine W_slices_Clone_Node ?_
  have h' := h
  obtain ⟨hl, hh⟩ := h
  rcases hh with ⟨rfl, rfl⟩ | ⟨g, cap, cur, rfl, _⟩
  · have : ys = [] := List.eq_nil_of_length_eq_zero (by simpa using hl)
    subst this
    exact ⟨Own.nil _ _ _ _, Ext.refl _ _⟩
  · refine xnew fun b w1 hb hblk hsz he => ?_
    refine app_own ei_p (B := w.heap.size) (n := 0) (xs := []) (m := k) ⟨rfl, .inr ⟨b, 0, _, rfl, by omega, hblk.h, by omega, by decide, rfl, rfl⟩⟩ (by omega) (h'.extN he).sl h1 (by omega) (by omega) fun v' w' ho h1 _ _ => ?_
    refine ⟨by simpa using ho, he.trans1 (b := b) (h1.mono fun c _ h => ?_) (by omega)⟩
    simp only [Value.ownBlock, Option.some.injEq] at h
    exact h.symm
theorem c_CloneU {v : Value} {k : Nat} {ys : List Value} (h : Own w 0 T_uint16 1 v k ys) (h1 : ∀ u ∈ ys, u.oneCell' = true) (hk : k ≤ 1000000) : Ret P n_slices_Clone_uint16 [v] w fun v' w' => Own w' w.heap.size T_uint16 1 v' k ys ∧ Ext No w w' := by
  refine W_slices_Clone_uint16 ?_
  have h' := h
  obtain ⟨hl, hh⟩ := h
  rcases hh with ⟨rfl, rfl⟩ | ⟨g, cap, cur, rfl, _⟩
  · have : ys = [] := List.eq_nil_of_length_eq_zero (by simpa using hl)
    subst this
    exact ⟨Own.nil _ _ _ _, Ext.refl _ _⟩
  · refine xnew fun b w1 hb hblk hsz he => ?_
    refine app_own ei_u16 (B := w.heap.size) (n := 0) (xs := []) (m := k) ⟨rfl, .inr ⟨b, 0, _, rfl, by omega, hblk.h, by omega, by decide, rfl, rfl⟩⟩ (by omega) (h'.extN he).sl h1 (by omega) (by omega) fun v' w' ho h1 _ _ => ?_
    refine ⟨by simpa using ho, he.trans1 (b := b) (h1.mono fun c _ h => ?_) (by omega)⟩
    simp only [Value.ownBlock, Option.some.injEq] at h
    exact h.symm
set_option maxRecDepth 100000 in
theorem c_BrdCopy (h : BrdM w bb room n xv fv a xs fs) (i : BrdI room n a xs fs m) : Ret P n_wide_Board_Copy [rp bb] w fun v w' => ∃ b xv' fv', v = rp b ∧ BrdM w' b room n xv' fv' a xs fs ∧ Ext No w w' ∧ ∀ c, BX b xv' fv' c → w.heap.size ≤ c := by
  refine W_wide_Board_Copy ?_
  refine (c_BrdOk h i.pos).mono ?_
  rintro v w' ⟨rfl, rfl⟩
  refine xifF rfl ?_
  have hl := brdCells_length room n a xv fv
  have h256 := i.xle
  have hcn := i.cn
  refine h.blk.ldA hl ?_
  refine xnew fun b w1 hb hblk hz he => ?_
  refine xstoreVar hblk (by rw [hl]; kernel_rfl) (by rw [hl]; simp [z_wide_Board]) ?_ fun w2 hb2 hz2 he2 => ?_
  · intro v hv
    unfold brdCells atCells at hv
    simp only [List.mem_cons, List.mem_append, List.mem_map, List.mem_nil_iff, or_false] at hv
    rcases hv with rfl | rfl | ⟨c, -, rfl⟩ | rfl | rfl
    · rfl
    · rfl
    · rfl
    · exact h.xo.one
    · exact h.fo.one
  · have e : z_wide_Board.drop (0 + (brdCells room n a xv fv).length) = [] := List.drop_eq_nil_of_le (by rw [hl]; simp [z_wide_Board])
    rw [e] at hb2
    have hb2' : Blk w2 b (brdCells room n a xv fv) T_wide_Board := by simpa using hb2
    have hE : Ext No w' w2 := he.trans1 he2 (by omega)
    have h2 := h.extN hE
    refine h2.drew.x ?_
    refine h2.drew.f ?_
    refine (c_CloneP h2.drew.xo (by intro u hu; obtain ⟨c, -, rfl⟩ := List.mem_map.1 hu; rfl) (by omega)).mono ?_
    rintro xv' w3 ⟨hx3, he3⟩
    have h3 := h2.drew.extN he3
    refine ⟨by
      have := h3.blk.cell 259
      rw [brd_f] at this
      exact this, ?_⟩
    refine (c_CloneU h3.fo (by intro u hu; obtain ⟨c, -, rfl⟩ := List.mem_map.1 hu; rfl) (by omega)).mono ?_
    rintro fv' w4 ⟨hf4, he4⟩
    have hx4 := hx3.extN he4
    have hb4 : Blk w4 b (brdCells room n a xv fv) T_wide_Board := (hb2'.drew.ext he3 fun h => h).ext he4 fun h => h
    refine hb4.st (o := 258) (by rw [hl]; omega) hx4.one fun w5 hb5 hz5 he5 => ?_
    rw [brd_setX] at hb5
    refine hb5.st (o := 259) (by rw [brdCells_length]; omega) hf4.one fun w6 hb6 hz6 he6 => ?_
    rw [brd_setF] at hb6
    have s1 : w2.drew.heap.size = w2.heap.size := rfl
    have s2 := hE.size
    have s3 := he3.size
    have sb : w'.heap.size ≤ b := by omega
    refine ⟨b, xv', fv', rfl, ⟨hb6, ?_, ?_⟩, ?_, ?_⟩
    · have h5 := hx4.ext he5 fun c hb' e => hx4.ne hb4 t_brd_p (by rw [← show c = b from e]; exact hb')
      exact (h5.ext he6 fun c hb' e => h5.ne hb5 t_brd_p (by rw [← show c = b from e]; exact hb')).mono (Nat.zero_le _)
    · have h5 := hf4.ext he5 fun c hb' e => hf4.ne hb4 t_brd_u (by rw [← show c = b from e]; exact hb')
      exact (h5.ext he6 fun c hb' e => h5.ne hb5 t_brd_u (by rw [← show c = b from e]; exact hb')).mono (Nat.zero_le _)
    · exact (((hE.transN he3.undrew).transN he4).trans1 he5 sb).trans1 he6 sb
    · intro c hc
      rcases hc with rfl | hc | hc
      · exact sb
      · have := (hx3.ge hc).1; omega
      · have := (hf4.ge hc).1; omega
set_option maxRecDepth 100000 in
theorem brd_zero (r : Nat) : brdCells r 0 (fun _ => 0) (.slice none 0 0) (.slice none 0 0) = .int .i64 r :: .int .i64 0 :: (List.replicate 256 (.int .u16 0) ++ [.slice none 0 0, .slice none 0 0]) := by
  unfold brdCells atCells
  rw [List.map_const']
  rfl
set_option maxRecDepth 100000 in
theorem c_BrdNew {r : Nat} (hr : r = 48 ∨ r = 256) : Ret P n_wide_New_Node [.int .i64 r] w fun v w' => ∃ b, v = .tuple #[rp b, .int .i64 0] ∧ BrdM w' b r 0 (.slice none 0 0) (.slice none 0 0) (fun _ => 0) [] [] ∧ BrdI r 0 (fun _ => 0) [] [] (fun _ => none) ∧ Ext No w w' ∧ ∀ c, BX b (.slice none 0 0) (.slice none 0 0) c → w.heap.size ≤ c := by
  refine W_wide_New_Node ?_
  refine xj (fun vs w' => vs = [.bool false] ∧ w' = w) ?_ ?_
  · refine xifN (fun h1 => ?_) fun h1 => ⟨rfl, rfl⟩
    have : r = 256 := by omega
    subst this
    exact ⟨rfl, rfl⟩
  · rintro vs g w' ⟨rfl, rfl⟩
    refine xifF rfl ?_
    refine xnew fun b w1 hb hblk hz he => ?_
    refine ⟨b, rfl, ⟨?_, Own.nil _ _ _ _, Own.nil _ _ _ _⟩, ⟨?_, by simp, by simp, by simp, List.nodup_nil, by simp, rfl, by simp, by omega, hr⟩, he, ?_⟩
    · rw [brd_zero]; exact hblk
    · simp [cnt, dom_none]
    · intro c hc
      rcases hc with hc | hc | hc
      · omega
      · cases hc
      · cases hc
end
end Go.Proofs.YtbleadagnpckbaaGreatDoor
end
