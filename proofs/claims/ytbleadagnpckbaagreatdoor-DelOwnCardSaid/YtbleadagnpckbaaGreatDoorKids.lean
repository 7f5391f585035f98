/-  kids: things by bytes, in a row or on a board.  -/
import Derived.Test.YtbleadagnpckbaaGreatDoorBoard
section
namespace Go.Proofs.YtbleadagnpckbaaGreatDoor
open Go Go.RowKit X
set_option linter.unusedSimpArgs false
set_option linter.unusedVariables false

theorem X.index_ints {P : Program} {w : World} {t e : TypeId} {n m : Nat} {k kd : IntKind} {cs : Array Value} {i : Int} {v : Value} {K : Value → World → Prop} (h : P.underlying t = some (.array n e)) (he : P.underlying e = some (.int k)) (hs : (P.info? e).map (·.size) = some 1)
    (hi : i = (m : Int)) (hm : m < n) (hv : cs[m]? = some v) (kk : K v w) : XRun P (Instr.index t (.agg cs) (.int kd i)) w K := by
  refine ⟨v, w, ?_, kk⟩
  subst hi
  cases hq : P.info? e with
  | none => simp [hq] at hs
  | some inf =>
    have hs1 : inf.size = 1 := by simpa [hq] using hs
    simp [Instr.index, asIntOf, run_underlying h, run_underlying he, part, isAgg, sizeOf, typeInfo, hq, hs1, hm, hv]

def kinds : List Nat := [4, 16, 48, 256]
set_option maxRecDepth 100000 in
theorem c_KindOf {w : World} {n : Nat} (h : n ≤ 256) : Ret P n_kids_KindOf [.int .i64 n] w fun v w' => v = .int .i64 (kindN n) ∧ Ext No w w' := by
  refine W_kids_KindOf ?_
  unfold S_kids_KindOf
  refine xifD (fun hlt => by omega) fun _ => ?_
  have hk : ∀ i, i < 4 → (#[.int .i64 4, .int .i64 16, .int .i64 48, .int .i64 256] : Array Value)[i]? = (kinds[i]?).map fun n : Nat => .int .i64 (n : Int) := by
    intro i hi
    rcases (show i = 0 ∨ i = 1 ∨ i = 2 ∨ i = 3 by omega) with rfl | rfl | rfl | rfl <;> rfl
  refine xloop (fun nn vs w' => ∃ (i : Nat) (x y : Value), vs = [.int .i64 i, x, y] ∧ i ≤ 4 ∧ nn = 4 - i ∧ (∀ j k, j < i → kinds[j]? = some k → k < n) ∧ Ext No w w') 4 ⟨0, _, _, rfl, by omega, rfl, by omega, Ext.refl _ _⟩ ?_
  rintro nn vs g w1 ⟨i, x, y, rfl, hi, rfl, hlo, he⟩
  refine xifD (fun hlt => ?_) fun hge => ?_
  · have hi4 : i < 4 := by omega
    obtain ⟨k, hkk⟩ : ∃ k, kinds[i]? = some k := ⟨kinds[i]'hi4, List.getElem?_eq_getElem hi4⟩
    refine index_ints (e := T_int) (n := 4) (m := i) (k := .i64) (v := .int .i64 k) (by kernel_rfl) (by kernel_rfl) (by kernel_rfl) rfl hi4 ?_ ?_
    · have := hk i hi4
      rw [hkk] at this
      exact this
    · refine xifD (fun hle => ?_) fun hgt => ?_
      · refine ⟨?_, he⟩
        congr 2
        have h1 := hlo 0 4
        have h2 := hlo 1 16
        have h3 := hlo 2 48
        have h4 := hlo 3 256
        unfold kinds at *
        unfold kindN
        rcases (show i = 0 ∨ i = 1 ∨ i = 2 ∨ i = 3 by omega) with rfl | rfl | rfl | rfl <;> simp at * <;> repeat' split
        all_goals omega
      · refine xi (r := ((i + 1 : Nat) : Int)) (by rw [wrapI (by omega)]; omega) ?_
        refine xnext (4 - (i + 1)) (by omega) ⟨i + 1, _, _, rfl, by omega, rfl, fun j k' hj hk' => ?_, he⟩
        rcases Nat.lt_or_ge j i with h5 | h5
        · exact hlo j k' h5 hk'
        · have : j = i := by omega
          subst this
          rw [hkk] at hk'
          cases hk'
          omega
  · exfalso
    have := hlo 3 256 (by omega) rfl
    omega

/-- kids: of nothing (no blocks); in a row; on a board -/
def Kd (w : World) (ks : List Nat) (room : Nat) (m : UInt8 → Option Addr) : Prop :=
  (ks = [] ∧ room = 0 ∧ m = fun _ => none) ∨
  (∃ kb rb l, ks = [kb, rb] ∧ Blk w kb [rp rb, .pointer none] T_kids_Kids ∧ Row w rb room l ∧ lkp l = m) ∨
  (∃ kb bb n xv fv a xs fs, ks = kb :: bb :: (xv.ownBlock.toList ++ fv.ownBlock.toList) ∧ Blk w kb [.pointer none, rp bb] T_kids_Kids ∧ BrdM w bb room n xv fv a xs fs ∧ BrdI room n a xs fs m)
def kptr (ks : List Nat) : Value := match ks with | [] => .pointer none | b :: _ => rp b
theorem mem_BX {kb bb b : Nat} {xv fv : Value} : b ∈ kb :: bb :: (xv.ownBlock.toList ++ fv.ownBlock.toList) ↔ b = kb ∨ BX bb xv fv b := by
  simp [BX, SX, Option.mem_toList, Option.mem_def]
/-- the types of the blocks of kids -/
def KT (T : TypeId) : Prop := T = T_kids_Kids ∨ T = T_small_Row ∨ T = T_wide_Board ∨ T = T_p_node_Node ∨ T = T_uint16
theorem Kd.ty {w : World} {ks : List Nat} {room : Nat} {m : UInt8 → Option Addr} (h : Kd w ks room m) : ∀ b ∈ ks, ∃ cs T, Blk w b cs T ∧ KT T := by
  intro b hb
  rcases h with ⟨rfl, -, -⟩ | ⟨kb, rb, l, rfl, h1, h2, -⟩ | ⟨kb, bb, n, xv, fv, a, xs, fs, rfl, h1, h2, -⟩
  · cases hb
  · simp only [List.mem_cons, List.mem_nil_iff, or_false] at hb
    rcases hb with rfl | rfl
    · exact ⟨_, _, h1, .inl rfl⟩
    · exact ⟨_, _, h2.blk, .inr (.inl rfl)⟩
  · rcases mem_BX.1 hb with rfl | rfl | hb | hb
    · exact ⟨_, _, h1, .inl rfl⟩
    · exact ⟨_, _, h2.blk, .inr (.inr (.inl rfl))⟩
    · obtain ⟨cs, hc⟩ := h2.xo.blk hb
      exact ⟨_, _, hc, .inr (.inr (.inr (.inl rfl)))⟩
    · obtain ⟨cs, hc⟩ := h2.fo.blk hb
      exact ⟨_, _, hc, .inr (.inr (.inr (.inr rfl)))⟩
theorem Kd.lt {w : World} {ks : List Nat} {room : Nat} {m : UInt8 → Option Addr} (h : Kd w ks room m) {b : Nat} (hb : b ∈ ks) : b < w.heap.size := by
  obtain ⟨cs, T, h1, -⟩ := h.ty b hb
  exact h1.lt
theorem Kd.ext {X : Nat → Prop} {w w' : World} {ks : List Nat} {room : Nat} {m : UInt8 → Option Addr} (h : Kd w ks room m) (e : Ext X w w') (hx : ∀ b ∈ ks, ¬ X b) : Kd w' ks room m := by
  rcases h with h | ⟨kb, rb, l, rfl, h1, h2, h3⟩ | ⟨kb, bb, n, xv, fv, a, xs, fs, rfl, h1, h2, h3⟩
  · exact .inl h
  · exact .inr (.inl ⟨kb, rb, l, rfl, h1.ext e (hx _ (by simp)), h2.ext e (hx _ (by simp)), h3⟩)
  · exact .inr (.inr ⟨kb, bb, n, xv, fv, a, xs, fs, rfl, h1.ext e (hx _ (by simp)), h2.ext e fun b hb => hx b (mem_BX.2 (.inr hb)), h3⟩)
theorem Kd.extN {w w' : World} {ks : List Nat} {room : Nat} {m : UInt8 → Option Addr} (h : Kd w ks room m) (e : Ext No w w') : Kd w' ks room m := h.ext e fun _ _ h => h
theorem Kd.drew {w : World} {ks : List Nat} {room : Nat} {m : UInt8 → Option Addr} (h : Kd w ks room m) : Kd w.drew ks room m := h.extN (Ext.refl No w).drew

section
variable {w : World} {ks : List Nat} {room : Nat} {m : UInt8 → Option Addr}
theorem Kd.le (h : Kd w ks room m) : cnt m ≤ room := by
  rcases h with ⟨-, rfl, rfl⟩ | ⟨kb, rb, l, rfl, h1, h2, rfl⟩ | ⟨kb, bb, n, xv, fv, a, xs, fs, rfl, h1, h2, h3⟩
  · simp [cnt, dom_none]
  · rw [lkp_cnt h2.rise]; exact h2.le
  · rw [← h3.nc]; exact h3.le
theorem c_KOk (h : Kd w ks room m) : Ret P n_kids_Kids_ok [kptr ks] w fun v w' => v = .bool !ks.isEmpty ∧ w' = w := by
  refine W_kids_Kids_ok ?_
  refine xjd ?_
  rcases h with ⟨rfl, rfl, rfl⟩ | ⟨kb, rb, l, rfl, h1, h2, rfl⟩ | ⟨kb, bb, n, xv, fv, a, xs, fs, rfl, h1, h2, h3⟩
  · exact fun g => ⟨rfl, rfl⟩
  · refine xifT rfl ?_
    refine h1.ld (v := rp rb) rfl ?_
    exact fun g => ⟨rfl, rfl⟩
  · refine xifT rfl ?_
    refine h1.ld (v := .pointer none) rfl ?_
    refine xifF rfl ?_
    refine h1.ld (v := rp bb) rfl ?_
    exact fun g => ⟨rfl, rfl⟩
theorem c_KLen (h : Kd w ks room m) : Ret P n_kids_Kids_Len [kptr ks] w fun v w' => v = .int .i64 (cnt m) ∧ w' = w := by
  refine W_kids_Kids_Len ?_
  refine (c_KOk h).mono ?_
  rintro v w' ⟨rfl, rfl⟩
  rcases h with ⟨rfl, rfl, rfl⟩ | ⟨kb, rb, l, rfl, h1, h2, rfl⟩ | ⟨kb, bb, n, xv, fv, a, xs, fs, rfl, h1, h2, h3⟩
  · exact ⟨by simp [cnt, dom_none], rfl⟩
  · refine xifF rfl ?_
    refine h1.ld (v := rp rb) rfl ?_
    refine xifT rfl ?_
    refine h1.ld (v := rp rb) rfl ?_
    refine (c_RowLen h2).mono ?_
    rintro v w1 ⟨rfl, rfl⟩
    exact ⟨by rw [lkp_cnt h2.rise], rfl⟩
  · refine xifF rfl ?_
    refine h1.ld (v := .pointer none) rfl ?_
    refine xifF rfl ?_
    refine h1.ld (v := rp bb) rfl ?_
    refine (c_BrdLen h2 h3).mono ?_
    rintro v w1 ⟨rfl, rfl⟩
    exact ⟨by rw [h3.nc], rfl⟩
theorem c_KKind (h : Kd w ks room m) : Ret P n_kids_Kids_Kind [kptr ks] w fun v w' => v = .int .i64 room ∧ w' = w := by
  refine W_kids_Kids_Kind ?_
  refine (c_KOk h).mono ?_
  rintro v w' ⟨rfl, rfl⟩
  rcases h with ⟨rfl, rfl, rfl⟩ | ⟨kb, rb, l, rfl, h1, h2, rfl⟩ | ⟨kb, bb, n, xv, fv, a, xs, fs, rfl, h1, h2, h3⟩
  · exact ⟨rfl, rfl⟩
  · refine xifF rfl ?_
    refine h1.ld (v := rp rb) rfl ?_
    refine xifT rfl ?_
    refine h1.ld (v := rp rb) rfl ?_
    refine (c_RowRoom h2).mono ?_
    rintro v w1 ⟨rfl, rfl⟩
    exact ⟨rfl, rfl⟩
  · refine xifF rfl ?_
    refine h1.ld (v := .pointer none) rfl ?_
    refine xifF rfl ?_
    refine h1.ld (v := rp bb) rfl ?_
    refine (c_BrdRoom h2 h3).mono ?_
    rintro v w1 ⟨rfl, rfl⟩
    exact ⟨rfl, rfl⟩
theorem c_KGet (h : Kd w ks room m) {b : UInt8} : Ret P n_kids_Kids_Get [kptr ks, bv b] w fun v w' => v = getV m b ∧ Ext No w w' := by
  refine W_kids_Kids_Get ?_
  refine (c_KOk h).mono ?_
  rintro v w' ⟨rfl, rfl⟩
  rcases h with ⟨rfl, rfl, rfl⟩ | ⟨kb, rb, l, rfl, h1, h2, rfl⟩ | ⟨kb, bb, n, xv, fv, a, xs, fs, rfl, h1, h2, h3⟩
  · exact ⟨rfl, Ext.refl _ _⟩
  · refine xifF rfl ?_
    refine h1.ld (v := rp rb) rfl ?_
    refine xifT rfl ?_
    refine h1.ld (v := rp rb) rfl ?_
    refine (c_RowGet h2).mono ?_
    rintro v w1 ⟨rfl, he⟩
    exact ⟨rfl, he⟩
  · refine xifF rfl ?_
    refine h1.ld (v := .pointer none) rfl ?_
    refine xifF rfl ?_
    refine h1.ld (v := rp bb) rfl ?_
    refine (c_BrdGet h2 h3).mono ?_
    rintro v w1 ⟨rfl, he⟩
    exact ⟨rfl, he⟩
theorem nextV_shape (m : UInt8 → Option Addr) (i : Nat) : ∃ a b c, nextV m i = .tuple #[a, b, c] := by
  unfold nextV
  cases nextB m i <;> exact ⟨_, _, _, rfl⟩
theorem nextV_none (i : Nat) : nextV (fun _ => none) i = .tuple #[.int .u8 0, .pointer none, .bool false] := by
  have : nextB (fun _ => none : UInt8 → Option Addr) i = none := nextB_none.2 fun _ _ => rfl
  simp [nextV, this]
theorem c_KNext {i : Nat} (h : Kd w ks room m) (hi : i ≤ 256) : Ret P n_kids_Kids_Next [kptr ks, .int .i64 i] w fun v w' => v = nextV m i ∧ Ext No w w' := by
  refine W_kids_Kids_Next ?_
  refine (c_KOk h).mono ?_
  rintro v w' ⟨rfl, rfl⟩
  rcases h with ⟨rfl, rfl, rfl⟩ | ⟨kb, rb, l, rfl, h1, h2, rfl⟩ | ⟨kb, bb, n, xv, fv, a, xs, fs, rfl, h1, h2, h3⟩
  · exact ⟨(nextV_none i).symm, Ext.refl _ _⟩
  · refine xifF rfl ?_
    refine h1.ld (v := rp rb) rfl ?_
    refine xifT rfl ?_
    refine h1.ld (v := rp rb) rfl ?_
    refine (c_RowNext h2).mono ?_
    rintro v w1 ⟨rfl, he⟩
    obtain ⟨x, y, z, e⟩ := nextV_shape (lkp l) i
    rw [e]
    exact ⟨rfl, he⟩
  · refine xifF rfl ?_
    refine h1.ld (v := .pointer none) rfl ?_
    refine xifF rfl ?_
    refine h1.ld (v := rp bb) rfl ?_
    refine (c_BrdNext h2 h3 hi).mono ?_
    rintro v w1 ⟨rfl, he⟩
    obtain ⟨x, y, z, e⟩ := nextV_shape m i
    rw [e]
    exact ⟨rfl, he⟩
end
end Go.Proofs.YtbleadagnpckbaaGreatDoor
end
section
namespace Go.Proofs.YtbleadagnpckbaaGreatDoor
open Go Go.RowKit X
set_option linter.unusedSimpArgs false
set_option linter.unusedVariables false

theorem X.cnt_mono {α : Type} {m m' : UInt8 → Option α} (h : ∀ c, (m c).isSome → (m' c).isSome) : cnt m ≤ cnt m' := by
  rw [cnt_eq, cnt_eq]
  exact List.countP_mono_left fun c _ => h c
def Sub (ks ks' : List Nat) (n : Nat) : Prop := ∀ c ∈ ks', c ∈ ks ∨ n ≤ c

section
variable {w : World} {ks : List Nat} {room : Nat} {m : UInt8 → Option Addr}
theorem c_KPut (h : Kd w ks room m) (hne : ks ≠ []) {b : UInt8} {x : Addr} (hf : cnt m < room ∨ (m b).isSome) : Ret P n_kids_Kids_put [kptr ks, bv b, .pointer (some x)] w fun v w' =>
    ∃ ks', Kd w' ks' room (upd m b (some x)) ∧ ks' ≠ [] ∧ kptr ks' = kptr ks ∧ Ext (· ∈ ks) w w' ∧ Sub ks ks' w.heap.size := by
  refine W_kids_Kids_put ?_
  rcases h with ⟨rfl, rfl, rfl⟩ | ⟨kb, rb, l, rfl, h1, h2, rfl⟩ | ⟨kb, bb, n, xv, fv, a, xs, fs, rfl, h1, h2, h3⟩
  · exact absurd rfl hne
  · refine h1.ld (v := rp rb) rfl ?_
    refine xifT rfl ?_
    refine h1.ld (v := rp rb) rfl ?_
    refine (c_RowSet h2 (by rw [lkp_cnt h2.rise] at hf; exact hf)).mono ?_
    rintro v w' ⟨rfl, he, l', h4, h5⟩
    refine ⟨[kb, rb], .inr (.inl ⟨kb, rb, l', rfl, h1.ext he (h1.ne h2.blk (by decide)), h4, h5⟩), by simp, rfl, he.mono fun b _ hb => by simp [show b = rb from hb], fun c hc => .inl hc⟩
  · refine h1.ld (v := .pointer none) rfl ?_
    refine xifF rfl ?_
    refine h1.ld (v := rp bb) rfl ?_
    refine (c_BrdSet h2 h3 (by rw [← h3.nc] at hf; exact hf)).mono ?_
    rintro v w' ⟨rfl, n', xv', fv', a', xs', fs', h4, h5, he, hfr⟩
    refine ⟨_, .inr (.inr ⟨kb, bb, n', xv', fv', a', xs', fs', rfl, h1.ext he fun hb => ?_, h4, h5⟩), by simp, rfl, he.mono fun b _ hb => mem_BX.2 (.inr hb), fun c hc => ?_⟩
    · rcases hb with hb | hb | hb
      · exact h1.ne h2.blk (by decide) hb
      · exact h2.xo.ne h1 (by decide) hb
      · exact h2.fo.ne h1 (by decide) hb
    · rcases mem_BX.1 hc with rfl | hc
      · exact .inl (by simp)
      · rcases hfr c hc with h | h
        · exact .inl (mem_BX.2 (.inr h))
        · exact .inr h
theorem c_KRoom {r : Nat} (hr : r ∈ kinds) : Ret P n_kids_room_Node [.int .i64 r] w fun v w' => ∃ ks, v = kptr ks ∧ ks ≠ [] ∧ Kd w' ks r (fun _ => none) ∧ Ext No w w' ∧ Sub [] ks w.heap.size := by
  refine W_kids_room_Node ?_
  refine xnew fun b w1 hb hblk hz he => ?_
  have hblk' : Blk w1 b [.pointer none, .pointer none] T_kids_Kids := hblk
  refine xjd ?_
  unfold kinds at hr
  simp only [List.mem_cons, List.mem_nil_iff, or_false] at hr
  refine xifD (fun hle => ?_) fun hgt => ?_
  · refine (c_RowNew (r := r) (by omega) (by omega)).mono ?_
    rintro v w2 ⟨rb, rfl, hrb, hrow, he2⟩
    refine (hblk'.ext he2 fun h => h).st (o := 0) (by simp) rfl fun w3 hb3 hz3 he3 => ?_
    intro g
    refine ⟨[b, rb], rfl, by simp, .inr (.inl ⟨b, rb, [], rfl, hb3, hrow.ext he3 (show ¬ rb = b by have := hblk'.lt; omega), rfl⟩), (he.transN he2).trans1 he3 (by omega), fun c hc => .inr ?_⟩
    simp only [List.mem_cons, List.mem_nil_iff, or_false] at hc
    have := he.size
    rcases hc with rfl | rfl <;> omega
  · refine (c_BrdNew (r := r) (by omega)).mono ?_
    rintro v w2 ⟨bb, rfl, h4, h5, he2, hfr⟩
    refine (hblk'.ext he2 fun h => h).st (o := 1) (by simp) rfl fun w3 hb3 hz3 he3 => ?_
    intro g
    have hlt := hblk'.lt
    refine ⟨_, rfl, by simp, .inr (.inr ⟨b, bb, 0, _, _, _, [], [], rfl, hb3, h4.ext he3 fun c hc => ?_, h5⟩), (he.transN he2).trans1 he3 (by omega), fun c hc => .inr ?_⟩
    · have := hfr c hc
      exact show ¬ c = b by omega
    · have := he.size
      rcases mem_BX.1 hc with rfl | hc
      · omega
      · have := hfr c hc; omega
theorem c_KNew : Ret P n_kids_New_Node [] w fun v w' => ∃ ks, v = kptr ks ∧ ks ≠ [] ∧ Kd w' ks 4 (fun _ => none) ∧ Ext No w w' ∧ Sub [] ks w.heap.size := by
  refine W_kids_New_Node ?_
  exact c_KRoom (r := 4) (by decide)
/-- the two cells of kids -/
theorem Kd.two (h : Kd w ks room m) (hne : ks ≠ []) : ∃ kb r x y, ks = kb :: r ∧ Blk w kb [x, y] T_kids_Kids ∧ x.oneCell' = true ∧ y.oneCell' = true ∧
    (∀ w' kb', Blk w' kb' [x, y] T_kids_Kids → Ext (· = kb') w w' → kb' ∉ r → Kd w' (kb' :: r) room m) := by
  rcases h with ⟨rfl, rfl, rfl⟩ | ⟨kb, rb, l, rfl, h1, h2, rfl⟩ | ⟨kb, bb, n, xv, fv, a, xs, fs, rfl, h1, h2, h3⟩
  · exact absurd rfl hne
  · refine ⟨kb, _, _, _, rfl, h1, rfl, rfl, fun w' kb' hb he hn => .inr (.inl ⟨kb', rb, l, rfl, hb, h2.ext he (fun e => hn (by rw [← show rb = kb' from e]; simp)), rfl⟩)⟩
  · refine ⟨kb, _, _, _, rfl, h1, rfl, rfl, fun w' kb' hb he hn => .inr (.inr ⟨kb', bb, n, xv, fv, a, xs, fs, rfl, hb, h2.ext he (fun c hc e => hn ?_), h3⟩)⟩
    have e : c = kb' := e
    subst e
    rcases mem_BX.1 (mem_BX.2 (.inr hc) : c ∈ c :: bb :: (xv.ownBlock.toList ++ fv.ownBlock.toList)) with _ | h
    · have := (mem_BX (kb := c + 1)).2 (.inr hc)
      rcases List.mem_cons.1 this with h | h
      · omega
      · exact h
    · have := (mem_BX (kb := c + 1)).2 (.inr hc)
      rcases List.mem_cons.1 this with h | h
      · omega
      · exact h
def below (m : UInt8 → Option Addr) (j : Nat) : UInt8 → Option Addr := fun c => if c.toNat < j then m c else none
theorem below_all {j : Nat} (h : ∀ c : UInt8, j ≤ c.toNat → m c = none) : below m j = m := by
  funext c
  unfold below
  split
  · rfl
  · exact (h c (by omega)).symm
theorem below_step {j : Nat} {c : UInt8} (h : nextB m j = some c) : upd (below m j) c (m c) = below m (c.toNat + 1) := by
  obtain ⟨h1, h2, h3⟩ := nextB_some.1 h
  funext d
  unfold upd below
  by_cases e : d = c
  · subst e; simp
  · have hne : d.toNat ≠ c.toNat := fun h => e (UInt8.toNat_inj.1 h)
    rw [if_neg e]
    by_cases h4 : d.toNat < j
    · rw [if_pos h4, if_pos (by omega)]
    · rw [if_neg h4]
      by_cases h5 : d.toNat < c.toNat + 1
      · rw [if_pos h5, h3 d (by omega) (by omega)]
      · rw [if_neg h5]
set_option maxRecDepth 100000 in
theorem c_KMove (h : Kd w ks room m) (hne : ks ≠ []) {k : Nat} (hk : k ∈ kinds) (hc : cnt m ≤ k) : Ret P n_kids_move_Node [kptr ks, .int .i64 k] w fun v w' =>
    ∃ ks', Kd w' ks' k m ∧ ks' ≠ [] ∧ kptr ks' = kptr ks ∧ Ext (· ∈ ks) w w' ∧ Sub ks ks' w.heap.size := by
  refine W_kids_move_Node ?_
  refine (c_KRoom hk).mono ?_
  rintro v w1 ⟨ks1, rfl, hne1, hk1, he1, hs1⟩
  refine xj (fun vs w' => ∃ ks2, Kd w' ks2 k m ∧ ks2 ≠ [] ∧ kptr ks2 = kptr ks1 ∧ Ext No w w' ∧ Sub [] ks2 w.heap.size) ?_ ?_
  · refine xloop (fun nn vs w' => ∃ (j : Nat) (x y z : Value), vs = [.int .i64 j, x, y, z] ∧ j ≤ 256 ∧ nn = 256 - j ∧ ∃ ks2, Kd w' ks2 k (below m j) ∧ ks2 ≠ [] ∧ kptr ks2 = kptr ks1 ∧ Ext No w w' ∧ Sub [] ks2 w.heap.size) 256
      ⟨0, _, _, _, rfl, by omega, rfl, ks1, by
        have : below m 0 = fun _ => none := by funext c; simp [below]
        rw [this]; exact hk1, hne1, rfl, he1, hs1⟩ ?_
    rintro nn vs g w2 ⟨j, x, y, z, rfl, hj, rfl, ks2, hk2, hne2, hp2, he2, hs2⟩
    refine xifD (fun hlt => ?_) fun hge => ?_
    · refine (c_KNext (h.extN he2) hj).mono ?_
      rintro v w3 ⟨rfl, he3⟩
      cases hn : nextB m j with
      | none =>
        simp only [nextV, hn]
        refine xifT rfl ?_
        have := below_all (nextB_none.1 hn)
        rw [this] at hk2
        exact ⟨ks2, hk2.extN he3, hne2, hp2, he2.transN he3, hs2⟩
      | some c =>
        simp only [nextV, hn]
        refine xifF rfl ?_
        obtain ⟨h1, h2, h3⟩ := nextB_some.1 hn
        obtain ⟨x, hx⟩ := Option.isSome_iff_exists.1 h1
        rw [hx, ← hp2]
        have hlt2 := c.toNat_lt
        refine (c_KPut (hk2.extN he3) hne2 (b := c) (x := x) (.inl ?_)).mono ?_
        · have e := cnt_upd (below m j) c (m c)
          have e2 : below m j c = none := by unfold below; rw [if_neg (by omega)]
          have e3 : cnt (upd (below m j) c (m c)) ≤ cnt m := cnt_mono fun d hd => by
            rw [below_step hn] at hd
            unfold below at hd
            split at hd
            · exact hd
            · cases hd
          rw [e2, hx] at e
          rw [hx] at e3
          simp at e
          omega
        · rintro v w4 ⟨ks3, hk3, hne3, hp3, he4, hs3⟩
          refine xi (r := (c.toNat : Int)) (wrapI (by omega)) ?_
          refine xi (r := ((c.toNat + 1 : Nat) : Int)) (by rw [wrapI (by omega)]; omega) ?_
          have hsz := he2.size
          have hsz3 := he3.size
          refine xnext (256 - (c.toNat + 1)) (by omega) ⟨c.toNat + 1, _, _, _, rfl, by omega, rfl, ks3, by rw [← below_step hn, hx]; exact hk3, hne3, hp3, (he2.transN he3).trans he4 fun b hb hb2 => ?_, fun b hb => ?_⟩
          · rcases hs2 b hb2 with h | h
            · cases h
            · omega
          · rcases hs3 b hb with h | h
            · exact hs2 b h
            · exact .inr (by omega)
    · have e : below m j = m := below_all fun c hc => by have := c.toNat_lt; omega
      rw [e] at hk2
      exact ⟨ks2, hk2, hne2, hp2, he2, hs2⟩
  · rintro vs g w2 ⟨ks2, hk2, hne2, hp2, he2, hs2⟩
    rw [← hp2]
    obtain ⟨kb2, r2, x, y, rfl, hb2, hx, hy, hre⟩ := hk2.two hne2
    obtain ⟨kb, r, x', y', rfl, hb, -, -, -⟩ := (h.extN he2).two hne
    refine hb2.ldA rfl ?_
    refine xstoreVar hb (by kernel_rfl) (by simp) (by intro v hv; simp at hv; rcases hv with rfl | rfl <;> assumption) fun w3 hb3 hz3 he3 => ?_
    have hkb : kb < w.heap.size := h.lt (by simp)
    refine ⟨kb :: r2, hre w3 kb (by simpa using hb3) he3 (fun hm => ?_), by simp, rfl, ?_, fun c hc => ?_⟩
    · rcases hs2 kb (by simp [hm]) with h | h
      · cases h
      · omega
    · exact (he2.mono fun _ _ h => h.elim).transS (he3.mono fun c _ e => by simp [show c = kb from e])
    · rcases List.mem_cons.1 hc with rfl | hc
      · exact .inl (by simp)
      · rcases hs2 c (by simp [hc]) with h | h
        · cases h
        · exact .inr h
end
end Go.Proofs.YtbleadagnpckbaaGreatDoor
end
section
namespace Go.Proofs.YtbleadagnpckbaaGreatDoor
open Go Go.RowKit X
set_option linter.unusedSimpArgs false
set_option linter.unusedVariables false

theorem kindN_mem {n : Nat} (h : n ≤ 256) : kindN n ∈ kinds := by
  unfold kindN kinds
  repeat' split
  all_goals first | omega | simp
theorem kindN_ge {n : Nat} (h : n ≤ 256) : n ≤ kindN n := kindN_le h
theorem kindN_room {n : Nat} (h : n < kindN n) : kindN (n + 1) = kindN n := by
  unfold kindN at *
  repeat' split
  all_goals first | rfl | omega | (split at h <;> omega)
/-- kids in the room that their number asks; or none -/
def Ks (w : World) (ks : List Nat) (m : UInt8 → Option Addr) : Prop := if ks = [] then m = fun _ => none else Kd w ks (kindN (cnt m)) m
theorem Ks.nil (w : World) : Ks w [] (fun _ => none) := rfl
theorem Ks.mk {w : World} {ks : List Nat} {m : UInt8 → Option Addr} (hne : ks ≠ []) (h : Kd w ks (kindN (cnt m)) m) : Ks w ks m := by unfold Ks; rw [if_neg hne]; exact h
theorem Ks.kd {w : World} {ks : List Nat} {m : UInt8 → Option Addr} (h : Ks w ks m) (hne : ks ≠ []) : Kd w ks (kindN (cnt m)) m := by unfold Ks at h; rw [if_neg hne] at h; exact h
theorem Ks.any {w : World} {ks : List Nat} {m : UInt8 → Option Addr} (h : Ks w ks m) : ∃ room, Kd w ks room m ∧ (ks ≠ [] → room = kindN (cnt m)) := by
  by_cases e : ks = []
  · subst e
    exact ⟨0, .inl ⟨rfl, rfl, h⟩, fun h => absurd rfl h⟩
  · exact ⟨_, h.kd e, fun _ => rfl⟩
theorem Ks.ext {X : Nat → Prop} {w w' : World} {ks : List Nat} {m : UInt8 → Option Addr} (h : Ks w ks m) (e : Ext X w w') (hx : ∀ b ∈ ks, ¬ X b) : Ks w' ks m := by
  by_cases hk : ks = []
  · subst hk; exact h
  · exact Ks.mk hk ((h.kd hk).ext e hx)
theorem Ks.extN {w w' : World} {ks : List Nat} {m : UInt8 → Option Addr} (h : Ks w ks m) (e : Ext No w w') : Ks w' ks m := h.ext e fun _ _ h => h
theorem Ks.ty {w : World} {ks : List Nat} {m : UInt8 → Option Addr} (h : Ks w ks m) : ∀ b ∈ ks, ∃ cs T, Blk w b cs T ∧ KT T := by
  obtain ⟨r, hr, -⟩ := h.any
  exact hr.ty
theorem Ks.lt {w : World} {ks : List Nat} {m : UInt8 → Option Addr} (h : Ks w ks m) {b : Nat} (hb : b ∈ ks) : b < w.heap.size := by
  obtain ⟨cs, T, h1, -⟩ := h.ty b hb
  exact h1.lt

section
variable {w : World} {ks : List Nat} {m : UInt8 → Option Addr}
theorem c_KsLen (h : Ks w ks m) : Ret P n_kids_Kids_Len [kptr ks] w fun v w' => v = .int .i64 (cnt m) ∧ w' = w := by
  obtain ⟨r, hr, -⟩ := h.any
  exact c_KLen hr
theorem c_KsKind (h : Ks w ks m) (hne : ks ≠ []) : Ret P n_kids_Kids_Kind [kptr ks] w fun v w' => v = .int .i64 (kindN (cnt m)) ∧ w' = w := c_KKind (h.kd hne)
theorem c_KsGet (h : Ks w ks m) {b : UInt8} : Ret P n_kids_Kids_Get [kptr ks, bv b] w fun v w' => v = getV m b ∧ Ext No w w' := by
  obtain ⟨r, hr, -⟩ := h.any
  exact c_KGet hr
theorem c_KsNext (h : Ks w ks m) {i : Nat} (hi : i ≤ 256) : Ret P n_kids_Kids_Next [kptr ks, .int .i64 i] w fun v w' => v = nextV m i ∧ Ext No w w' := by
  obtain ⟨r, hr, -⟩ := h.any
  exact c_KNext hr hi
theorem c_KsNew : Ret P n_kids_New_Node [] w fun v w' => ∃ ks, v = kptr ks ∧ ks ≠ [] ∧ Ks w' ks (fun _ => none) ∧ Ext No w w' ∧ Sub [] ks w.heap.size := by
  refine c_KNew.mono ?_
  rintro v w' ⟨ks, h1, h2, h3, h4, h5⟩
  exact ⟨ks, h1, h2, Ks.mk h2 (by
    have : kindN (cnt (fun _ => none : UInt8 → Option Addr)) = 4 := by simp [cnt, dom_none, kindN]
    rw [this]; exact h3), h4, h5⟩
theorem kptr_ne (hne : ks ≠ []) : ∃ kb, kptr ks = rp kb := by
  cases ks with
  | nil => exact absurd rfl hne
  | cons a r => exact ⟨a, rfl⟩
theorem Sub.trans {ks ks' ks'' : List Nat} {n n' : Nat} (h : Sub ks ks' n) (h' : Sub ks' ks'' n') (hn : n ≤ n') : Sub ks ks'' n := fun c hc => by
  rcases h' c hc with h1 | h1
  · exact h c h1
  · exact .inr (by omega)
theorem c_KsSet (h : Ks w ks m) (hne : ks ≠ []) {b : UInt8} {x : Addr} : Ret P n_kids_Kids_Set [kptr ks, bv b, .pointer (some x)] w fun v w' =>
    v = .int .i64 0 ∧ ∃ ks', Ks w' ks' (upd m b (some x)) ∧ ks' ≠ [] ∧ kptr ks' = kptr ks ∧ Ext (· ∈ ks) w w' ∧ Sub ks ks' w.heap.size := by
  have hk := h.kd hne
  have hle := cnt_le m
  have hup := cnt_upd m b (some x)
  refine W_kids_Kids_Set ?_
  refine (c_KOk hk).mono ?_
  rintro v w' ⟨rfl, rfl⟩
  have hemp : ks.isEmpty = false := by cases ks with | nil => exact absurd rfl hne | cons => rfl
  rw [hemp]
  refine xifF rfl ?_
  -- where it is put there is room
  refine xj (fun vs w1 => ∃ ks1, Kd w1 ks1 (kindN (cnt (upd m b (some x)))) m ∧ ks1 ≠ [] ∧ kptr ks1 = kptr ks ∧ Ext (· ∈ ks) w' w1 ∧ Sub ks ks1 w'.heap.size) ?_ ?_
  · refine (c_KGet hk).mono ?_
    rintro v w1 ⟨rfl, he1⟩
    have hk1 := hk.extN he1
    refine xjd ?_
    cases hm : m b with
    | some y =>
      refine xifF (by simp [hm]) ?_
      intro g
      refine xifF rfl ?_
      rw [hm] at hup
      simp at hup
      rw [hup]
      exact ⟨ks, hk1, hne, rfl, he1.mono fun _ _ h => h.elim, fun c hc => .inl hc⟩
    | none =>
      refine xifT (by simp [hm]) ?_
      rw [hm] at hup
      simp at hup
      refine (c_KLen hk1).mono ?_
      rintro v w2 ⟨rfl, rfl⟩
      refine (c_KKind hk1).mono ?_
      rintro v w3 ⟨rfl, rfl⟩
      intro g
      have hlt : cnt m < 256 := by
        rcases Nat.lt_or_ge (cnt m) 256 with h1 | h1
        · exact h1
        · have := cnt_full (m := m) (by omega) b
          rw [hm] at this; cases this
      refine xifE (fun he => ?_) fun he => ?_
      · refine (c_KLen hk1).mono ?_
        rintro v w4 ⟨rfl, rfl⟩
        refine xi (r := ((cnt m + 1 : Nat) : Int)) (by rw [wrapI (by omega)]; omega) ?_
        refine (c_KindOf (by omega)).mono ?_
        rintro v w5 ⟨rfl, he5⟩
        refine (c_KMove (hk1.extN he5) hne (kindN_mem (by omega)) (by have := kindN_ge (n := cnt m + 1) (by omega); omega)).mono ?_
        rintro v w6 ⟨ks', hk', hne', hp', he6, hs'⟩
        rw [hup]
        have s1 := he1.size
        have s5 := he5.size
        refine ⟨ks', hk', hne', hp', ((he1.transN he5).mono fun _ _ h => h.elim).transS he6, fun c hc => ?_⟩
        rcases hs' c hc with h | h
        · exact .inl h
        · exact .inr (by omega)
      · rw [hup, kindN_room (by have := kindN_ge (n := cnt m) (by omega); omega)]
        exact ⟨ks, hk1, hne, rfl, he1.mono fun _ _ h => h.elim, fun c hc => .inl hc⟩
  · rintro vs g w1 ⟨ks1, hk1, hne1, hp1, he1, hs1⟩
    rw [← hp1]
    have hge := kindN_ge (cnt_le (upd m b (some x)))
    refine (c_KPut hk1 hne1 (b := b) (x := x) ?_).mono ?_
    · cases hm : m b with
      | some y => exact .inr rfl
      | none =>
        rw [hm] at hup
        simp at hup
        exact .inl (by omega)
    · rintro v w2 ⟨ks2, hk2, hne2, hp2, he2, hs2⟩
      refine ⟨rfl, ks2, Ks.mk hne2 hk2, hne2, hp2, he1.trans he2 fun c hc h => ?_, hs1.trans hs2 he1.size⟩
      rcases hs1 c h with h | h
      · exact h
      · omega
theorem c_KsDrop (h : Ks w ks m) (hne : ks ≠ []) {b : UInt8} (hb : (m b).isSome) : Ret P n_kids_Kids_Drop [kptr ks, bv b] w fun v w' =>
    v = .int .i64 0 ∧ ∃ ks', Ks w' ks' (upd m b none) ∧ ks' ≠ [] ∧ kptr ks' = kptr ks ∧ Ext (· ∈ ks) w w' ∧ Sub ks ks' w.heap.size := by
  have hk := h.kd hne
  have hle := cnt_le (upd m b none)
  refine W_kids_Kids_Drop ?_
  refine (c_KOk hk).mono ?_
  rintro v w' ⟨rfl, rfl⟩
  have hemp : ks.isEmpty = false := by cases ks with | nil => exact absurd rfl hne | cons => rfl
  rw [hemp]
  refine xifF rfl ?_
  refine xj (fun vs w1 => vs = [.int .i64 0] ∧ ∃ ks1, Kd w1 ks1 (kindN (cnt m)) (upd m b none) ∧ ks1 ≠ [] ∧ kptr ks1 = kptr ks ∧ Ext (· ∈ ks) w' w1 ∧ Sub ks ks1 w'.heap.size) ?_ ?_
  · rcases hk with ⟨rfl, -, -⟩ | ⟨kb, rb, l, rfl, h1, h2, rfl⟩ | ⟨kb, bb, n, xv, fv, a, xs, fs, rfl, h1, h2, h3⟩
    · exact absurd rfl hne
    · refine h1.ld (v := rp rb) rfl ?_
      refine xifT rfl ?_
      refine h1.ld (v := rp rb) rfl ?_
      refine (c_RowDrop h2 hb).mono ?_
      rintro v w' ⟨rfl, he, l', h4, h5⟩
      refine ⟨rfl, [kb, rb], .inr (.inl ⟨kb, rb, l', rfl, h1.ext he (h1.ne h2.blk (by decide)), h4, h5⟩), by simp, rfl, he.mono fun b _ hb => by simp [show b = rb from hb], fun c hc => .inl hc⟩
    · refine h1.ld (v := .pointer none) rfl ?_
      refine xifF rfl ?_
      refine h1.ld (v := rp bb) rfl ?_
      refine (c_BrdDrop h2 h3 hb).mono ?_
      rintro v w' ⟨rfl, n', xv', fv', a', xs', fs', h4, h5, he, hfr⟩
      refine ⟨rfl, _, .inr (.inr ⟨kb, bb, n', xv', fv', a', xs', fs', rfl, h1.ext he fun hb => ?_, h4, h5⟩), by simp, rfl, he.mono fun b _ hb => mem_BX.2 (.inr hb), fun c hc => ?_⟩
      · rcases hb with hb | hb | hb
        · exact h1.ne h2.blk (by decide) hb
        · exact h2.xo.ne h1 (by decide) hb
        · exact h2.fo.ne h1 (by decide) hb
      · rcases mem_BX.1 hc with rfl | hc
        · exact .inl (by simp)
        · rcases hfr c hc with h | h
          · exact .inl (mem_BX.2 (.inr h))
          · exact .inr h
  · rintro vs g w1 ⟨rfl, ks1, hk1, hne1, hp1, he1, hs1⟩
    rw [← hp1]
    refine xjd ?_
    refine (c_KLen hk1).mono ?_
    rintro v w2 ⟨rfl, rfl⟩
    refine (c_KindOf hle).mono ?_
    rintro v w3 ⟨rfl, he3⟩
    refine (c_KKind (hk1.extN he3)).mono ?_
    rintro v w4 ⟨rfl, rfl⟩
    refine xifN (fun hn => ?_) fun he => ?_
    · refine (c_KMove (hk1.extN he3) hne1 (kindN_mem hle) (kindN_ge hle)).mono ?_
      rintro v w5 ⟨ks2, hk2, hne2, hp2, he5, hs2⟩ g
      have s3 := he3.size
      have s1 := he1.size
      refine ⟨rfl, ks2, Ks.mk hne2 hk2, hne2, hp2, (he1.transN he3).trans he5 fun c hc h => ?_, hs1.trans hs2 (by omega)⟩
      rcases hs1 c h with h | h
      · exact h
      · omega
    · intro g
      have e : kindN (cnt (upd m b none)) = kindN (cnt m) := by omega
      exact ⟨rfl, ks1, Ks.mk hne1 (by rw [e]; exact hk1.extN he3), hne1, rfl, he1.transN he3, hs1⟩
theorem c_RowCopyNil : Ret P n_small_Row_Copy [.pointer none] w fun v w' => v = .pointer none ∧ w' = w := by
  refine W_small_Row_Copy ?_
  refine c_RowNil.mono ?_
  rintro v w' ⟨rfl, rfl⟩
  exact ⟨rfl, rfl⟩
theorem c_BrdCopyNil : Ret P n_wide_Board_Copy [.pointer none] w fun v w' => v = .pointer none ∧ w' = w := by
  refine W_wide_Board_Copy ?_
  refine c_BrdNil.mono ?_
  rintro v w' ⟨rfl, rfl⟩
  exact ⟨rfl, rfl⟩
theorem c_KCopy {room : Nat} (h : Kd w ks room m) (hne : ks ≠ []) : Ret P n_kids_Kids_Copy [kptr ks] w fun v w' => ∃ ks', v = kptr ks' ∧ ks' ≠ [] ∧ Kd w' ks' room m ∧ Ext No w w' ∧ Sub [] ks' w.heap.size := by
  refine W_kids_Kids_Copy ?_
  refine (c_KOk h).mono ?_
  rintro v w' ⟨rfl, rfl⟩
  rcases h with ⟨rfl, rfl, rfl⟩ | ⟨kb, rb, l, rfl, h1, h2, rfl⟩ | ⟨kb, bb, n, xv, fv, a, xs, fs, rfl, h1, h2, h3⟩
  · exact absurd rfl hne
  · refine xifF rfl ?_
    refine h1.drew.ld (v := rp rb) rfl ?_
    refine h1.drew.ld (v := .pointer none) rfl ?_
    refine (c_RowCopy h2.drew).mono ?_
    rintro v w1 ⟨b, rfl, hb, hrow, he⟩
    refine ⟨by
      have := (h1.drew.ext he fun h => h).cell 1
      exact this, ?_⟩
    refine c_BrdCopyNil.mono ?_
    rintro v w2 ⟨rfl, rfl⟩
    refine xnew fun nb w3 hnb hblk hz he3 => ?_
    have s1 := he.size
    have s2 : w'.drew.heap.size = w'.heap.size := rfl
    refine ⟨[nb, b], rfl, by simp, .inr (.inl ⟨nb, b, l, rfl, hblk, hrow.ext he3 fun h => h, rfl⟩), he.undrew.transN he3, fun c hc => .inr ?_⟩
    simp only [List.mem_cons, List.mem_nil_iff, or_false] at hc
    rcases hc with rfl | rfl <;> omega
  · refine xifF rfl ?_
    refine h1.drew.ld (v := .pointer none) rfl ?_
    refine h1.drew.ld (v := rp bb) rfl ?_
    refine c_RowCopyNil.mono ?_
    rintro v w1 ⟨rfl, rfl⟩
    refine ⟨by
      have := h1.drew.cell 1
      exact this, ?_⟩
    refine (c_BrdCopy h2.drew h3).mono ?_
    rintro v w2 ⟨b, xv', fv', rfl, hm, he, hfr⟩
    refine xnew fun nb w3 hnb hblk hz he3 => ?_
    have s1 := he.size
    have s2 : w'.drew.heap.size = w'.heap.size := rfl
    refine ⟨_, rfl, by simp, .inr (.inr ⟨nb, b, n, xv', fv', a, xs, fs, rfl, hblk, hm.extN he3, h3⟩), he.undrew.transN he3, fun c hc => .inr ?_⟩
    rcases mem_BX.1 hc with rfl | hc
    · omega
    · exact hfr c hc
theorem c_KsCopy (h : Ks w ks m) : Ret P n_kids_Kids_Copy [kptr ks] w fun v w' => ∃ ks', v = kptr ks' ∧ (ks' = [] ↔ ks = []) ∧ Ks w' ks' m ∧ Ext No w w' ∧ Sub [] ks' w.heap.size := by
  by_cases e : ks = []
  · subst e
    refine W_kids_Kids_Copy ?_
    refine (c_KOk (ks := []) (.inl ⟨rfl, rfl, rfl⟩)).mono ?_
    rintro v w' ⟨rfl, rfl⟩
    refine xifT rfl ⟨[], rfl, Iff.rfl, h, Ext.refl _ _, fun c hc => by cases hc⟩
  · refine (c_KCopy (h.kd e) e).mono ?_
    rintro v w' ⟨ks', h1, h2, h3, h4, h5⟩
    exact ⟨ks', h1, ⟨fun h => absurd h h2, fun h => absurd h e⟩, Ks.mk h2 h3, h4, h5⟩
end
end Go.Proofs.YtbleadagnpckbaaGreatDoor
end
