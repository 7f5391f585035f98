/-  pairs in memory.  -/
import Derived.Test.YtbfnagdpanfphaaGreatDoorKeys
import Derived.Test.YtbfnagdpanfphaaGreatDoorMap
import Derived.Test.YtbfnagdpanfphaaGreatDoorNode
section
namespace Go.Proofs.YtbfnagdpanfphaaGreatDoor
open Go Go.RowKit X
set_option linter.unusedSimpArgs false
set_option linter.unusedVariables false
set_option linter.unusedSectionVars false
theorem ei_api : EI P T_s_api_Pair T_api_Pair 2 32 (.agg #[.slice none 0 0, .int .u64 0]) := ⟨by kernel_rfl, by kernel_rfl, by rfl, by omega⟩
theorem ei_ref : EI P T_s_ref01_Pair T_ref01_Pair 2 32 (.agg #[.slice none 0 0, .int .u64 0]) := ⟨by kernel_rfl, by kernel_rfl, by rfl, by omega⟩
variable [Floor]
abbrev u64 (n : Nat) : Value := .int .u64 n
/-- cells of pairs -/
structure PC (w : World) (l : Kv) (cells : List Value) : Prop where
  len : cells.length = l.length * 2
  at_ : ∀ i p, l[i]? = some p → ∃ kv, cells[i * 2]? = some kv ∧ Bs w kv p.1 ∧ cells[i * 2 + 1]? = some (u64 p.2) ∧ p.2 < 18446744073709551616
/-- what is written is no bytes, and no pairs -/
def PT (T : TypeId) : Prop := T = T_api_Pair ∨ T = T_ref01_Pair
/-- v is a slice of these pairs -/
def Ps (w : World) (v : Value) (l : Kv) : Prop := ∃ T cells, PT T ∧ Sl w (QT T) v 2 l.length cells ∧ PC w l cells
/-- .. which the call itself made -/
def PsO (w : World) (B : Nat) (T : TypeId) (v : Value) (l : Kv) : Prop := ∃ cells, Own w B T 2 v l.length cells ∧ PC w l cells

theorem PC.nil (w : World) : PC w [] [] := ⟨rfl, fun i p h => by cases h⟩
theorem PC.ext {X : Nat → Prop} {w w' : World} {l : Kv} {cells : List Value} (h : PC w l cells) (e : Ext X w w') (hx : NB w X) : PC w' l cells :=
  ⟨h.len, fun i p hp => let ⟨kv, h1, h2, h3⟩ := h.at_ i p hp; ⟨kv, h1, h2.ext e hx, h3⟩⟩
theorem PC.extN {w w' : World} {l : Kv} {cells : List Value} (h : PC w l cells) (e : Ext No w w') : PC w' l cells := h.ext e (NB.no w)
theorem PC.one {w : World} {l : Kv} {cells : List Value} (h : PC w l cells) : ∀ u ∈ cells, u.oneCell' = true := by
  intro u hu
  obtain ⟨j, hj, rfl⟩ := List.mem_iff_getElem.1 hu
  have hj2 : j / 2 < l.length := by have := h.len; omega
  obtain ⟨kv, h1, h2, h3, -⟩ := h.at_ (j / 2) l[j / 2] (List.getElem?_eq_getElem hj2)
  rcases Nat.mod_two_eq_zero_or_one j with e | e
  · rw [show j / 2 * 2 = j by omega, List.getElem?_eq_getElem hj] at h1
    obtain ⟨a, cap, rfl⟩ := h2.slice
    rw [Option.some.inj h1]; rfl
  · rw [show j / 2 * 2 + 1 = j by omega, List.getElem?_eq_getElem hj] at h3
    rw [Option.some.inj h3]; rfl
theorem PC.app {w : World} {l m : Kv} {cs ds : List Value} (h : PC w l cs) (k : PC w m ds) : PC w (l ++ m) (cs ++ ds) := by
  refine ⟨by simp [h.len, k.len]; omega, fun i p hp => ?_⟩
  have hl := h.len
  rcases Nat.lt_or_ge i l.length with hi | hi
  · rw [List.getElem?_append_left hi] at hp
    rw [List.getElem?_append_left (by omega), List.getElem?_append_left (by omega)]
    exact h.at_ i p hp
  · rw [List.getElem?_append_right hi] at hp
    rw [List.getElem?_append_right (by omega), List.getElem?_append_right (by omega), hl, show i * 2 - l.length * 2 = (i - l.length) * 2 by omega, show i * 2 + 1 - l.length * 2 = (i - l.length) * 2 + 1 by omega]
    exact k.at_ _ p hp
theorem PC.sing {w : World} {k : Key} {n : Nat} {kv : Value} (h : Bs w kv k) (hn : n < 18446744073709551616) : PC w [(k, n)] [kv, u64 n] := by
  refine ⟨rfl, fun i p hp => ?_⟩
  cases i with
  | zero =>
    simp at hp
    subst hp
    exact ⟨kv, rfl, h, rfl, hn⟩
  | succ i => simp at hp
theorem PC.drop {w : World} {l : Kv} {cs : List Value} (h : PC w l cs) (n : Nat) : PC w (l.drop n) (cs.drop (n * 2)) := by
  refine ⟨by rw [List.length_drop, List.length_drop, h.len]; omega, fun i p hp => ?_⟩
  rw [List.getElem?_drop] at hp
  obtain ⟨kv, h1, h2⟩ := h.at_ _ p hp
  refine ⟨kv, ?_, ?_⟩
  · rw [List.getElem?_drop, show n * 2 + i * 2 = (n + i) * 2 by omega]; exact h1
  · rw [List.getElem?_drop, show n * 2 + (i * 2 + 1) = (n + i) * 2 + 1 by omega]; exact h2
theorem PC.take {w : World} {l : Kv} {cs : List Value} (h : PC w l cs) (n : Nat) : PC w (l.take n) (cs.take (n * 2)) := by
  refine ⟨by rw [List.length_take, List.length_take, h.len]; omega, fun i p hp => ?_⟩
  rw [List.getElem?_take] at hp
  split at hp
  · obtain ⟨kv, h1, h2⟩ := h.at_ _ p hp
    refine ⟨kv, ?_, ?_⟩
    · rw [List.getElem?_take, if_pos (by omega)]; exact h1
    · rw [List.getElem?_take, if_pos (by omega)]; exact h2
  · cases hp
/-- one pair is written -/
theorem PC.set {w : World} {l : Kv} {cs : List Value} (h : PC w l cs) {i : Nat} {k : Key} {n : Nat} {kv : Value} (hk : Bs w kv k) (hn : n < 18446744073709551616) : PC w (l.set i (k, n)) ((cs.set (i * 2) kv).set (i * 2 + 1) (u64 n)) := by
  refine ⟨by simp [h.len], fun j p hp => ?_⟩
  have hl := h.len
  rw [List.getElem?_set] at hp
  split at hp
  · rename_i e
    subst e
    split at hp
    · cases hp
      refine ⟨kv, ?_, hk, ?_, hn⟩
      · rw [List.getElem?_set_ne (by omega), List.getElem?_set_self (by omega)]
      · rw [List.getElem?_set_self (by simp; omega)]
    · cases hp
  · obtain ⟨kv', h1, h2, h3, h4⟩ := h.at_ j p hp
    refine ⟨kv', ?_, h2, ?_, h4⟩
    · rw [List.getElem?_set_ne (by omega), List.getElem?_set_ne (by omega)]; exact h1
    · rw [List.getElem?_set_ne (by omega), List.getElem?_set_ne (by omega)]; exact h3
/-- a value is written -/
theorem PC.setV {w : World} {l : Kv} {cs : List Value} (h : PC w l cs) {i : Nat} {q : Key × Nat} (hi : l[i]? = some q) {n : Nat} (hn : n < 18446744073709551616) : PC w (l.set i (q.1, n)) (cs.set (i * 2 + 1) (u64 n)) := by
  obtain ⟨kv, h1, h2, h3, h4⟩ := h.at_ i q hi
  have := h.set (i := i) h2 hn
  have e : cs.set (i * 2) kv = cs := by
    apply List.ext_getElem?
    intro j
    rw [List.getElem?_set]
    split
    · rename_i e; subst e
      split
      · exact h1.symm
      · rename_i hh
        rw [List.getElem?_eq_none (by omega)]
    · rfl
  rwa [e] at this
/-- a key is written -/
theorem PC.setK {w : World} {l : Kv} {cs : List Value} (h : PC w l cs) {i : Nat} {q : Key × Nat} (hi : l[i]? = some q) {k : Key} {kv : Value} (hk : Bs w kv k) : PC w (l.set i (k, q.2)) (cs.set (i * 2) kv) := by
  obtain ⟨kv', h1, h2, h3, h4⟩ := h.at_ i q hi
  have := h.set (i := i) hk h4
  have e : (cs.set (i * 2) kv).set (i * 2 + 1) (u64 q.2) = cs.set (i * 2) kv := by
    apply List.ext_getElem?
    intro j
    rw [List.getElem?_set]
    split
    · rename_i e; subst e
      rw [List.getElem?_set_ne (by omega), h3]
      split
      · rfl
      · rename_i hh
        simp at hh
        have := (List.getElem?_eq_some_iff.1 h3).1
        omega
    · rfl
  rwa [e] at this

section
variable {w w' : World} {v : Value} {l : Kv} {B : Nat} {T : TypeId}
theorem Ps.nil (w : World) : Ps w (.slice none 0 0) [] := ⟨T_api_Pair, [], .inl rfl, Sl.nil, PC.nil w⟩
theorem Ps.extN (h : Ps w v l) (e : Ext No w w') : Ps w' v l := let ⟨T, cells, hT, h1, h2⟩ := h; ⟨T, cells, hT, h1.extN e, h2.extN e⟩
/-- what is written is neither bytes nor pairs -/
structure NBP (w : World) (X : Nat → Prop) : Prop where
  b : NB w X
  p : NBT T_api_Pair w X
  q : NBT T_ref01_Pair w X
theorem NBP.t {X : Nat → Prop} (h : NBP w X) {T : TypeId} (hT : PT T) : NBT T w X := by
  rcases hT with rfl | rfl
  · exact h.p
  · exact h.q
theorem Ps.ext {X : Nat → Prop} (h : Ps w v l) (e : Ext X w w') (hx : NBP w X) : Ps w' v l := let ⟨T, cells, hT, h1, h2⟩ := h; ⟨T, cells, hT, h1.extQ e (hx.t hT), h2.ext e hx.b⟩
theorem Mt.nbp {mt : Option Mtr} {k : Nat} (h : Mt w mt k) : NBP w (MX mt) := ⟨h.nb, h.nbt (by decide), h.nbt (by decide)⟩
theorem Ps.mt {mt : Option Mtr} {k : Nat} (h : Ps w v l) (e : Ext (MX mt) w w') (hm : Mt w mt k) : Ps w' v l := h.ext e hm.nbp
theorem PsO.ps (h : PsO w B T v l) (hT : PT T) : Ps w v l := let ⟨cells, h1, h2⟩ := h; ⟨T, cells, hT, h1.sl.weak fun _ _ h => .inl h, h2⟩
theorem PsO.nil (w : World) (B : Nat) (T : TypeId) : PsO w B T (.slice none 0 0) [] := ⟨[], Own.nil w B T 2, PC.nil w⟩
theorem PsO.extN (h : PsO w B T v l) (e : Ext No w w') : PsO w' B T v l := let ⟨cells, h1, h2⟩ := h; ⟨cells, h1.extN e, h2.extN e⟩
theorem PsO.mono {B' : Nat} (h : PsO w B T v l) (hb : B' ≤ B) : PsO w B' T v l := let ⟨cells, h1, h2⟩ := h; ⟨cells, h1.mono hb, h2⟩
theorem Ps.slice (h : Ps w v l) : ∃ a cap, v = .slice a l.length cap := let ⟨_, _, _, ⟨a, cap, e, _⟩, _⟩ := h; ⟨a, cap, e⟩
theorem Ps.one1 (h : Ps w v l) : v.oneCell' = true := by obtain ⟨a, cap, rfl⟩ := h.slice; rfl
theorem Ps.len {K : Value → Prop} (h : Ps w v l) (k : K (.int .i64 l.length)) : xLen v K := let ⟨_, _, _, h1, _⟩ := h; xLen_sl h1 k
theorem Ps.get (h : Ps w v l) {m : Nat} (hm : m < l.length) : l[m].2 < 18446744073709551616 := let ⟨_, _, _, _, h2⟩ := h; let ⟨_, _, _, _, h3⟩ := h2.at_ m l[m] (List.getElem?_eq_getElem hm); h3
theorem Ps.v64 (h : Ps w v l) : ∀ p ∈ l, p.2 < 18446744073709551616 := fun p hp => by
  obtain ⟨i, hi, rfl⟩ := List.mem_iff_getElem.1 hp
  exact h.get hi
/-- the key of an element -/
theorem Ps.key {K : Value → Prop} {kd : IntKind} {i : Int} (h : Ps w v l) (m : Nat) (hi : i = (m : Int)) (hm : m < l.length) (k : ∀ kv, Bs w kv l[m].1 → K kv) : xIxS v (.int kd i) 2 fun u => xFld u 0 fun p => xAt p fun a => XLd w a K := by
  obtain ⟨T, cells, hT, h1, h2⟩ := h
  obtain ⟨kv, h3, h4, -⟩ := h2.at_ m l[m] (List.getElem?_eq_getElem hm)
  exact h1.rdF m hi hm (by omega) h3 (k kv h4)
theorem Ps.val {K : Value → Prop} {kd : IntKind} {i : Int} (h : Ps w v l) (m : Nat) (hi : i = (m : Int)) (hm : m < l.length) (k : K (u64 l[m].2)) : xIxS v (.int kd i) 2 fun u => xFld u 1 fun p => xAt p fun a => XLd w a K := by
  obtain ⟨T, cells, hT, h1, h2⟩ := h
  obtain ⟨kv, -, -, h3, -⟩ := h2.at_ m l[m] (List.getElem?_eq_getElem hm)
  exact h1.rdF m hi hm (by omega) h3 k
/-- a whole element -/
theorem Ps.rd {K : Value → Prop} {kd : IntKind} {i : Int} (h : Ps w v l) (m : Nat) (hi : i = (m : Int)) (hm : m < l.length) (k : ∀ kv, Bs w kv l[m].1 → K (.agg #[kv, u64 l[m].2])) : xIxS v (.int kd i) 2 fun u => xAt u fun a => XLdN w a 2 K := by
  obtain ⟨T, cells, hT, h1, h2⟩ := h
  obtain ⟨kv, h3, h4, h5, -⟩ := h2.at_ m l[m] (List.getElem?_eq_getElem hm)
  refine h1.rdN m hi hm ?_
  have hl := h2.len
  have : (cells.drop (m * 2)).take 2 = [kv, u64 l[m].2] := by
    apply List.ext_getElem?
    intro j
    rw [List.getElem?_take]
    match j with
    | 0 => rw [if_pos (by omega), List.getElem?_drop, Nat.add_zero, h3]; rfl
    | 1 => rw [if_pos (by omega), List.getElem?_drop, h5]; rfl
    | j + 2 => rw [if_neg (by omega)]; rfl
  rw [this]
  exact k kv h4
theorem Ps.drop {K : Value → Prop} {kd : IntKind} {i : Int} (h : Ps w v l) (n : Nat) (hi : i = (n : Int)) (hn : n ≤ l.length) (k : ∀ v', Ps w v' (l.drop n) → K v') : xCutS 2 v (some (.int kd i)) none none K := by
  obtain ⟨T, cells, hT, h1, h2⟩ := h
  exact h1.cutL n hi hn fun v' hv => k v' ⟨T, _, hT, by rw [List.length_drop]; exact hv, h2.drop n⟩
theorem Ps.take {K : Value → Prop} {kd : IntKind} {i : Int} (h : Ps w v l) (n : Nat) (hi : i = (n : Int)) (hn : n ≤ l.length) (k : ∀ v', Ps w v' (l.take n) → K v') : xCutS 2 v none (some (.int kd i)) none K := by
  obtain ⟨T, cells, hT, h1, h2⟩ := h
  exact h1.cutH n hi hn fun v' hv => k v' ⟨T, _, hT, by rw [List.length_take, Nat.min_eq_left hn]; exact hv, h2.take n⟩
theorem Ps.part {K : Value → Prop} {kd kd' : IntKind} {i j : Int} (h : Ps w v l) (n m : Nat) (hi : i = (n : Int)) (hj : j = (m : Int)) (hn : n ≤ m) (hm : m ≤ l.length) (k : ∀ v', Ps w v' ((l.drop n).take (m - n)) → K v') : xCutS 2 v (some (.int kd i)) (some (.int kd' j)) none K := by
  obtain ⟨T, cells, hT, h1, h2⟩ := h
  exact h1.cutB n m hi hj hn hm fun v' hv => k v' ⟨T, _, hT, by rw [List.length_take, List.length_drop, Nat.min_eq_left (by omega)]; exact hv, (h2.drop n).take _⟩
end
end Go.Proofs.YtbfnagdpanfphaaGreatDoor
end
section
namespace Go.Proofs.YtbfnagdpanfphaaGreatDoor
open Go Go.RowKit X
set_option linter.unusedSimpArgs false
set_option linter.unusedVariables false
set_option linter.unusedSectionVars false
section
variable {P : Program} {w : World} {B : Nat} {e : TypeId} {sz n : Nat} {v : Value} {xs : List Value}
/-- a slice of the call's own with an element has a block -/
theorem Own.blk (h : Own w B e sz v n xs) (hn : 0 < n) : ∃ g cap cur, v = .slice (some ⟨g, 0, none⟩) n cap ∧ B ≤ g ∧ Blk w g cur e ∧ n ≤ cap ∧ cap ≤ maxLen ∧ cur.length = cap * sz ∧ cur.take (n * sz) = xs := by
  rcases h.2 with ⟨-, h0⟩ | ⟨g, cap, cur, rfl, h1, h2, h3, h4, h5, h6⟩
  · omega
  · exact ⟨g, cap, cur.toList, rfl, h1, ⟨h2⟩, h3, h4, by simpa using h5, h6⟩
theorem Own.of {g cap : Nat} {cur : List Value} (h1 : B ≤ g) (h2 : Blk w g cur e) (h3 : n ≤ cap) (h4 : cap ≤ maxLen) (h5 : cur.length = cap * sz) (h6 : cur.take (n * sz) = xs) (h7 : xs.length = n * sz) : Own w B e sz (.slice (some ⟨g, 0, none⟩) n cap) n xs :=
  ⟨h7, .inr ⟨g, cap, cur.toArray, rfl, h1, h2.h, h3, h4, by simpa using h5, by simpa using h6⟩⟩
/-- a cell of an element is written -/
theorem Own.st {K : World → Prop} {kd : IntKind} {i : Int} {x : Value} (h : Own w B e sz v n xs) (m o : Nat) (hi : i = (m : Int)) (hm : m < n) (ho : o < sz) (hx : x.oneCell' = true)
    (k : ∀ w1, Own w1 B e sz v n (xs.set (m * sz + o) x) → w1.heap.size = w.heap.size → Ext (fun b => v.ownBlock = some b) w w1 → K w1) :
    xIxS v (.int kd i) sz fun u => xFld u o fun p => xAt p fun a => XSt w a x K := by
  obtain ⟨g, cap, cur, rfl, h1, h2, h3, h4, h5, h6⟩ := Own.blk h (Nat.lt_of_le_of_lt (Nat.zero_le m) hm)
  have hle : (m + 1) * sz ≤ n * sz := Nat.mul_le_mul_right sz hm
  rw [Nat.succ_mul] at hle
  have hle2 : n * sz ≤ cap * sz := Nat.mul_le_mul_right sz h3
  refine ⟨m, hi, hm, ?_⟩
  show XSt w (((⟨g, 0, none⟩ : Addr).add (m * sz)).add o) x K
  rw [Addr.add_lit, Addr.add_lit, Nat.zero_add]
  refine h2.st (by omega) hx fun w1 hb1 hz1 he1 => k w1 (Own.of h1 hb1 h3 h4 (by simp [h5]) ?_ (by simp [h.1])) hz1 (he1.mono fun b _ e => by rw [e]; rfl)
  rw [List.take_set, h6]
/-- a whole element is written -/
theorem Own.stN {K : World → Prop} {kd : IntKind} {i : Int} {t : TypeId} {vs : List Value} (h : Own w B e sz v n xs) (m : Nat) (hi : i = (m : Int)) (hm : m < n) (hv : vs.length = sz) (ht : (P.info? t).map (·.size) = some vs.length) (hx : ∀ x ∈ vs, x.oneCell' = true)
    (k : ∀ w1, Own w1 B e sz v n (xs.take (m * sz) ++ vs ++ xs.drop (m * sz + sz)) → w1.heap.size = w.heap.size → Ext (fun b => v.ownBlock = some b) w w1 → K w1) :
    xIxS v (.int kd i) sz fun u => xAt u fun a => XDo P (storeVar t a (.agg vs.toArray)) w K := by
  obtain ⟨g, cap, cur, rfl, h1, h2, h3, h4, h5, h6⟩ := Own.blk h (Nat.lt_of_le_of_lt (Nat.zero_le m) hm)
  have hle : (m + 1) * sz ≤ n * sz := Nat.mul_le_mul_right sz hm
  rw [Nat.succ_mul] at hle
  have hle2 : n * sz ≤ cap * sz := Nat.mul_le_mul_right sz h3
  have hxl := h.1
  refine ⟨m, hi, hm, ?_⟩
  show XDo P (storeVar t ((⟨g, 0, none⟩ : Addr).add (m * sz)) _) w K
  rw [Addr.add_lit, Nat.zero_add]
  refine xstoreVar h2 ht (by omega) hx fun w1 hb1 hz1 he1 => k w1 (Own.of h1 hb1 h3 h4 (by simp; omega) ?_ (by simp; omega)) hz1 (he1.mono fun b _ e => by rw [e]; rfl)
  subst h6
  rw [hv]
  apply List.ext_getElem?
  intro i
  have hl1 : (cur.take (m * sz)).length = m * sz := by simp; omega
  have hl2 : ((cur.take (n * sz)).take (m * sz)).length = m * sz := by simp; omega
  rw [List.getElem?_take]
  rcases Nat.lt_or_ge i (m * sz) with c1 | c1
  · rw [if_pos (by omega), List.append_assoc, List.append_assoc, List.getElem?_append_left (by omega), List.getElem?_append_left (by omega), List.getElem?_take, if_pos c1, List.getElem?_take, if_pos c1, List.getElem?_take, if_pos (by omega)]
  · rcases Nat.lt_or_ge i (m * sz + sz) with c2 | c2
    · have e3 : ∀ (A D : List Value), A.length = m * sz → (A ++ vs ++ D)[i]? = vs[i - m * sz]? := fun A D hA => by
        rw [List.getElem?_append_left (by simp; omega), List.getElem?_append_right (by omega), hA]
      rw [if_pos (by omega), e3 _ _ hl1, e3 _ _ hl2]
    · have e3 : ∀ (A D : List Value), A.length = m * sz → (A ++ vs ++ D)[i]? = D[i - (m * sz + sz)]? := fun A D hA => by
        rw [List.getElem?_append_right (by simp; omega), List.length_append, hA, hv]
      rw [e3 _ _ hl1, e3 _ _ hl2, List.getElem?_drop, List.getElem?_drop, List.getElem?_take, show m * sz + sz + (i - (m * sz + sz)) = i by omega]
end
variable [Floor]
/-- a row of pairs that the call itself made; its keys lie in the world w0 from which it began -/
def SO (w0 w : World) (T : TypeId) (v : Value) (l : Kv) : Prop := ∃ cells, Own w w0.heap.size T 2 v l.length cells ∧ PC w0 l cells
section
variable {w0 w : World} {T : TypeId} {v : Value} {l : Kv}
theorem SO.nil (w0 w : World) (T : TypeId) : SO w0 w T (.slice none 0 0) [] := ⟨[], Own.nil w _ T 2, PC.nil w0⟩
theorem SO.pso (h : SO w0 w T v l) (he : Ext No w0 w) : PsO w w0.heap.size T v l := let ⟨cells, h1, h2⟩ := h; ⟨cells, h1, h2.extN he⟩
theorem SO.ps (h : SO w0 w T v l) (he : Ext No w0 w) (hT : PT T) : Ps w v l := (h.pso he).ps hT
theorem SO.extN {w' : World} (h : SO w0 w T v l) (he : Ext No w w') : SO w0 w' T v l := let ⟨cells, h1, h2⟩ := h; ⟨cells, h1.extN he, h2⟩
theorem SO.ext {w' : World} {X : Nat → Prop} (h : SO w0 w T v l) (he : Ext X w w') (hx : ∀ b, v.ownBlock = some b → ¬ X b) : SO w0 w' T v l := let ⟨cells, h1, h2⟩ := h; ⟨cells, h1.ext he hx, h2⟩
theorem SO.own (h : SO w0 w T v l) (he : Ext No w0 w) {w' : World} (k : Ext (fun b => v.ownBlock = some b) w w') : Ext No w0 w' := let ⟨cells, h1, h2⟩ := h; he.own h1 (Nat.le_refl _) k
/-- a value is written -/
theorem SO.stV {K : World → Prop} {kd : IntKind} {i : Int} {n : Nat} (h : SO w0 w T v l) (m : Nat) (hi : i = (m : Int)) (hm : m < l.length) (hn : n < 18446744073709551616)
    (k : ∀ w1, SO w0 w1 T v (l.set m (l[m].1, n)) → Ext (fun b => v.ownBlock = some b) w w1 → K w1) : xIxS v (.int kd i) 2 fun u => xFld u 1 fun p => xAt p fun a => XSt w a (u64 n) K := by
  obtain ⟨cells, h1, h2⟩ := h
  refine Own.st h1 m 1 hi hm (by omega) rfl fun w1 ho hz he => k w1 ⟨_, ?_, h2.setV (List.getElem?_eq_getElem hm) hn⟩ he
  rw [List.length_set]; exact ho
/-- a key is written -/
theorem SO.stK {K : World → Prop} {kd : IntKind} {i : Int} {q : Key} {kv : Value} (h : SO w0 w T v l) (m : Nat) (hi : i = (m : Int)) (hm : m < l.length) (hk : Bs w0 kv q)
    (k : ∀ w1, SO w0 w1 T v (l.set m (q, l[m].2)) → Ext (fun b => v.ownBlock = some b) w w1 → K w1) : xIxS v (.int kd i) 2 fun u => xFld u 0 fun p => xAt p fun a => XSt w a kv K := by
  obtain ⟨cells, h1, h2⟩ := h
  refine Own.st h1 m 0 hi hm (by omega) hk.one1 fun w1 ho hz he => k w1 ⟨_, ?_, h2.setK (List.getElem?_eq_getElem hm) hk⟩ he
  rw [List.length_set]; exact ho
theorem set_two {cs : List Value} {m : Nat} {x y : Value} (h : m * 2 + 2 ≤ cs.length) : cs.take (m * 2) ++ [x, y] ++ cs.drop (m * 2 + 2) = (cs.set (m * 2) x).set (m * 2 + 1) y := by
  rw [List.set_eq_take_append_cons_drop, if_pos (by simp; omega), List.take_set, List.drop_set_of_lt (by omega), List.set_eq_take_append_cons_drop, if_pos (by simp; omega)]
  simp only [List.take_take, List.drop_take]
  rw [show min (m * 2) (m * 2 + 1) = m * 2 by omega, show m * 2 + 1 - (m * 2 + 1) = 0 by omega]
  simp
/-- a pair is written -/
theorem SO.stP {K : World → Prop} {kd : IntKind} {i : Int} {q : Key} {n : Nat} {kv : Value} {t : TypeId} (h : SO w0 w T v l) (m : Nat) (hi : i = (m : Int)) (hm : m < l.length) (hk : Bs w0 kv q) (hn : n < 18446744073709551616) (ht : (P.info? t).map (·.size) = some 2)
    (k : ∀ w1, SO w0 w1 T v (l.set m (q, n)) → Ext (fun b => v.ownBlock = some b) w w1 → K w1) : xIxS v (.int kd i) 2 fun u => xAt u fun a => XDo P (storeVar t a (.agg #[kv, u64 n])) w K := by
  obtain ⟨cells, h1, h2⟩ := h
  refine Own.stN h1 (vs := [kv, u64 n]) m hi hm rfl ht (fun x hx => by simp only [List.mem_cons, List.mem_nil_iff, or_false] at hx; exact hx.elim (fun e => e ▸ hk.one1) fun e => e ▸ rfl) fun w1 ho hz he => k w1 ⟨_, ?_, h2.set (i := m) hk hn⟩ he
  rw [List.length_set]
  rw [set_two (by rw [h2.len]; omega)] at ho
  exact ho
/-- pairs are appended -/
theorem SO.app {K : Value → World → Prop} {t ty : TypeId} {x : Value} {m : Kv} {ys : List Value} {Q : Nat → TypeId → Prop} (hT : EI P t T 2 32 (.agg #[.slice none 0 0, .int .u64 0])) (h : SO w0 w T v l) (he : Ext No w0 w) (hx : Sl w Q x 2 m.length ys) (hm : PC w0 m ys) (hn : l.length + m.length ≤ 1099511627776)
    (k : ∀ v' w', SO w0 w' T v' (l ++ m) → Ext No w0 w' → (∀ b, v'.ownBlock = some b → v.ownBlock = some b ∨ w.heap.size ≤ b) → Ext (fun b => v.ownBlock = some b) w w' → K v' w') : XRun P (Builtin.append_ #[t, t] ty #[v, x]) w K := by
  obtain ⟨cells, h1, h2⟩ := h
  refine app_own hT h1 he.size hx hm.one (by omega) (by omega) fun v' w' ho hE _ hb => k v' w' ⟨_, ?_, h2.app hm⟩ (he.own h1 (Nat.le_refl _) hE) hb hE
  rw [List.length_append]; exact ho
end
end Go.Proofs.YtbfnagdpanfphaaGreatDoor
end
