/-  changes, as rows of four cells (delta.Change and the document's); whether two rows are the same.  -/
import Derived.Test.YtbfnagdpanfphaaGreatDoorRefV
import Derived.Test.YtbfnagdpanfphaaGreatDoorPs
import Derived.Test.YtbfnagdpanfphaaGreatDoorSA
import Derived.Test.YtbfnagdpanfphaaGreatDoorSAe
section
namespace Go.Proofs.YtbfnagdpanfphaaGreatDoor
open Go Go.RowKit X
set_option linter.unusedSimpArgs false
set_option linter.unusedVariables false
set_option linter.unusedSectionVars false
structure Chg where
  key : Key
  kind : Int
  was : Nat
  is : Nat
deriving DecidableEq
abbrev chZ : Value := .agg #[.slice none 0 0, .int .i64 0, .int .u64 0, .int .u64 0]
theorem ei_dch : EI P T_s_delta_Change T_delta_Change 4 48 chZ := ⟨by kernel_rfl, by kernel_rfl, by rfl, by omega⟩
theorem ei_rch : EI P T_s_ref29_Change T_ref29_Change 4 48 chZ := ⟨by kernel_rfl, by kernel_rfl, by rfl, by omega⟩
def Chg.ok (c : Chg) : Prop := c.was < 18446744073709551616 ∧ c.is < 18446744073709551616
def CT (T : TypeId) : Prop := T = T_delta_Change ∨ T = T_ref29_Change
theorem CT.ne {T : TypeId} (h : CT T) : T ≠ T_uint8 := by rcases h with rfl | rfl <;> decide
variable [Floor]
/-- the cells of a change -/
abbrev chC (kv : Value) (c : Chg) : List Value := [kv, .int .i64 c.kind, u64 c.was, u64 c.is]
/-- cells of changes -/
structure CC (w : World) (l : List Chg) (cells : List Value) : Prop where
  len : cells.length = l.length * 4
  at_ : ∀ i c, l[i]? = some c → ∃ kv, (cells.drop (i * 4)).take 4 = chC kv c ∧ Bs w kv c.key ∧ c.ok
/-- v is a slice of these changes -/
def Cs (w : World) (v : Value) (l : List Chg) : Prop := ∃ T cells, CT T ∧ Sl w (QT T) v 4 l.length cells ∧ CC w l cells
/-- .. which the call itself made -/
def CO (w : World) (B : Nat) (T : TypeId) (v : Value) (l : List Chg) : Prop := ∃ cells, Own w B T 4 v l.length cells ∧ CC w l cells
section
variable {w w' : World} {v : Value} {l m : List Chg} {cells : List Value} {B : Nat} {T : TypeId} {X : Nat → Prop}
theorem CC.nil (w : World) : CC w [] [] := ⟨rfl, fun i p h => by cases h⟩
theorem CC.ext (h : CC w l cells) (e : Ext X w w') (hx : NB w X) : CC w' l cells :=
  ⟨h.len, fun i p hp => let ⟨kv, h1, h2, h3⟩ := h.at_ i p hp; ⟨kv, h1, h2.ext e hx, h3⟩⟩
theorem CC.extN (h : CC w l cells) (e : Ext No w w') : CC w' l cells := h.ext e (NB.no w)
theorem CC.app {cs ds : List Value} (h : CC w l cs) (k : CC w m ds) : CC w (l ++ m) (cs ++ ds) := by
  refine ⟨by simp [h.len, k.len]; omega, fun i p hp => ?_⟩
  have hl := h.len
  rcases Nat.lt_or_ge i l.length with hi | hi
  · rw [List.getElem?_append_left hi] at hp
    rw [List.drop_append_of_le_length (by omega), List.take_append_of_le_length (by simp; omega)]
    exact h.at_ i p hp
  · rw [List.getElem?_append_right hi] at hp
    rw [List.drop_append, List.drop_eq_nil_of_le (by omega), List.nil_append, hl, show i * 4 - l.length * 4 = (i - l.length) * 4 by omega]
    exact k.at_ _ p hp
theorem CC.sing {kv : Value} {c : Chg} (h : Bs w kv c.key) (hc : c.ok) : CC w [c] (chC kv c) := by
  refine ⟨rfl, fun i p hp => ?_⟩
  cases i with
  | zero =>
    simp at hp
    subst hp
    exact ⟨kv, rfl, h, hc⟩
  | succ i => simp at hp
theorem CC.drop {cs : List Value} (h : CC w l cs) (n : Nat) : CC w (l.drop n) (cs.drop (n * 4)) := by
  refine ⟨by rw [List.length_drop, List.length_drop, h.len]; omega, fun i p hp => ?_⟩
  rw [List.getElem?_drop] at hp
  rw [List.drop_drop, show n * 4 + i * 4 = (n + i) * 4 by omega]
  exact h.at_ _ p hp
theorem CC.take {cs : List Value} (h : CC w l cs) (n : Nat) : CC w (l.take n) (cs.take (n * 4)) := by
  refine ⟨by rw [List.length_take, List.length_take, h.len]; omega, fun i p hp => ?_⟩
  rw [List.getElem?_take] at hp
  split at hp
  · rename_i hi
    obtain ⟨kv, h1, h2⟩ := h.at_ _ p hp
    refine ⟨kv, ?_, h2⟩
    rw [List.drop_take, List.take_take, Nat.min_eq_left (by omega)]
    exact h1
  · cases hp
theorem CC.cell {cs : List Value} (h : CC w l cs) {i : Nat} {c : Chg} (hi : l[i]? = some c) : ∃ kv, cs[i * 4 + 0]? = some kv ∧ cs[i * 4 + 1]? = some (.int .i64 c.kind) ∧ cs[i * 4 + 2]? = some (u64 c.was) ∧ cs[i * 4 + 3]? = some (u64 c.is) ∧ Bs w kv c.key ∧ c.ok := by
  obtain ⟨kv, h1, h2, h3⟩ := h.at_ i c hi
  have key : ∀ j, j < 4 → cs[i * 4 + j]? = (chC kv c)[j]? := fun j hj => by
    rw [← h1, List.getElem?_take, if_pos hj, List.getElem?_drop]
  exact ⟨kv, key 0 (by omega), key 1 (by omega), key 2 (by omega), key 3 (by omega), h2, h3⟩
theorem CC.one (h : CC w l cells) : ∀ u ∈ cells, u.oneCell' = true := by
  intro u hu
  obtain ⟨j, hj, rfl⟩ := List.mem_iff_getElem.1 hu
  have hj2 : j / 4 < l.length := by have := h.len; omega
  obtain ⟨kv, h1, h2, h3, h4, h5, -⟩ := h.cell (List.getElem?_eq_getElem hj2)
  have h0 : cells[j]? = some cells[j] := List.getElem?_eq_getElem hj
  have hm : j % 4 = 0 ∨ j % 4 = 1 ∨ j % 4 = 2 ∨ j % 4 = 3 := by omega
  rcases hm with e | e | e | e
  · rw [show j / 4 * 4 + 0 = j by omega, h0] at h1
    obtain ⟨a, cap, rfl⟩ := h5.slice
    rw [Option.some.inj h1]; rfl
  · rw [show j / 4 * 4 + 1 = j by omega, h0] at h2
    rw [Option.some.inj h2]; rfl
  · rw [show j / 4 * 4 + 2 = j by omega, h0] at h3
    rw [Option.some.inj h3]; rfl
  · rw [show j / 4 * 4 + 3 = j by omega, h0] at h4
    rw [Option.some.inj h4]; rfl
theorem Cs.nil (w : World) : Cs w (.slice none 0 0) [] := ⟨T_delta_Change, [], .inl rfl, Sl.nil, CC.nil w⟩
theorem Cs.extN (h : Cs w v l) (e : Ext No w w') : Cs w' v l := let ⟨T, cells, hT, h1, h2⟩ := h; ⟨T, cells, hT, h1.extN e, h2.extN e⟩
theorem Cs.slice (h : Cs w v l) : ∃ a cap, v = .slice a l.length cap := let ⟨_, _, _, ⟨a, cap, e, _⟩, _⟩ := h; ⟨a, cap, e⟩
theorem Cs.one1 (h : Cs w v l) : v.oneCell' = true := by obtain ⟨a, cap, rfl⟩ := h.slice; rfl
theorem Cs.len {K : Value → Prop} (h : Cs w v l) (k : K (.int .i64 l.length)) : xLen v K := let ⟨_, _, _, h1, _⟩ := h; xLen_sl h1 k
theorem Cs.ok (h : Cs w v l) : ∀ c ∈ l, c.ok := fun c hc => by
  obtain ⟨i, hi, rfl⟩ := List.mem_iff_getElem.1 hc
  obtain ⟨T, cells, hT, h1, h2⟩ := h
  obtain ⟨kv, -, -, h3⟩ := h2.at_ i l[i] (List.getElem?_eq_getElem hi)
  exact h3
/-- a whole element -/
theorem Cs.rd {K : Value → Prop} {kd : IntKind} {i : Int} (h : Cs w v l) (m : Nat) (hi : i = (m : Int)) (hm : m < l.length) (k : ∀ kv, Bs w kv l[m].key → K (.agg #[kv, .int .i64 l[m].kind, u64 l[m].was, u64 l[m].is])) : xIxS v (.int kd i) 4 fun u => xAt u fun a => XLdN w a 4 K := by
  obtain ⟨T, cells, hT, h1, h2⟩ := h
  obtain ⟨kv, h3, h4, -⟩ := h2.at_ m l[m] (List.getElem?_eq_getElem hm)
  refine h1.rdN m hi hm ?_
  rw [h3]
  exact k kv h4
theorem Cs.key {K : Value → Prop} {kd : IntKind} {i : Int} (h : Cs w v l) (m : Nat) (hi : i = (m : Int)) (hm : m < l.length) (k : ∀ kv, Bs w kv l[m].key → K kv) : xIxS v (.int kd i) 4 fun u => xFld u 0 fun p => xAt p fun a => XLd w a K := by
  obtain ⟨T, cells, hT, h1, h2⟩ := h
  obtain ⟨kv, h3, -, -, -, h4, -⟩ := h2.cell (List.getElem?_eq_getElem hm)
  exact h1.rdF m hi hm (by omega) h3 (k kv h4)
theorem Cs.kind {K : Value → Prop} {kd : IntKind} {i : Int} (h : Cs w v l) (m : Nat) (hi : i = (m : Int)) (hm : m < l.length) (k : K (.int .i64 l[m].kind)) : xIxS v (.int kd i) 4 fun u => xFld u 1 fun p => xAt p fun a => XLd w a K := by
  obtain ⟨T, cells, hT, h1, h2⟩ := h
  obtain ⟨kv, -, h3, -⟩ := h2.cell (List.getElem?_eq_getElem hm)
  exact h1.rdF m hi hm (by omega) h3 k
theorem Cs.was {K : Value → Prop} {kd : IntKind} {i : Int} (h : Cs w v l) (m : Nat) (hi : i = (m : Int)) (hm : m < l.length) (k : K (u64 l[m].was)) : xIxS v (.int kd i) 4 fun u => xFld u 2 fun p => xAt p fun a => XLd w a K := by
  obtain ⟨T, cells, hT, h1, h2⟩ := h
  obtain ⟨kv, -, -, h3, -⟩ := h2.cell (List.getElem?_eq_getElem hm)
  exact h1.rdF m hi hm (by omega) h3 k
theorem Cs.is {K : Value → Prop} {kd : IntKind} {i : Int} (h : Cs w v l) (m : Nat) (hi : i = (m : Int)) (hm : m < l.length) (k : K (u64 l[m].is)) : xIxS v (.int kd i) 4 fun u => xFld u 3 fun p => xAt p fun a => XLd w a K := by
  obtain ⟨T, cells, hT, h1, h2⟩ := h
  obtain ⟨kv, -, -, -, h3, -⟩ := h2.cell (List.getElem?_eq_getElem hm)
  exact h1.rdF m hi hm (by omega) h3 k
theorem Cs.drop {K : Value → Prop} {kd : IntKind} {i : Int} (h : Cs w v l) (n : Nat) (hi : i = (n : Int)) (hn : n ≤ l.length) (k : ∀ v', Cs w v' (l.drop n) → K v') : xCutS 4 v (some (.int kd i)) none none K := by
  obtain ⟨T, cells, hT, h1, h2⟩ := h
  exact h1.cutL n hi hn fun v' hv => k v' ⟨T, _, hT, by rw [List.length_drop]; exact hv, h2.drop n⟩
theorem Cs.take {K : Value → Prop} {kd : IntKind} {i : Int} (h : Cs w v l) (n : Nat) (hi : i = (n : Int)) (hn : n ≤ l.length) (k : ∀ v', Cs w v' (l.take n) → K v') : xCutS 4 v none (some (.int kd i)) none K := by
  obtain ⟨T, cells, hT, h1, h2⟩ := h
  exact h1.cutH n hi hn fun v' hv => k v' ⟨T, _, hT, by rw [List.length_take, Nat.min_eq_left hn]; exact hv, h2.take n⟩
theorem CO.nil (w : World) (B : Nat) (T : TypeId) : CO w B T (.slice none 0 0) [] := ⟨[], Own.nil w B T 4, CC.nil w⟩
theorem CO.extN (h : CO w B T v l) (e : Ext No w w') : CO w' B T v l := let ⟨cells, h1, h2⟩ := h; ⟨cells, h1.extN e, h2.extN e⟩
theorem CO.cs (h : CO w B T v l) (hT : CT T) : Cs w v l := let ⟨cells, h1, h2⟩ := h; ⟨T, cells, hT, h1.sl.weak fun _ _ h => .inl h, h2⟩
theorem CO.nb (h : CO w B T v l) (hf : Floor.n ≤ B) (hT : T ≠ T_uint8) : NB w (fun b => v.ownBlock = some b) := fun b hb hlt => by
  obtain ⟨cells, h1, -⟩ := h
  rcases h1.2 with ⟨rfl, -⟩ | ⟨g, cap, cur, rfl, hg, hc, -⟩
  · cases hb
  · simp only [Value.ownBlock, Option.some.injEq] at hb
    subst hb
    exact ⟨by omega, cur.toList, T, ⟨hc⟩, hT⟩
/-- changes are appended -/
theorem CO.app {K : Value → World → Prop} {t ty : TypeId} {x : Value} {ys : List Value} {Q : Nat → TypeId → Prop} (hT : EI P t T 4 48 chZ) (hTu : T ≠ T_uint8) (hf : Floor.n ≤ B) (hB : B ≤ w.heap.size) (h : CO w B T v l) (hx : Sl w Q x 4 m.length ys) (hm : CC w m ys) (hn : l.length + m.length ≤ 1099511627)
    (k : ∀ v' w', CO w' B T v' (l ++ m) → (∀ b, v'.ownBlock = some b → v.ownBlock = some b ∨ w.heap.size ≤ b) → Ext (fun b => v.ownBlock = some b) w w' → (∀ w0 : World, Ext No w0 w → w0.heap.size ≤ B → Ext No w0 w') → K v' w') : XRun P (Builtin.append_ #[t, t] ty #[v, x]) w K := by
  have hnb := h.nb hf hTu
  obtain ⟨cells, h1, h2⟩ := h
  refine app_own hT h1 hB hx hm.one (by omega) (by omega) fun v' w' ho hE _ hb => k v' w' ⟨_, ?_, (h2.app hm).ext hE hnb⟩ hb hE fun w0 e0 h0 => e0.own h1 h0 hE
  rw [List.length_append]; exact ho
end
theorem chg_ext {a b : Chg} (h1 : a.key = b.key) (h2 : a.kind = b.kind) (h3 : a.was = b.was) (h4 : a.is = b.is) : a = b := by cases a; cases b; simp_all
theorem store4 {w : World} {t T : TypeId} {g : Nat} {x y z u a b c d : Value} {K : World → Prop} (hg : Blk w g [x, y, z, u] T) (hi : (P.info? t).map (·.size) = some 4) (h1 : a.oneCell' = true) (h2 : b.oneCell' = true) (h3 : c.oneCell' = true) (h4 : d.oneCell' = true)
    (k : ∀ w', Blk w' g [a, b, c, d] T → w'.heap.size = w.heap.size → Ext (· = g) w w' → K w') : XDo P (storeVar t ⟨g, 0, none⟩ (.agg #[a, b, c, d])) w K := by
  refine xstoreVar (vs := [a, b, c, d]) hg hi (by simp) (fun v hv => ?_) fun w' hb hz he => k w' (by simpa using hb) hz he
  simp only [List.mem_cons, List.mem_nil_iff, or_false] at hv
  rcases hv with rfl | rfl | rfl | rfl <;> assumption
section
variable {w w0 : World} {v va vb kv : Value} {a b : Kv} {l m : List Chg} {k : Key} {c : Chg}
theorem chg_nb {T : TypeId} {b : Nat} {cs : List Value} (hb : Blk w b cs T) (hT : T ≠ T_uint8) (hf : Floor.n ≤ b) : NB w (· = b) := fun c hc _ => by
  have e : c = b := hc
  subst e
  exact ⟨hf, _, _, hb, hT⟩
/-- an element is put into a variable -/
theorem Cs.var {kd : IntKind} {i : Int} {t T : TypeId} (h : Cs w v l) (m : Nat) (hi : i = (m : Int)) (hm : m < l.length) (ht : (P.info? t).map (·.size) = some 4) {K : Addr → World → Prop}
    (k : ∀ b w2 kv, Blk w2 b (chC kv l[m]) T → Ext No w w2 → w.heap.size ≤ b → Bs w kv l[m].key → K ⟨b, 0, none⟩ w2) :
    xIxS v (.int kd i) 4 fun u => xAt u fun a => XLdN w a 4 fun y => XNew w [.slice none 0 0, .int .i64 0, .int .u64 0, .int .u64 0] T fun b w1 => XDo P (storeVar t b y) w1 fun w2 => K b w2 := by
  refine h.rd m hi hm fun kv hkv => ?_
  refine xnew fun b w1 hb hblk hz he => ?_
  refine store4 hblk ht hkv.one1 rfl rfl rfl fun w2 h2 hz2 he2 => ?_
  exact k b w2 kv h2 (he.trans1 he2 (by omega)) (by omega) hkv
theorem c_rSame29 (hl : Cs w va l) (hm : Cs w vb m) (hll : l.length ≤ 100000) (kl : ∀ c ∈ l, c.key.length ≤ 1000000) : Ret P n_ref29_Same [va, vb] w fun r w' => r = .bool (decide (l = m)) ∧ Ext No w w' := by
  refine W_ref29_Same ?_
  refine hl.len (hm.len ?_)
  refine xifN (fun h => ⟨by rw [decide_eq_false fun e => h (by rw [e])], Ext.refl _ _⟩) fun hlen => ?_
  have hlen : l.length = m.length := by omega
  refine xloop (fun n vs w' => ∃ (i : Nat) (x : Value), vs = [.int .i64 i, x] ∧ n = l.length - i ∧ i ≤ l.length ∧ l.take i = m.take i ∧ Ext No w w') l.length ⟨0, _, rfl, rfl, by omega, rfl, Ext.refl _ _⟩ ?_
  rintro n vs g w1 ⟨i, x, rfl, rfl, hi, hs, he⟩
  unfold S_ref29_Same_l1
  refine (hl.extN he).len ?_
  refine xifD (fun hlt => ?_) fun hge => ?_
  · have hil : i < l.length := by omega
    have him : i < m.length := by omega
    have hd := he.drew
    refine xj (fun vs w' => vs = [.bool (decide (l[i] ≠ m[i]))] ∧ Ext No w w') ?_ ?_
    · refine (hl.extN hd).kind i rfl hil ((hm.extN hd).kind i rfl him ?_)
      refine xifN (fun h => ⟨by rw [decide_eq_true (p := l[i] ≠ m[i]) fun e => h (by rw [e])], hd⟩) fun e1 => ?_
      refine (hl.extN hd).was i rfl hil ((hm.extN hd).was i rfl him ?_)
      refine xifN (fun h => ⟨by rw [decide_eq_true (p := l[i] ≠ m[i]) fun e => h (by rw [e])], hd⟩) fun e2 => ?_
      refine (hl.extN hd).is i rfl hil ((hm.extN hd).is i rfl him ?_)
      refine xifN (fun h => ⟨by rw [decide_eq_true (p := l[i] ≠ m[i]) fun e => h (by rw [e])], hd⟩) fun e3 => ?_
      refine (hl.extN hd).key i rfl hil fun k1 h1 => (hm.extN hd).key i rfl him fun k2 h2 => ?_
      refine (c_rSame h1 h2 (by have := kl _ (List.getElem_mem hil); omega)).mono ?_
      rintro _ w3 ⟨rfl, he3⟩
      refine ⟨?_, hd.transN he3⟩
      show [Value.bool (!decide (l[i].key = m[i].key))] = _
      by_cases e : l[i].key = m[i].key
      · rw [decide_eq_true e, decide_eq_false (p := l[i] ≠ m[i]) fun h => h (chg_ext e e1 (by omega) (by omega))]; rfl
      · rw [decide_eq_false e, decide_eq_true (p := l[i] ≠ m[i]) fun h => e (by rw [h])]; rfl
    rintro vs g w3 ⟨rfl, he3⟩
    refine xifD (fun h => ⟨by rw [decide_eq_false fun e => h (by simp [e])], he3⟩) fun h => ?_
    refine xi (r := ((i + 1 : Nat) : Int)) (by rw [wrapI (by omega)]; omega) ?_
    refine xnext (l.length - (i + 1)) (by omega) ⟨i + 1, _, rfl, rfl, by omega, ?_, he3⟩
    rw [← List.take_append_getElem hil, ← List.take_append_getElem him, hs, Decidable.not_not.1 h]
  · rw [List.take_of_length_le (by omega), List.take_of_length_le (by omega)] at hs
    exact ⟨by rw [decide_eq_true hs], he⟩
end
end Go.Proofs.YtbfnagdpanfphaaGreatDoor
end
