/-  the references' keys: what two keys share, which is less.  -/
import Derived.Test.YtbfnagdpanfphaaGreatDoorPs
import Derived.Test.YtbfnagdpanfphaaGreatDoorMap
import Derived.Test.YtbfnagdpanfphaaGreatDoorStr
section
namespace Go.Proofs.YtbfnagdpanfphaaGreatDoor
open Go Go.RowKit X
set_option linter.unusedSimpArgs false
set_option linter.unusedVariables false
set_option linter.unusedSectionVars false
theorem kcmp_common : ∀ (a b : Key), kcmp a b = if common a b = a.length then (if common a b = b.length then 0 else -1) else if common a b = b.length then 1 else if byteAt (common a b) a < byteAt (common a b) b then -1 else 1 := by
  intro a
  induction a with
  | nil => intro b; cases b with
    | nil => rfl
    | cons y s => rw [kcmp_nc]; simp [common]
  | cons x r ih => intro b; cases b with
    | nil => rw [kcmp_cn]; simp [common]
    | cons y s =>
      rw [kcmp_cons]
      by_cases h : x = y
      · subst h
        rw [if_neg (UInt8.lt_irrefl x), if_neg (UInt8.lt_irrefl x), ih]
        have hc : common (x :: r) (x :: s) = common r s + 1 := by simp [common]
        rw [hc]
        simp only [List.length_cons, Nat.add_right_cancel_iff]
        rfl
      · have hc : common (x :: r) (y :: s) = 0 := by simp [common, h]
        have e1 : (if common (x :: r) (y :: s) = (x :: r).length then (if common (x :: r) (y :: s) = (y :: s).length then (0 : Int) else -1) else if common (x :: r) (y :: s) = (y :: s).length then 1 else if byteAt (common (x :: r) (y :: s)) (x :: r) < byteAt (common (x :: r) (y :: s)) (y :: s) then -1 else 1) = if x < y then -1 else 1 := by
          rw [hc, if_neg (by simp), if_neg (by simp)]
          rfl
        rw [e1]
        by_cases h1 : x < y
        · rw [if_pos h1, if_pos h1]
        · rw [if_neg h1, if_neg h1, if_pos (UInt8.lt_of_le_of_ne (UInt8.not_lt.1 h1) (Ne.symm h))]
theorem common_lt {a b : Key} {i : Nat} (h : i < common a b) : a[i]? = b[i]? := by
  obtain ⟨p, q, r, rfl, rfl, h3, -⟩ := common_split a b
  rw [← h3] at h
  rw [List.getElem?_append_left h, List.getElem?_append_left h]
theorem common_prefix {a b : Key} : common a b = b.length ↔ b <+: a := by
  constructor
  · intro h
    have := common_take b a
    rw [common_comm, h, List.take_length] at this
    exact this
  · intro h
    have h1 := common_ge (a := a) (b := b) h (List.prefix_refl b)
    have := (common_le a b).2
    omega
variable [Floor]
section
variable {w : World} {va vb : Value} {a b : Key}
theorem c_rCommon (ha : Bs w va a) (hb : Bs w vb b) (la : a.length ≤ 4611686018427387904) : Ret P n_ref01_Common [va, vb] w fun r w' => r = .int .i64 (common a b) ∧ Ext No w w' := by
  refine W_ref01_Common ?_
  refine xloop (fun n vs w' => ∃ (i : Nat), vs = [.int .i64 i] ∧ i ≤ a.length ∧ i ≤ b.length ∧ n = a.length - i ∧ (∀ j, j < i → a[j]? = b[j]?) ∧ Ext No w w') a.length
    ⟨0, rfl, by omega, by omega, rfl, by omega, Ext.refl _ _⟩ ?_
  rintro n vs g w1 ⟨i, rfl, hia, hib, rfl, hij, he⟩
  have fin : ∀ w2, Ext No w w2 → (a[i]? ≠ b[i]? ∨ i = a.length ∨ i = b.length) → (Value.int .i64 i = Value.int .i64 (common a b) ∧ Ext No w w2) := fun w2 he hs => ⟨by rw [common_stop hij hia hib hs], he⟩
  refine xj (fun vs w' => ∃ t : Bool, vs = [.bool t] ∧ Ext No w w' ∧ (t = true → i < a.length ∧ i < b.length ∧ a[i]? = b[i]?) ∧ (t = false → a[i]? ≠ b[i]? ∨ i = a.length ∨ i = b.length)) ?_ ?_
  · refine ha.len ?_
    refine xifD (fun h1 => ?_) fun h1 => ⟨false, rfl, he.drew, fun h => (by cases h), fun _ => by omega⟩
    refine hb.len ?_
    refine xifD (fun h2 => ?_) fun h2 => ⟨false, rfl, he.drew, fun h => (by cases h), fun _ => by omega⟩
    have h1 : i < a.length := by omega
    have h2 : i < b.length := by omega
    refine (ha.extN he.drew).rd i h1 rfl ?_
    refine (hb.extN he.drew).rd i h2 rfl ?_
    refine ⟨_, rfl, he.drew, fun h => ⟨h1, h2, ?_⟩, fun h => .inl ?_⟩
    · rw [List.getElem?_eq_getElem h1, List.getElem?_eq_getElem h2]
      congr 1
      exact UInt8.toNat_inj.1 (by exact_mod_cast (by simpa using h : (a[i].toNat : Int) = (b[i].toNat : Int)))
    · rw [List.getElem?_eq_getElem h1, List.getElem?_eq_getElem h2]
      intro e
      have e := Option.some.inj e
      rw [e] at h
      simp at h
  · rintro vs g w2 ⟨t, rfl, he2, ht, hf⟩
    cases t with
    | true =>
      obtain ⟨h1, h2, h3⟩ := ht rfl
      refine xifT rfl ?_
      refine xi (r := ((i + 1 : Nat) : Int)) (by rw [wrapI (by omega)]; omega) ?_
      refine xnext (a.length - (i + 1)) (by omega) ⟨i + 1, rfl, by omega, by omega, rfl, fun j hj => ?_, he2⟩
      rcases Nat.lt_succ_iff_lt_or_eq.1 hj with e | e
      · exact hij j e
      · subst e; exact h3
    | false => exact xifF rfl (fin w2 he2 (hf rfl))
theorem c_rCmp (ha : Bs w va a) (hb : Bs w vb b) (la : a.length ≤ 4611686018427387904) : Ret P n_ref01_Cmp [va, vb] w fun r w' => r = .int .i64 (kcmp a b) ∧ Ext No w w' := by
  refine W_ref01_Cmp ?_
  refine (c_rCommon ha hb la).mono ?_
  rintro r w1 ⟨rfl, he⟩
  have hcl := common_le a b
  rw [kcmp_common]
  refine xj (fun vs w' => w' = w1 ∧ vs = [.bool (decide (common a b = a.length ∧ common a b = b.length))]) ?_ ?_
  · refine ha.len ?_
    refine xifE (fun e => ?_) fun e => ⟨rfl, by rw [decide_eq_false (fun h => e (by rw [h.1]))]⟩
    refine hb.len ?_
    refine ⟨rfl, ?_⟩
    have e1 : common a b = a.length := by omega
    by_cases e2 : common a b = b.length
    · rw [decide_eq_true ⟨e1, e2⟩, e2]; simp
    · rw [decide_eq_false (fun h => e2 h.2)]
      congr 2
      simp; omega
  · rintro vs g w2 ⟨rfl, rfl⟩
    refine xifD (fun h => ?_) fun h => ?_
    · rw [if_pos h.1, if_pos h.2]; exact ⟨rfl, he⟩
    · refine ha.len ?_
      refine xifE (fun e => ?_) fun e => ?_
      · have e : common a b = a.length := by omega
        rw [if_pos e, if_neg fun e2 => h ⟨e, e2⟩]; exact ⟨rfl, he⟩
      · have e : common a b ≠ a.length := by omega
        rw [if_neg e]
        refine hb.len ?_
        refine xifE (fun e2 => ?_) fun e2 => ?_
        · have e2 : common a b = b.length := by omega
          rw [if_pos e2]; exact ⟨rfl, he⟩
        · have e2 : common a b ≠ b.length := by omega
          rw [if_neg e2]
          refine (ha.extN he.drew).rd (common a b) (by omega) rfl ?_
          refine (hb.extN he.drew).rd (common a b) (by omega) rfl ?_
          rw [byteAt_get, byteAt_get]
          refine xifD (fun hlt => ?_) fun hlt => ?_
          · rw [if_pos (UInt8.lt_iff_toNat_lt.2 (by omega))]; exact ⟨rfl, he.drew⟩
          · rw [if_neg (fun h' => hlt (by have := UInt8.lt_iff_toNat_lt.1 h'; omega))]; exact ⟨rfl, he.drew⟩
theorem c_rSame (ha : Bs w va a) (hb : Bs w vb b) (la : a.length ≤ 4611686018427387904) : Ret P n_ref01_Same [va, vb] w fun r w' => r = .bool (decide (a = b)) ∧ Ext No w w' := by
  refine W_ref01_Same ?_
  refine (c_rCmp ha hb la).mono ?_
  rintro r w1 ⟨rfl, he⟩
  refine ⟨?_, he⟩
  by_cases e : a = b
  · rw [kcmp_zero.2 e, decide_eq_true e]; rfl
  · rw [decide_eq_false e]
    congr 1
    have : kcmp a b ≠ 0 := fun h => e (kcmp_eq h)
    simpa using this
end
end Go.Proofs.YtbfnagdpanfphaaGreatDoor
end
section
namespace Go.Proofs.YtbfnagdpanfphaaGreatDoor
open Go Go.RowKit X
set_option linter.unusedSimpArgs false
set_option linter.unusedVariables false
set_option linter.unusedSectionVars false
theorem insK_set : ∀ {s : Kv} {j : Nat} {k : Key} {v : Nat}, (∀ i (h : i < s.length), i < j → klt s[i].1 k) → (hj : j < s.length) → s[j].1 = k → insK s k v = s.set j (k, v) := by
  intro s
  induction s with
  | nil => intro j k v _ hj; simp at hj
  | cons p r ih =>
    intro j k v hlt hj he
    cases j with
    | zero =>
      have he : p.1 = k := he
      rw [insK, if_neg (by rw [he]; exact klt_irr), if_pos he]; rfl
    | succ j =>
      have h0 : klt p.1 k := hlt 0 (by simp) (by omega)
      rw [insK, if_pos h0, List.set_cons_succ, ih (fun i h hi => hlt (i + 1) (by simpa using h) (by omega)) (by simpa using hj) he]
theorem insK_ins : ∀ {s : Kv} {j : Nat} {k : Key} {v : Nat}, (∀ i (h : i < s.length), i < j → klt s[i].1 k) → j ≤ s.length → (∀ h : j < s.length, ¬ klt s[j].1 k ∧ s[j].1 ≠ k) → insK s k v = s.take j ++ (k, v) :: s.drop j := by
  intro s
  induction s with
  | nil => intro j k v _ hj _; simp at hj; subst hj; rfl
  | cons p r ih =>
    intro j k v hlt hj hn
    cases j with
    | zero =>
      have h1 : ¬ klt p.1 k := (hn (by simp)).1
      have h2 : p.1 ≠ k := (hn (by simp)).2
      rw [insK, if_neg h1, if_neg h2]; rfl
    | succ j =>
      have h0 : klt p.1 k := hlt 0 (by simp) (by omega)
      rw [insK, if_pos h0, ih (fun i h hi => hlt (i + 1) (by simpa using h) (by omega)) (by simpa using hj) (fun h => hn (by simpa using h))]
      rfl
theorem sortK_take {l : Kv} {i : Nat} (h : i < l.length) : sortK (l.take (i + 1)) = insK (sortK (l.take i)) l[i].1 l[i].2 := by
  rw [← List.take_append_getElem h, sortK_snoc]
variable [Floor]
section
variable {w0 w : World} {T : TypeId} {v : Value} {l : Kv}
theorem SO.key {K : Value → Prop} {kd : IntKind} {i : Int} (h : SO w0 w T v l) (m : Nat) (hi : i = (m : Int)) (hm : m < l.length) (k : ∀ kv, Bs w0 kv l[m].1 → K kv) : xIxS v (.int kd i) 2 fun u => xFld u 0 fun p => xAt p fun a => XLd w a K := by
  obtain ⟨cells, h1, h2⟩ := h
  obtain ⟨kv, h3, h4, -⟩ := h2.at_ m l[m] (List.getElem?_eq_getElem hm)
  exact h1.sl.rdF m hi hm (by omega) h3 (k kv h4)
theorem SO.rd {K : Value → Prop} {kd : IntKind} {i : Int} (h : SO w0 w T v l) (m : Nat) (hi : i = (m : Int)) (hm : m < l.length) (k : ∀ kv, Bs w0 kv l[m].1 → l[m].2 < 18446744073709551616 → K (.agg #[kv, u64 l[m].2])) : xIxS v (.int kd i) 2 fun u => xAt u fun a => XLdN w a 2 K := by
  obtain ⟨cells, h1, h2⟩ := h
  obtain ⟨kv, h3, h4, h5, h6⟩ := h2.at_ m l[m] (List.getElem?_eq_getElem hm)
  refine h1.sl.rdN m hi hm ?_
  have hl := h2.len
  have : (cells.drop (m * 2)).take 2 = [kv, u64 l[m].2] := by
    apply List.ext_getElem?
    intro j
    rw [List.getElem?_take]
    match j with
    | 0 => rw [if_pos (by omega), List.getElem?_drop, Nat.add_zero, h3]; rfl
    | 1 => rw [if_pos (by omega), List.getElem?_drop, h5]; rfl
    | j + 2 => rw [if_neg (by omega)]; rfl
  rw [this]
  exact k kv h4 h6
theorem SO.len {K : Value → Prop} (h : SO w0 w T v l) (k : K (.int .i64 l.length)) : xLen v K := let ⟨_, h1, _⟩ := h; xLen_sl h1.sl k
/-- a whole element, its key in the world from which the call began -/
theorem Ps.rd0 {w : World} {K : Value → Prop} {kd : IntKind} {i : Int} (h : Ps w0 v l) (he : Ext No w0 w) (m : Nat) (hi : i = (m : Int)) (hm : m < l.length) (k : ∀ kv, Bs w0 kv l[m].1 → K (.agg #[kv, u64 l[m].2])) : xIxS v (.int kd i) 2 fun u => xAt u fun a => XLdN w a 2 K := by
  obtain ⟨T, cells, hT, h1, h2⟩ := h
  obtain ⟨kv, h3, h4, h5, h6⟩ := h2.at_ m l[m] (List.getElem?_eq_getElem hm)
  refine (h1.extN he).rdN m hi hm ?_
  have hl := h2.len
  have : (cells.drop (m * 2)).take 2 = [kv, u64 l[m].2] := by
    apply List.ext_getElem?
    intro j
    rw [List.getElem?_take]
    match j with
    | 0 => rw [if_pos (by omega), List.getElem?_drop, Nat.add_zero, h3]; rfl
    | 1 => rw [if_pos (by omega), List.getElem?_drop, h5]; rfl
    | j + 2 => rw [if_neg (by omega)]; rfl
  rw [this]
  exact k kv h4
theorem Ps.key0 {w : World} {K : Value → Prop} {kd : IntKind} {i : Int} (h : Ps w0 v l) (he : Ext No w0 w) (m : Nat) (hi : i = (m : Int)) (hm : m < l.length) (k : ∀ kv, Bs w0 kv l[m].1 → K kv) : xIxS v (.int kd i) 2 fun u => xFld u 0 fun p => xAt p fun a => XLd w a K := by
  obtain ⟨T, cells, hT, h1, h2⟩ := h
  obtain ⟨kv, h3, h4, -⟩ := h2.at_ m l[m] (List.getElem?_eq_getElem hm)
  exact (h1.extN he).rdF m hi hm (by omega) h3 (k kv h4)
end
end Go.Proofs.YtbfnagdpanfphaaGreatDoor
end
section
section
namespace Go.Proofs.YtbfnagdpanfphaaGreatDoor
open Go Go.RowKit X
set_option linter.unusedSimpArgs false
set_option linter.unusedVariables false
set_option linter.unusedSectionVars false
abbrev zero6 : List Value := [.int .i64 0, .slice none 0 0, .bool false, .int .u64 0, .slice none 0 0, .slice none 0 0]
theorem X.Sl.weakL {w : World} {T T' : Nat → TypeId → Prop} {v : Value} {sz n : Nat} {cells : List Value} (h : Sl w T v sz n cells) (ht : ∀ b t, b < w.heap.size → T b t → T' b t) : Sl w T' v sz n cells := by
  obtain ⟨a, cap, rfl, hl, hc, ha⟩ := h
  refine ⟨a, cap, rfl, hl, hc, ?_⟩
  cases a with
  | none => exact ha
  | some ad =>
    rcases ha with h0 | ⟨b, o, cs, t, fz, h1, hT, h2, h3, h4⟩
    · exact .inl h0
    exact .inr ⟨b, o, cs, t, fz, h1, ht b t (lt_of_get h2) hT, h2, h3, h4⟩
def kindR (n : Nat) : Nat := if n = 0 then 1 else kindN n
variable [Floor]
def QB (Q : Nat → Prop) : Nat → TypeId → Prop := fun b t => QT T_uint8 b t ∧ Q b
section
variable {w : World} {v : Value} {l : Kv}
theorem Ps.valK {K : Value → Value → Prop} {kd : IntKind} {i : Int} (h : Ps w v l) (m : Nat) (hi : i = (m : Int)) (hm : m < l.length) (k : ∀ p, (∀ w', Ps w' v l → xKeep1 w' p (u64 l[m].2)) → K p (u64 l[m].2)) :
    xIxS v (.int kd i) 2 fun u => xFld u 1 fun p => xAt p fun a => XLd w a fun x => K p x := by
  have key : ∀ w', Ps w' v l → ∃ a cap, v = .slice (some a) l.length cap ∧ w'.cell? ((a.add (m * 2)).add 1) = some (u64 l[m].2) := by
    rintro w' ⟨T, cells, hT, h1, h2⟩
    obtain ⟨kv, -, -, h3, -⟩ := h2.at_ m l[m] (List.getElem?_eq_getElem hm)
    obtain ⟨a, cap, rfl, hc⟩ := h1.cell hm (show 1 < 2 by omega)
    exact ⟨a, cap, rfl, by rw [hc, h3]⟩
  obtain ⟨a, cap, rfl, hc⟩ := key w h
  refine ⟨m, hi, hm, ⟨_, hc, k _ fun w' h' => ?_⟩⟩
  obtain ⟨a', cap', e, hc'⟩ := key w' h'
  simp only [Value.slice.injEq, Option.some.injEq] at e
  obtain ⟨rfl, -, rfl⟩ := e
  exact hc'
end
end Go.Proofs.YtbfnagdpanfphaaGreatDoor
end
section
namespace Go.Proofs.YtbfnagdpanfphaaGreatDoor
open Go Go.RowKit X
set_option linter.unusedSimpArgs false
set_option linter.unusedVariables false
set_option linter.unusedSectionVars false
theorem dom_noE : (dom fun c => (noE c).opt) = [] := dom_none
theorem dom_app {kids : UInt8 → E} {b : UInt8} {e : E} (he : e.opt.isSome) (hlt : ∀ c ∈ dom (fun c => (kids c).opt), c.toNat < b.toNat) : (dom fun c => (updE kids b e c).opt) = (dom fun c => (kids c).opt) ++ [b] := by
  refine dom_eq ?_ fun c => ?_
  · refine List.pairwise_append.2 ⟨dom_rise _, List.pairwise_singleton _ _, fun c hc d hd => ?_⟩
    rw [List.mem_singleton.1 hd]
    exact hlt c hc
  · rw [List.mem_append, dom_mem, List.mem_singleton]
    by_cases h : c = b
    · subst h; rw [updE_same]; simp [he]
    · rw [updE_other _ _ h]; simp [h]
variable [Floor]
section
theorem shared_max {x : Key × Nat} {l : Kv} {n : Nat} (hr : Rises (x :: l)) (hn : n ≤ x.1.length) (hall : ∀ u ∈ x :: l, n ≤ common x.1 u.1) (hex : n = x.1.length ∨ ∃ u ∈ x :: l, common x.1 u.1 = n) :
    (∀ u ∈ x :: l, x.1.take n <+: u.1) ∧ ((x.1.take n).length = x.1.length ∨ ∃ u ∈ x :: l, (x.1.take n).length < u.1.length ∧ byteAt (x.1.take n).length u.1 ≠ byteAt (x.1.take n).length x.1) := by
  have hql : (x.1.take n).length = n := by rw [List.length_take]; omega
  refine ⟨fun u hu => ?_, ?_⟩
  · have h1 := common_take x.1 u.1
    have h2 := hall u hu
    have : x.1.take n = (x.1.take (common x.1 u.1)).take n := by rw [List.take_take, Nat.min_eq_left h2]
    rw [this]
    exact (List.take_prefix _ _).trans h1
  · rw [hql]
    rcases hex with h | ⟨u, hu, h⟩
    · exact .inl h
    · by_cases e : n = x.1.length
      · exact .inl e
      · right
        have hcl := common_le x.1 u.1
        have hul : n < u.1.length := by
          refine Classical.byContradiction fun hh => ?_
          have hlen : u.1.length = n := by omega
          have hp : u.1 <+: x.1 := by
            have := common_take u.1 x.1
            rw [common_comm, h, ← hlen, List.take_length] at this
            exact this
          obtain ⟨s, hs⟩ := hp
          rcases hr.first hu with h' | h'
          · rw [← hs] at h'
            have : kcmp (u.1 ++ s) (u.1 ++ []) < 0 := by rw [List.append_nil]; exact h'
            rw [kcmp_app] at this
            cases s with
            | nil => exact absurd this (by decide)
            | cons c s => rw [kcmp_cn] at this; exact absurd this (by decide)
          · rw [h'] at e; exact e hlen.symm
        refine ⟨u, hu, hul, ?_⟩
        have := common_ne (a := x.1) (b := u.1) (by omega) (by omega)
        rw [h] at this
        exact this.symm
theorem Own.ne {w : World} {B B' : Nat} {e e' : TypeId} {sz sz' n n' : Nat} {v v' : Value} {xs xs' : List Value} (h : Own w B e sz v n xs) (h' : Own w B' e' sz' v' n' xs') (he : e ≠ e') {b : Nat} (hb : v.ownBlock = some b) : v'.ownBlock ≠ some b := fun hb' => by
  rcases h.2 with ⟨rfl, -⟩ | ⟨g, cap, cur, rfl, -, hg, -⟩
  · cases hb
  · rcases h'.2 with ⟨rfl, -⟩ | ⟨g', cap', cur', rfl, -, hg', -⟩
    · cases hb'
    · simp only [Value.ownBlock, Option.some.injEq] at hb hb'
      subst hb; subst hb'
      have := hg.symm.trans hg'
      simp at this
      exact he this.2
theorem Own.neB {w : World} {B b : Nat} {e T : TypeId} {sz n : Nat} {v : Value} {xs cs : List Value} (h : Own w B e sz v n xs) (hb : Blk w b cs T) (he : e ≠ T) : v.ownBlock ≠ some b := fun hb' => by
  rcases h.2 with ⟨rfl, -⟩ | ⟨g, cap, cur, rfl, -, hg, -⟩
  · cases hb'
  · simp only [Value.ownBlock, Option.some.injEq] at hb'
    subst hb'
    have := hg.symm.trans hb.h
    simp at this
    exact he this.2
theorem six {cs : List Value} (h : cs.length = 6) : ∃ a b c d e f, cs = [a, b, c, d, e, f] := by
  match cs, h with
  | [a, b, c, d, e, f], _ => exact ⟨a, b, c, d, e, f, rfl⟩
end
end Go.Proofs.YtbfnagdpanfphaaGreatDoor
end
end
section
namespace Go.Proofs.YtbfnagdpanfphaaGreatDoor
open Go Go.RowKit X
set_option linter.unusedSimpArgs false
set_option linter.unusedVariables false
set_option linter.unusedSectionVars false
/-- a whole element, that goes on standing there -/
theorem X.Sl.rdNK {w : World} {T : Nat → TypeId → Prop} {v : Value} {sz n : Nat} {cells : List Value} {K : Value → Value → Prop} {kd : IntKind} {i : Int} (h : Sl w T v sz n cells) (m : Nat) (hi : i = (m : Int)) (hm : m < n)
    (k : ∀ p, (∀ w', Sl w' T v sz n cells → xKeepN w' p (.agg ((cells.drop (m * sz)).take sz).toArray)) → K p (.agg ((cells.drop (m * sz)).take sz).toArray)) :
    xIxS v (.int kd i) sz fun u => xAt u fun a => XLdN w a sz fun x => K u x := by
  have hl := h.len
  have hle : (m + 1) * sz ≤ n * sz := Nat.mul_le_mul_right sz hm
  rw [Nat.succ_mul] at hle
  have key : ∀ w', Sl w' T v sz n cells → ∃ a cap, v = .slice (some a) n cap ∧ ∀ o, o < sz → w'.cell? ((a.add (m * sz)).add o) = cells[m * sz + o]? := by
    rintro w' ⟨a, cap, rfl, hl, hc, ha⟩
    cases a with
    | none => exact absurd ha (by omega)
    | some ad =>
      rcases ha with h0 | ⟨b, of, cs, t, fz, rfl, hT, h2, h3, h4⟩
      · omega
      refine ⟨_, cap, rfl, fun o ho => ?_⟩
      rw [Addr.add_lit, Addr.add_lit]
      have := h4 (m * sz + o) (by omega)
      simp only [World.cell?, h2]
      simp
      rw [show of + m * sz + o = of + (m * sz + o) by omega]
      exact this
  obtain ⟨a, cap, rfl, hc⟩ := key w h
  have hseg : ∀ o, o < sz → ((cells.drop (m * sz)).take sz).toArray[o]? = cells[m * sz + o]? := fun o ho => by simp [List.getElem?_take, ho, List.getElem?_drop]
  have hsz : ((cells.drop (m * sz)).take sz).toArray.size = sz := by simp; omega
  refine ⟨m, hi, hm, ⟨_, hsz, fun o ho => by rw [hc o ho, hseg o ho], k _ fun w' h' => ?_⟩⟩
  obtain ⟨a', cap', e, hc'⟩ := key w' h'
  simp only [Value.slice.injEq, Option.some.injEq] at e
  obtain ⟨rfl, -, rfl⟩ := e
  intro o ho
  have ho : o < sz := by rw [hsz] at ho; exact ho
  rw [hc' o ho, hseg o ho]
variable [Floor]
section
end
end Go.Proofs.YtbfnagdpanfphaaGreatDoor
end
