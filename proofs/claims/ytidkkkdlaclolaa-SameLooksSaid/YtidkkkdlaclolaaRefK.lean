/-  the references' keys: what two keys share, which is less.  -/
import Derived.Test.YtidkkkdlaclolaaPs
import Derived.Test.YtidkkkdlaclolaaMap
import Derived.Test.YtidkkkdlaclolaaStr
section
namespace Go.Proofs.Ytidkkkdlaclolaa
open Go Go.RowKit X
set_option linter.unusedSimpArgs false
set_option linter.unusedVariables false
set_option linter.unusedSectionVars false
theorem kcmp_common : ∀ (a b : Key), kcmp a b = if common a b = a.length then (if common a b = b.length then 0 else -1) else if common a b = b.length then 1 else if byteAt (common a b) a < byteAt (common a b) b then -1 else 1 := by
  intro a
  induction a with
  | nil => intro b; cases b with
    | nil => rfl
    | cons y s => rw [kcmp_nc]; simp [common]
  | cons x r ih => intro b; cases b with
    | nil => rw [kcmp_cn]; simp [common]
    | cons y s =>
      rw [kcmp_cons]
      by_cases h : x = y
      · subst h
        rw [if_neg (UInt8.lt_irrefl x), if_neg (UInt8.lt_irrefl x), ih]
        have hc : common (x :: r) (x :: s) = common r s + 1 := by simp [common]
        rw [hc]
        simp only [List.length_cons, Nat.add_right_cancel_iff]
        rfl
      · have hc : common (x :: r) (y :: s) = 0 := by simp [common, h]
        have e1 : (if common (x :: r) (y :: s) = (x :: r).length then (if common (x :: r) (y :: s) = (y :: s).length then (0 : Int) else -1) else if common (x :: r) (y :: s) = (y :: s).length then 1 else if byteAt (common (x :: r) (y :: s)) (x :: r) < byteAt (common (x :: r) (y :: s)) (y :: s) then -1 else 1) = if x < y then -1 else 1 := by
          rw [hc, if_neg (by simp), if_neg (by simp)]
          rfl
        rw [e1]
        by_cases h1 : x < y
        · rw [if_pos h1, if_pos h1]
        · rw [if_neg h1, if_neg h1, if_pos (UInt8.lt_of_le_of_ne (UInt8.not_lt.1 h1) (Ne.symm h))]
theorem common_lt {a b : Key} {i : Nat} (h : i < common a b) : a[i]? = b[i]? := by
  obtain ⟨p, q, r, rfl, rfl, h3, -⟩ := common_split a b
  rw [← h3] at h
  rw [List.getElem?_append_left h, List.getElem?_append_left h]
theorem common_prefix {a b : Key} : common a b = b.length ↔ b <+: a := by
  constructor
  · intro h
    have := common_take b a
    rw [common_comm, h, List.take_length] at this
    exact this
  · intro h
    have h1 := common_ge (a := a) (b := b) h (List.prefix_refl b)
    have := (common_le a b).2
    omega
variable [Floor]
section
variable {w : World} {va vb : Value} {a b : Key}
theorem c_rCommon (ha : Bs w va a) (hb : Bs w vb b) (la : a.length ≤ 4611686018427387904) : Ret P n_ref01_Common [va, vb] w fun r w' => r = .int .i64 (common a b) ∧ Ext No w w' := by
  refine W_ref01_Common ?_
  refine xloop (fun n vs w' => ∃ (i : Nat), vs = [.int .i64 i] ∧ i ≤ a.length ∧ i ≤ b.length ∧ n = a.length - i ∧ (∀ j, j < i → a[j]? = b[j]?) ∧ Ext No w w') a.length
    ⟨0, rfl, by omega, by omega, rfl, by omega, Ext.refl _ _⟩ ?_
  rintro n vs g w1 ⟨i, rfl, hia, hib, rfl, hij, he⟩
  have fin : ∀ w2, Ext No w w2 → (a[i]? ≠ b[i]? ∨ i = a.length ∨ i = b.length) → (Value.int .i64 i = Value.int .i64 (common a b) ∧ Ext No w w2) := fun w2 he hs => ⟨by rw [common_stop hij hia hib hs], he⟩
  refine xj (fun vs w' => ∃ t : Bool, vs = [.bool t] ∧ Ext No w w' ∧ (t = true → i < a.length ∧ i < b.length ∧ a[i]? = b[i]?) ∧ (t = false → a[i]? ≠ b[i]? ∨ i = a.length ∨ i = b.length)) ?_ ?_
  · refine ha.len ?_
    refine xifD (fun h1 => ?_) fun h1 => ⟨false, rfl, he.drew, fun h => (by cases h), fun _ => by omega⟩
    refine hb.len ?_
    refine xifD (fun h2 => ?_) fun h2 => ⟨false, rfl, he.drew, fun h => (by cases h), fun _ => by omega⟩
    have h1 : i < a.length := by omega
    have h2 : i < b.length := by omega
    refine (ha.extN he.drew).rd i h1 rfl ?_
    refine (hb.extN he.drew).rd i h2 rfl ?_
    refine ⟨_, rfl, he.drew, fun h => ⟨h1, h2, ?_⟩, fun h => .inl ?_⟩
    · rw [List.getElem?_eq_getElem h1, List.getElem?_eq_getElem h2]
      congr 1
      exact UInt8.toNat_inj.1 (by exact_mod_cast (by simpa using h : (a[i].toNat : Int) = (b[i].toNat : Int)))
    · rw [List.getElem?_eq_getElem h1, List.getElem?_eq_getElem h2]
      intro e
      have e := Option.some.inj e
      rw [e] at h
      simp at h
  · rintro vs g w2 ⟨t, rfl, he2, ht, hf⟩
    cases t with
    | true =>
      obtain ⟨h1, h2, h3⟩ := ht rfl
      refine xifT rfl ?_
      refine xi (r := ((i + 1 : Nat) : Int)) (by rw [wrapI (by omega)]; omega) ?_
      refine xnext (a.length - (i + 1)) (by omega) ⟨i + 1, rfl, by omega, by omega, rfl, fun j hj => ?_, he2⟩
      rcases Nat.lt_succ_iff_lt_or_eq.1 hj with e | e
      · exact hij j e
      · subst e; exact h3
    | false => exact xifF rfl (fin w2 he2 (hf rfl))
theorem c_rCmp (ha : Bs w va a) (hb : Bs w vb b) (la : a.length ≤ 4611686018427387904) : Ret P n_ref01_Cmp [va, vb] w fun r w' => r = .int .i64 (kcmp a b) ∧ Ext No w w' := by
  refine W_ref01_Cmp ?_
  refine (c_rCommon ha hb la).mono ?_
  rintro r w1 ⟨rfl, he⟩
  have hcl := common_le a b
  rw [kcmp_common]
  refine xj (fun vs w' => w' = w1 ∧ vs = [.bool (decide (common a b = a.length ∧ common a b = b.length))]) ?_ ?_
  · refine ha.len ?_
    refine xifE (fun e => ?_) fun e => ⟨rfl, by rw [decide_eq_false (fun h => e (by rw [h.1]))]⟩
    refine hb.len ?_
    refine ⟨rfl, ?_⟩
    have e1 : common a b = a.length := by omega
    by_cases e2 : common a b = b.length
    · rw [decide_eq_true ⟨e1, e2⟩, e2]; simp
    · rw [decide_eq_false (fun h => e2 h.2)]
      congr 2
      simp; omega
  · rintro vs g w2 ⟨rfl, rfl⟩
    refine xifD (fun h => ?_) fun h => ?_
    · rw [if_pos h.1, if_pos h.2]; exact ⟨rfl, he⟩
    · refine ha.len ?_
      refine xifE (fun e => ?_) fun e => ?_
      · have e : common a b = a.length := by omega
        rw [if_pos e, if_neg fun e2 => h ⟨e, e2⟩]; exact ⟨rfl, he⟩
      · have e : common a b ≠ a.length := by omega
        rw [if_neg e]
        refine hb.len ?_
        refine xifE (fun e2 => ?_) fun e2 => ?_
        · have e2 : common a b = b.length := by omega
          rw [if_pos e2]; exact ⟨rfl, he⟩
        · have e2 : common a b ≠ b.length := by omega
          rw [if_neg e2]
          refine (ha.extN he.drew).rd (common a b) (by omega) rfl ?_
          refine (hb.extN he.drew).rd (common a b) (by omega) rfl ?_
          rw [byteAt_get, byteAt_get]
          refine xifD (fun hlt => ?_) fun hlt => ?_
          · rw [if_pos (UInt8.lt_iff_toNat_lt.2 (by omega))]; exact ⟨rfl, he.drew⟩
          · rw [if_neg (fun h' => hlt (by have := UInt8.lt_iff_toNat_lt.1 h'; omega))]; exact ⟨rfl, he.drew⟩
theorem c_rSame (ha : Bs w va a) (hb : Bs w vb b) (la : a.length ≤ 4611686018427387904) : Ret P n_ref01_Same [va, vb] w fun r w' => r = .bool (decide (a = b)) ∧ Ext No w w' := by
  refine W_ref01_Same ?_
  refine (c_rCmp ha hb la).mono ?_
  rintro r w1 ⟨rfl, he⟩
  refine ⟨?_, he⟩
  by_cases e : a = b
  · rw [kcmp_zero.2 e, decide_eq_true e]; rfl
  · rw [decide_eq_false e]
    congr 1
    have : kcmp a b ≠ 0 := fun h => e (kcmp_eq h)
    simpa using this
end
end Go.Proofs.Ytidkkkdlaclolaa
end
section
namespace Go.Proofs.Ytidkkkdlaclolaa
open Go Go.RowKit X
set_option linter.unusedSimpArgs false
set_option linter.unusedVariables false
set_option linter.unusedSectionVars false
theorem insK_set : ∀ {s : Kv} {j : Nat} {k : Key} {v : Nat}, (∀ i (h : i < s.length), i < j → klt s[i].1 k) → (hj : j < s.length) → s[j].1 = k → insK s k v = s.set j (k, v) := by
  intro s
  induction s with
  | nil => intro j k v _ hj; simp at hj
  | cons p r ih =>
    intro j k v hlt hj he
    cases j with
    | zero =>
      have he : p.1 = k := he
      rw [insK, if_neg (by rw [he]; exact klt_irr), if_pos he]; rfl
    | succ j =>
      have h0 : klt p.1 k := hlt 0 (by simp) (by omega)
      rw [insK, if_pos h0, List.set_cons_succ, ih (fun i h hi => hlt (i + 1) (by simpa using h) (by omega)) (by simpa using hj) he]
theorem insK_ins : ∀ {s : Kv} {j : Nat} {k : Key} {v : Nat}, (∀ i (h : i < s.length), i < j → klt s[i].1 k) → j ≤ s.length → (∀ h : j < s.length, ¬ klt s[j].1 k ∧ s[j].1 ≠ k) → insK s k v = s.take j ++ (k, v) :: s.drop j := by
  intro s
  induction s with
  | nil => intro j k v _ hj _; simp at hj; subst hj; rfl
  | cons p r ih =>
    intro j k v hlt hj hn
    cases j with
    | zero =>
      have h1 : ¬ klt p.1 k := (hn (by simp)).1
      have h2 : p.1 ≠ k := (hn (by simp)).2
      rw [insK, if_neg h1, if_neg h2]; rfl
    | succ j =>
      have h0 : klt p.1 k := hlt 0 (by simp) (by omega)
      rw [insK, if_pos h0, ih (fun i h hi => hlt (i + 1) (by simpa using h) (by omega)) (by simpa using hj) (fun h => hn (by simpa using h))]
      rfl
theorem sortK_take {l : Kv} {i : Nat} (h : i < l.length) : sortK (l.take (i + 1)) = insK (sortK (l.take i)) l[i].1 l[i].2 := by
  rw [← List.take_append_getElem h, sortK_snoc]
variable [Floor]
section
variable {w0 w : World} {T : TypeId} {v : Value} {l : Kv}
theorem SO.key {K : Value → Prop} {kd : IntKind} {i : Int} (h : SO w0 w T v l) (m : Nat) (hi : i = (m : Int)) (hm : m < l.length) (k : ∀ kv, Bs w0 kv l[m].1 → K kv) : xIxS v (.int kd i) 2 fun u => xFld u 0 fun p => xAt p fun a => XLd w a K := by
  obtain ⟨cells, h1, h2⟩ := h
  obtain ⟨kv, h3, h4, -⟩ := h2.at_ m l[m] (List.getElem?_eq_getElem hm)
  exact h1.sl.rdF m hi hm (by omega) h3 (k kv h4)
theorem SO.rd {K : Value → Prop} {kd : IntKind} {i : Int} (h : SO w0 w T v l) (m : Nat) (hi : i = (m : Int)) (hm : m < l.length) (k : ∀ kv, Bs w0 kv l[m].1 → l[m].2 < 18446744073709551616 → K (.agg #[kv, u64 l[m].2])) : xIxS v (.int kd i) 2 fun u => xAt u fun a => XLdN w a 2 K := by
  obtain ⟨cells, h1, h2⟩ := h
  obtain ⟨kv, h3, h4, h5, h6⟩ := h2.at_ m l[m] (List.getElem?_eq_getElem hm)
  refine h1.sl.rdN m hi hm ?_
  have hl := h2.len
  have : (cells.drop (m * 2)).take 2 = [kv, u64 l[m].2] := by
    apply List.ext_getElem?
    intro j
    rw [List.getElem?_take]
    match j with
    | 0 => rw [if_pos (by omega), List.getElem?_drop, Nat.add_zero, h3]; rfl
    | 1 => rw [if_pos (by omega), List.getElem?_drop, h5]; rfl
    | j + 2 => rw [if_neg (by omega)]; rfl
  rw [this]
  exact k kv h4 h6
theorem SO.len {K : Value → Prop} (h : SO w0 w T v l) (k : K (.int .i64 l.length)) : xLen v K := let ⟨_, h1, _⟩ := h; xLen_sl h1.sl k
/-- a whole element, its key in the world from which the call began -/
theorem Ps.rd0 {w : World} {K : Value → Prop} {kd : IntKind} {i : Int} (h : Ps w0 v l) (he : Ext No w0 w) (m : Nat) (hi : i = (m : Int)) (hm : m < l.length) (k : ∀ kv, Bs w0 kv l[m].1 → K (.agg #[kv, u64 l[m].2])) : xIxS v (.int kd i) 2 fun u => xAt u fun a => XLdN w a 2 K := by
  obtain ⟨T, cells, hT, h1, h2⟩ := h
  obtain ⟨kv, h3, h4, h5, h6⟩ := h2.at_ m l[m] (List.getElem?_eq_getElem hm)
  refine (h1.extN he).rdN m hi hm ?_
  have hl := h2.len
  have : (cells.drop (m * 2)).take 2 = [kv, u64 l[m].2] := by
    apply List.ext_getElem?
    intro j
    rw [List.getElem?_take]
    match j with
    | 0 => rw [if_pos (by omega), List.getElem?_drop, Nat.add_zero, h3]; rfl
    | 1 => rw [if_pos (by omega), List.getElem?_drop, h5]; rfl
    | j + 2 => rw [if_neg (by omega)]; rfl
  rw [this]
  exact k kv h4
theorem Ps.key0 {w : World} {K : Value → Prop} {kd : IntKind} {i : Int} (h : Ps w0 v l) (he : Ext No w0 w) (m : Nat) (hi : i = (m : Int)) (hm : m < l.length) (k : ∀ kv, Bs w0 kv l[m].1 → K kv) : xIxS v (.int kd i) 2 fun u => xFld u 0 fun p => xAt p fun a => XLd w a K := by
  obtain ⟨T, cells, hT, h1, h2⟩ := h
  obtain ⟨kv, h3, h4, -⟩ := h2.at_ m l[m] (List.getElem?_eq_getElem hm)
  exact (h1.extN he).rdF m hi hm (by omega) h3 (k kv h4)
theorem c_rSort (h : Ps w0 v l) (hl : l.length ≤ 1099511627776) (hk : ∀ p ∈ l, p.1.length ≤ 4611686018427387904) : Ret P n_ref13_Sort [v] w0 fun r w' => SO w0 w' T_ref01_Pair r (sortK l) ∧ Ext No w0 w' := by
  have hkd : ∀ i (h : i < l.length), l[i].1.length ≤ 4611686018427387904 := fun i h => hk _ (List.getElem_mem h)
  refine W_ref13_Sort ?_
  refine xloop (fun n vs w' => ∃ (i : Nat) (x out y : Value), vs = [.int .i64 i, x, out, y] ∧ n = l.length - i ∧ i ≤ l.length ∧ SO w0 w' T_ref01_Pair out (sortK (l.take i)) ∧ Ext No w0 w') l.length
    ⟨0, _, _, _, rfl, rfl, by omega, SO.nil _ _ _, Ext.refl _ _⟩ ?_
  rintro n vs g w1 ⟨i, x, out, y, rfl, rfl, hi, hso, he⟩
  refine h.len ?_
  refine xifD (fun hlt => ?_) fun hge => ?_
  · have hil : i < l.length := by omega
    generalize hss : sortK (l.take i) = s at hso
    have hsl : s.length ≤ i := by
      have := sortK_length (l.take i)
      rw [hss] at this
      simp at this; omega
    have hsk : ∀ j (h : j < s.length), s[j].1.length ≤ 4611686018427387904 := fun j h => by
      have : s[j] ∈ sortK (l.take i) := by rw [hss]; exact List.getElem_mem h
      exact hk _ (List.mem_of_mem_take (sortK_mem this))
    have h64 := h.get hil
    refine xj (fun vs w' => ∃ x out' y, vs = [x, out', y] ∧ SO w0 w' T_ref01_Pair out' (sortK (l.take (i + 1))) ∧ Ext No w0 w') ?_ ?_
    · rw [sortK_take hil, hss]
      refine xloop (fun n vs w' => ∃ j : Nat, vs = [.int .i64 j] ∧ n = s.length - j ∧ j ≤ s.length ∧ (∀ i' (h : i' < s.length), i' < j → klt s[i'].1 l[i].1) ∧ SO w0 w' T_ref01_Pair out s ∧ Ext No w0 w') s.length ⟨0, rfl, rfl, by omega, fun _ _ h => by omega, hso, he⟩ ?_
      rintro n vs g w2 ⟨j, rfl, rfl, hj, hjl, hso2, he2⟩
      refine xj (fun vs w' => ∃ t : Bool, vs = [.bool t] ∧ (t = true → ∃ h : j < s.length, klt s[j].1 l[i].1) ∧ (t = false → ∀ h : j < s.length, ¬ klt s[j].1 l[i].1) ∧ SO w0 w' T_ref01_Pair out s ∧ Ext No w0 w') ?_ ?_
      · refine hso2.len ?_
        refine xifD (fun h1 => ?_) fun h1 => ⟨false, rfl, fun h => (by cases h), fun _ h => by omega, hso2, he2.drew⟩
        have h1 : j < s.length := by omega
        refine SO.key (w := w2.drew) hso2 j rfl h1 fun ka hka => ?_
        refine (h.extN he2.drew).key i rfl hil fun kb hkb => ?_
        refine (c_rCmp (hka.extN he2.drew) hkb (hsk j h1)).mono ?_
        rintro r w3 ⟨rfl, he3⟩
        refine ⟨_, rfl, fun h => ⟨h1, (by simpa using h : kcmp s[j].1 l[i].1 < 0)⟩, fun h _ => ?_, hso2.extN he3.undrew, he2.drew.transN he3⟩
        intro hk
        have hk : kcmp s[j].1 l[i].1 < 0 := hk
        have h : decide (kcmp s[j].1 l[i].1 < 0) = false := h
        simp at h
        omega
      · rintro vs g w3 ⟨t, rfl, ht, hf, hso3, he3⟩
        cases t with
        | true =>
          obtain ⟨h1, h2⟩ := ht rfl
          refine xifT rfl ?_
          refine xi (r := ((j + 1 : Nat) : Int)) (by rw [wrapI (by omega)]; omega) ?_
          refine xnext (s.length - (j + 1)) (by omega) ⟨j + 1, rfl, rfl, by omega, fun i' h hi' => ?_, hso3, he3⟩
          rcases Nat.lt_succ_iff_lt_or_eq.1 hi' with e | e
          · exact hjl i' h e
          · subst e; exact h2
        | false =>
          have hnl := hf rfl
          refine xifF rfl ?_
          refine xj (fun vs w' => ∃ t : Bool, vs = [.bool t] ∧ (t = true → ∃ h : j < s.length, s[j].1 = l[i].1) ∧ (t = false → ∀ h : j < s.length, s[j].1 ≠ l[i].1) ∧ SO w0 w' T_ref01_Pair out s ∧ Ext No w0 w') ?_ ?_
          · refine hso3.len ?_
            refine xifD (fun h1 => ?_) fun h1 => ⟨false, rfl, fun h => (by cases h), fun _ h => by omega, hso3, he3.drew⟩
            have h1 : j < s.length := by omega
            refine SO.key (w := w3.drew) hso3 j rfl h1 fun ka hka => ?_
            refine (h.extN he3.drew).key i rfl hil fun kb hkb => ?_
            refine (c_rSame (hka.extN he3.drew) hkb (hsk j h1)).mono ?_
            rintro r w4 ⟨rfl, he4⟩
            exact ⟨_, rfl, fun h => ⟨h1, of_decide_eq_true h⟩, fun h _ => of_decide_eq_false h, hso3.extN he4.undrew, he3.drew.transN he4⟩
          · rintro vs g w4 ⟨t, rfl, ht, hf2, hso4, he4⟩
            cases t with
            | true =>
              obtain ⟨h1, h2⟩ := ht rfl
              refine xifT rfl ?_
              refine (h.extN he4).val i rfl hil ?_
              refine hso4.stV j rfl h1 h64 fun w5 hso5 he5 => ?_
              refine ⟨_, _, _, rfl, ?_, hso4.own he4 he5⟩
              rw [insK_set hjl h1 h2]
              rw [h2] at hso5
              exact hso5
            | false =>
              have hne := hf2 rfl
              refine xifF rfl ?_
              show XNew w4 [.slice none 0 0, u64 0] T_ref01_Pair _
              refine xnew fun a w5 ha hblk hz5 he5 => ?_
              have hsl1 : Sl w5 (tyQ T_ref01_Pair) (.slice (some ⟨a, 0, none⟩) 1 1) 2 1 [.slice none 0 0, u64 0] := hblk.sln rfl
              have hso5 := hso4.extN he5
              refine SO.app (m := [([], 0)]) ei_ref hso5 (he4.transN he5) hsl1 (PC.sing (Bs.nil w0) (by omega)) (by simp; omega) fun out' w6 hso6 he6 _ _ => ?_
              refine hso6.len ?_
              refine xi (r := (s.length : Int)) (by simp only [List.length_append, List.length_singleton]; rw [wrapI (by omega)]; omega) ?_
              refine xloop (fun n vs w' => ∃ (k : Nat) (q : Key × Nat), vs = [.int .i64 k] ∧ n = k ∧ j ≤ k ∧ k ≤ s.length ∧ SO w0 w' T_ref01_Pair out' (s.take k ++ q :: s.drop k) ∧ Ext No w0 w') s.length
                ⟨s.length, ([], 0), rfl, rfl, hj, Nat.le_refl _, by simpa using hso6, he6⟩ ?_
              rintro n vs g w7 ⟨k, q, rfl, hnk, hjk, hks, hso7, he7⟩
              have hlen7 : (s.take k ++ q :: s.drop k).length = s.length + 1 := by simp; omega
              refine xifD (fun hgt => ?_) fun hle => ?_
              · have hk1 : j < k := by omega
                refine xi (r := ((k - 1 : Nat) : Int)) (by rw [wrapI (by omega)]; omega) ?_
                refine hso7.rd (k - 1) rfl (by omega) fun kv hkv hv64 => ?_
                have hget : (s.take k ++ q :: s.drop k)[k - 1] = s[k - 1] := by
                  rw [List.getElem_append_left (by simp; omega), List.getElem_take]
                rw [hget] at hkv hv64 ⊢
                refine hso7.stP k rfl (by omega) hkv hv64 (by kernel_rfl) fun w8 hso8 he8 => ?_
                refine xi (r := ((k - 1 : Nat) : Int)) (by rw [wrapI (by omega)]; omega) ?_
                refine xnext (k - 1) (by omega) ⟨k - 1, s[k - 1], rfl, rfl, by omega, by omega, ?_, hso7.own he7 he8⟩
                have e1 : (s.take k ++ q :: s.drop k).set k (s[k - 1].1, s[k - 1].2) = s.take (k - 1) ++ s[k - 1] :: s.drop (k - 1) := by
                  rw [List.set_append_right _ _ (by simp; omega)]
                  have : k - (s.take k).length = 0 := by simp; omega
                  rw [this, List.set_cons_zero]
                  have e2 : s.take k = s.take (k - 1) ++ [s[k - 1]] := by
                    have := List.take_append_getElem (l := s) (i := k - 1) (by omega)
                    rw [show k - 1 + 1 = k by omega] at this
                    exact this.symm
                  have e3 : s.drop (k - 1) = s[k - 1] :: s.drop k := by
                    have := List.drop_eq_getElem_cons (l := s) (i := k - 1) (by omega)
                    rw [show k - 1 + 1 = k by omega] at this
                    exact this
                  rw [e2, e3, List.append_assoc]
                  rfl
                rw [e1] at hso8
                exact hso8
              · have hkj : k = j := by omega
                subst hkj
                refine h.rd0 he7 i rfl hil fun kv hkv => ?_
                refine hso7.stP k rfl (by omega) hkv h64 (by kernel_rfl) fun w8 hso8 he8 => ?_
                refine ⟨_, _, _, rfl, ?_, hso7.own he7 he8⟩
                have e1 : (s.take k ++ q :: s.drop k).set k (l[i].1, l[i].2) = s.take k ++ (l[i].1, l[i].2) :: s.drop k := by
                  rw [List.set_append_right _ _ (by simp; omega)]
                  have : k - (s.take k).length = 0 := by simp; omega
                  rw [this, List.set_cons_zero]
                rw [e1] at hso8
                rw [insK_ins hjl hj fun h => ⟨hnl h, hne h⟩]
                exact hso8
    · rintro vs g w2 ⟨x, out', y, rfl, hso2, he2⟩
      refine xi (r := ((i + 1 : Nat) : Int)) (by rw [wrapI (by omega)]; omega) ?_
      exact xnext (l.length - (i + 1)) (by omega) ⟨i + 1, _, _, _, rfl, rfl, by omega, hso2, he2⟩
  · have : i = l.length := by omega
    subst this
    rw [List.take_length] at hso
    exact ⟨hso, he⟩
end
end Go.Proofs.Ytidkkkdlaclolaa
end
section
section
namespace Go.Proofs.Ytidkkkdlaclolaa
open Go Go.RowKit X
set_option linter.unusedSimpArgs false
set_option linter.unusedVariables false
set_option linter.unusedSectionVars false
abbrev zero6 : List Value := [.int .i64 0, .slice none 0 0, .bool false, .int .u64 0, .slice none 0 0, .slice none 0 0]
theorem ei_node : EI P T_s_ref13_Node T_ref13_Node 6 96 (.agg #[.int .i64 0, .slice none 0 0, .bool false, .int .u64 0, .slice none 0 0, .slice none 0 0]) := ⟨by kernel_rfl, by kernel_rfl, by rfl, by omega⟩
theorem X.Sl.weakL {w : World} {T T' : Nat → TypeId → Prop} {v : Value} {sz n : Nat} {cells : List Value} (h : Sl w T v sz n cells) (ht : ∀ b t, b < w.heap.size → T b t → T' b t) : Sl w T' v sz n cells := by
  obtain ⟨a, cap, rfl, hl, hc, ha⟩ := h
  refine ⟨a, cap, rfl, hl, hc, ?_⟩
  cases a with
  | none => exact ha
  | some ad =>
    rcases ha with h0 | ⟨b, o, cs, t, fz, h1, hT, h2, h3, h4⟩
    · exact .inl h0
    exact .inr ⟨b, o, cs, t, fz, h1, ht b t (lt_of_get h2) hT, h2, h3, h4⟩
def kindR (n : Nat) : Nat := if n = 0 then 1 else kindN n
variable [Floor]
def QB (Q : Nat → Prop) : Nat → TypeId → Prop := fun b t => QT T_uint8 b t ∧ Q b
/-- six cells that tell a tree; what they lead to lies in blocks of Q -/
def RC (w : World) (Q : Nat → Prop) : E → List Value → Prop
  | .nil, cs => cs = zero6
  | .node part val kids, cs => ∃ vp vb vk cells, cs = [.int .i64 (kindR (dom fun c => (kids c).opt).length), vp, .bool val.isSome, u64 (val.getD 0), vb, vk] ∧ Sl w (QB Q) vp 1 part.length (part.map bv) ∧
      Sl w (QB Q) vb 1 (dom fun c => (kids c).opt).length ((dom fun c => (kids c).opt).map bv) ∧ Sl w (fun b _ => Q b) vk 6 (dom fun c => (kids c).opt).length cells ∧
      (∀ i c, (dom fun c => (kids c).opt)[i]? = some c → RC w Q (kids c) ((cells.drop (i * 6)).take 6)) ∧ part.length ≤ 65535 ∧ ∀ v, val = some v → v < 18446744073709551616
theorem RC.ext {X : Nat → Prop} {w w' : World} {Q : Nat → Prop} (e : Ext X w w') (hx : ∀ b, X b → b < w.heap.size → ¬ Q b) : ∀ {t : E} {cs : List Value}, RC w Q t cs → RC w' Q t cs := by
  intro t
  induction t with
  | nil => intro cs h; exact h
  | node part val kids ih =>
    rintro cs ⟨vp, vb, vk, cells, h1, h2, h3, h4, h5, h6⟩
    exact ⟨vp, vb, vk, cells, h1, h2.ext e fun b cs t fz hT hb hX => hx b hX (lt_of_get hb) hT.2, h3.ext e fun b cs t fz hT hb hX => hx b hX (lt_of_get hb) hT.2, h4.ext e fun b cs t fz hT hb hX => hx b hX (lt_of_get hb) hT,
      fun i c hc => ih c (h5 i c hc), h6⟩
theorem RC.extN {w w' : World} {Q : Nat → Prop} {t : E} {cs : List Value} (h : RC w Q t cs) (e : Ext No w w') : RC w' Q t cs := h.ext e fun _ h => h.elim
theorem RC.weak {w : World} {Q Q' : Nat → Prop} (hq : ∀ b, b < w.heap.size → Q b → Q' b) : ∀ {t : E} {cs : List Value}, RC w Q t cs → RC w Q' t cs := by
  intro t
  induction t with
  | nil => intro cs h; exact h
  | node part val kids ih =>
    rintro cs ⟨vp, vb, vk, cells, h1, h2, h3, h4, h5, h6⟩
    exact ⟨vp, vb, vk, cells, h1, h2.weakL fun b t hb h => ⟨h.1, hq b hb h.2⟩, h3.weakL fun b t hb h => ⟨h.1, hq b hb h.2⟩, h4.weakL fun b t hb h => hq b hb h, fun i c hc => ih c (h5 i c hc), h6⟩
theorem RC.len {w : World} {Q : Nat → Prop} {t : E} {cs : List Value} (h : RC w Q t cs) : cs.length = 6 ∧ ∀ u ∈ cs, u.oneCell' = true := by
  cases t with
  | nil => rw [show cs = zero6 from h]; exact ⟨rfl, fun u hu => by simp only [List.mem_cons, List.mem_nil_iff, or_false] at hu; rcases hu with rfl | rfl | rfl | rfl | rfl | rfl <;> rfl⟩
  | node part val kids =>
    obtain ⟨vp, vb, vk, cells, rfl, ⟨a1, c1, rfl, -⟩, ⟨a2, c2, rfl, -⟩, ⟨a3, c3, rfl, -⟩, -⟩ := h
    exact ⟨rfl, fun u hu => by simp only [List.mem_cons, List.mem_nil_iff, or_false] at hu; rcases hu with rfl | rfl | rfl | rfl | rfl | rfl <;> rfl⟩
section
variable {w : World} {v : Value} {l : Kv}
theorem c_rKindOf {n : Nat} (h : n ≤ 256) : Ret P n_ref11_KindOf [.int .i64 n] w fun r w' => r = .int .i64 (kindN n) ∧ w' = w := by
  refine W_ref11_KindOf ?_
  refine xj (fun vs w' => vs = [.bool false] ∧ w' = w) ?_ ?_
  · refine xifF (decide_eq_false (by omega)) ?_
    exact ⟨by rw [decide_eq_false (by omega)], rfl⟩
  · rintro vs g w1 ⟨rfl, rfl⟩
    refine xifF rfl ?_
    unfold kindN
    refine xifD (fun h => by rw [if_pos (by omega)]; exact ⟨rfl, rfl⟩) fun h1 => ?_
    rw [if_neg (by omega)]
    refine xifD (fun h => by rw [if_pos (by omega)]; exact ⟨rfl, rfl⟩) fun h2 => ?_
    rw [if_neg (by omega)]
    refine xifD (fun h => by rw [if_pos (by omega)]; exact ⟨rfl, rfl⟩) fun h3 => ?_
    rw [if_neg (by omega), if_pos (by omega)]
    exact ⟨rfl, rfl⟩
/-- how many bytes all begin with -/
theorem c_shared {x : Key × Nat} (h : Ps w v (x :: l)) (hl : l.length ≤ 1099511627776) (hk : x.1.length ≤ 4611686018427387904) : Ret P n_ref13_shared [v] w fun r w' => ∃ n : Nat, r = .int .i64 n ∧ Ext No w w' ∧ n ≤ x.1.length ∧ (∀ u ∈ x :: l, n ≤ common x.1 u.1) ∧ (n = x.1.length ∨ ∃ u ∈ x :: l, common x.1 u.1 = n) := by
  refine W_ref13_shared ?_
  refine h.key 0 rfl (by simp) fun k0 hk0 => ?_
  have hk0 : Bs w k0 x.1 := hk0
  refine hk0.len ?_
  refine xloop (fun nn vs w' => ∃ (i n : Nat), vs = [.int .i64 (i + 1 : Nat), .int .i64 n] ∧ nn = l.length - i ∧ i ≤ l.length ∧ n ≤ x.1.length ∧ (∀ u ∈ (x :: l).take (i + 1), n ≤ common x.1 u.1) ∧ (n = x.1.length ∨ ∃ u ∈ x :: l, common x.1 u.1 = n) ∧ Ext No w w') l.length
    ⟨0, x.1.length, rfl, rfl, by omega, Nat.le_refl _, fun u hu => ?_, .inl rfl, Ext.refl _ _⟩ ?_
  · simp at hu; subst hu
    exact common_ge (List.prefix_refl _) (List.prefix_refl _)
  rintro nn vs g w1 ⟨i, n, rfl, rfl, hi, hn, hall, hex, he⟩
  refine h.len ?_
  refine xifD (fun hlt => ?_) fun hge => ?_
  · have hil : i + 1 < (x :: l).length := by omega
    refine (h.extN he.drew).key 0 rfl (by simp) fun ka hka => ?_
    have hka : Bs w1.drew ka x.1 := hka
    refine (h.extN he.drew).key (i + 1) rfl hil fun kb hkb => ?_
    refine (c_rCommon hka hkb hk).mono ?_
    rintro r w2 ⟨rfl, he2⟩
    refine xi (r := ((i + 1 + 1 : Nat) : Int)) (by simp at hil; rw [wrapI (by omega)]; omega) ?_
    have hmin : ((if (common x.1 (x :: l)[i + 1].1 : Int) < (n : Int) then (common x.1 (x :: l)[i + 1].1 : Int) else (n : Int))) = ((min n (common x.1 (x :: l)[i + 1].1) : Nat) : Int) := by split <;> omega
    have hm1 : (x :: l)[i + 1] ∈ x :: l := List.getElem_mem hil
    refine xnext (l.length - (i + 1)) (by simp at hil; omega) ⟨i + 1, min n (common x.1 (x :: l)[i + 1].1), ?_, rfl, by simp at hil; omega, by omega, fun u hu => ?_, ?_, he.drew.transN he2⟩
    · rw [hmin]
    · rw [← List.take_append_getElem hil] at hu
      rcases List.mem_append.1 hu with e | e
      · have := hall u e; omega
      · rw [List.mem_singleton.1 e]; omega
    · rcases Nat.lt_or_ge (common x.1 (x :: l)[i + 1].1) n with c | c
      · exact .inr ⟨_, hm1, by omega⟩
      · rw [Nat.min_eq_left c]; exact hex
  · have : i = l.length := by simp at hge; omega
    subst this
    rw [List.take_of_length_le (by simp)] at hall
    exact ⟨n, rfl, he, hn, hall, hex⟩
theorem Ps.valK {K : Value → Value → Prop} {kd : IntKind} {i : Int} (h : Ps w v l) (m : Nat) (hi : i = (m : Int)) (hm : m < l.length) (k : ∀ p, (∀ w', Ps w' v l → xKeep1 w' p (u64 l[m].2)) → K p (u64 l[m].2)) :
    xIxS v (.int kd i) 2 fun u => xFld u 1 fun p => xAt p fun a => XLd w a fun x => K p x := by
  have key : ∀ w', Ps w' v l → ∃ a cap, v = .slice (some a) l.length cap ∧ w'.cell? ((a.add (m * 2)).add 1) = some (u64 l[m].2) := by
    rintro w' ⟨T, cells, hT, h1, h2⟩
    obtain ⟨kv, -, -, h3, -⟩ := h2.at_ m l[m] (List.getElem?_eq_getElem hm)
    obtain ⟨a, cap, rfl, hc⟩ := h1.cell hm (show 1 < 2 by omega)
    exact ⟨a, cap, rfl, by rw [hc, h3]⟩
  obtain ⟨a, cap, rfl, hc⟩ := key w h
  refine ⟨m, hi, hm, ⟨_, hc, k _ fun w' h' => ?_⟩⟩
  obtain ⟨a', cap', e, hc'⟩ := key w' h'
  simp only [Value.slice.injEq, Option.some.injEq] at e
  obtain ⟨rfl, -, rfl⟩ := e
  exact hc'
end
end Go.Proofs.Ytidkkkdlaclolaa
end
section
namespace Go.Proofs.Ytidkkkdlaclolaa
open Go Go.RowKit X
set_option linter.unusedSimpArgs false
set_option linter.unusedVariables false
set_option linter.unusedSectionVars false
theorem dom_noE : (dom fun c => (noE c).opt) = [] := dom_none
theorem dom_app {kids : UInt8 → E} {b : UInt8} {e : E} (he : e.opt.isSome) (hlt : ∀ c ∈ dom (fun c => (kids c).opt), c.toNat < b.toNat) : (dom fun c => (updE kids b e c).opt) = (dom fun c => (kids c).opt) ++ [b] := by
  refine dom_eq ?_ fun c => ?_
  · refine List.pairwise_append.2 ⟨dom_rise _, List.pairwise_singleton _ _, fun c hc d hd => ?_⟩
    rw [List.mem_singleton.1 hd]
    exact hlt c hc
  · rw [List.mem_append, dom_mem, List.mem_singleton]
    by_cases h : c = b
    · subst h; rw [updE_same]; simp [he]
    · rw [updE_other _ _ h]; simp [h]
variable [Floor]
section
theorem RC.fresh {w w' : World} {Q : Nat → Prop} {e : E} {cs : List Value} (h : RC w Q e cs) (he : Ext No w w') : RC w' (fun b => Q b ∧ b < w.heap.size) e cs := (h.weak fun b hb hq => ⟨hq, hb⟩).extN he
/-- where two keys part is the last place of all -/
theorem shared_max {x : Key × Nat} {l : Kv} {n : Nat} (hr : Rises (x :: l)) (hn : n ≤ x.1.length) (hall : ∀ u ∈ x :: l, n ≤ common x.1 u.1) (hex : n = x.1.length ∨ ∃ u ∈ x :: l, common x.1 u.1 = n) :
    (∀ u ∈ x :: l, x.1.take n <+: u.1) ∧ ((x.1.take n).length = x.1.length ∨ ∃ u ∈ x :: l, (x.1.take n).length < u.1.length ∧ byteAt (x.1.take n).length u.1 ≠ byteAt (x.1.take n).length x.1) := by
  have hql : (x.1.take n).length = n := by rw [List.length_take]; omega
  refine ⟨fun u hu => ?_, ?_⟩
  · have h1 := common_take x.1 u.1
    have h2 := hall u hu
    have : x.1.take n = (x.1.take (common x.1 u.1)).take n := by rw [List.take_take, Nat.min_eq_left h2]
    rw [this]
    exact (List.take_prefix _ _).trans h1
  · rw [hql]
    rcases hex with h | ⟨u, hu, h⟩
    · exact .inl h
    · by_cases e : n = x.1.length
      · exact .inl e
      · right
        have hcl := common_le x.1 u.1
        have hul : n < u.1.length := by
          refine Classical.byContradiction fun hh => ?_
          have hlen : u.1.length = n := by omega
          have hp : u.1 <+: x.1 := by
            have := common_take u.1 x.1
            rw [common_comm, h, ← hlen, List.take_length] at this
            exact this
          obtain ⟨s, hs⟩ := hp
          rcases hr.first hu with h' | h'
          · rw [← hs] at h'
            have : kcmp (u.1 ++ s) (u.1 ++ []) < 0 := by rw [List.append_nil]; exact h'
            rw [kcmp_app] at this
            cases s with
            | nil => exact absurd this (by decide)
            | cons c s => rw [kcmp_cn] at this; exact absurd this (by decide)
          · rw [h'] at e; exact e hlen.symm
        refine ⟨u, hu, hul, ?_⟩
        have := common_ne (a := x.1) (b := u.1) (by omega) (by omega)
        rw [h] at this
        exact this.symm
theorem Own.ne {w : World} {B B' : Nat} {e e' : TypeId} {sz sz' n n' : Nat} {v v' : Value} {xs xs' : List Value} (h : Own w B e sz v n xs) (h' : Own w B' e' sz' v' n' xs') (he : e ≠ e') {b : Nat} (hb : v.ownBlock = some b) : v'.ownBlock ≠ some b := fun hb' => by
  rcases h.2 with ⟨rfl, -⟩ | ⟨g, cap, cur, rfl, -, hg, -⟩
  · cases hb
  · rcases h'.2 with ⟨rfl, -⟩ | ⟨g', cap', cur', rfl, -, hg', -⟩
    · cases hb'
    · simp only [Value.ownBlock, Option.some.injEq] at hb hb'
      subst hb; subst hb'
      have := hg.symm.trans hg'
      simp at this
      exact he this.2
theorem Own.neB {w : World} {B b : Nat} {e T : TypeId} {sz n : Nat} {v : Value} {xs cs : List Value} (h : Own w B e sz v n xs) (hb : Blk w b cs T) (he : e ≠ T) : v.ownBlock ≠ some b := fun hb' => by
  rcases h.2 with ⟨rfl, -⟩ | ⟨g, cap, cur, rfl, -, hg, -⟩
  · cases hb'
  · simp only [Value.ownBlock, Option.some.injEq] at hb'
    subst hb'
    have := hg.symm.trans hb.h
    simp at this
    exact he this.2
theorem six {cs : List Value} (h : cs.length = 6) : ∃ a b c d e f, cs = [a, b, c, d, e, f] := by
  match cs, h with
  | [a, b, c, d, e, f], _ => exact ⟨a, b, c, d, e, f, rfl⟩
set_option maxHeartbeats 4000000 in
theorem c_rbuild : ∀ (k : Nat) {wB w : World} {v : Value} {l : Kv} {p : Key}, l.length ≤ k → l.length ≤ 1099511627776 → Ps wB v l → Ext No wB w → Rises l → (∀ x ∈ l, x.1.length ≤ 65535) → (∀ x ∈ l, p <+: x.1) → p.length ≤ 65536 →
    Ret P n_ref13_build [v, .int .i64 p.length] w fun r w' => ∃ e cs, r = .agg cs.toArray ∧ RC w' (fun b => b < wB.heap.size ∨ w.heap.size ≤ b) e cs ∧ Can e (fun r => look l (p ++ r)) ∧ Ext No w w' := by
  intro k
  induction k with
  | zero =>
    intro wB w v l p hk hll hv heB hr hs hb hpl
    have : l = [] := List.eq_nil_of_length_eq_zero (by omega)
    subst this
    refine W_ref13_build ?_
    refine xnew fun rb w1 hrb hrblk hrz he1 => ?_
    refine hv.len ?_
    refine xifT rfl ?_
    show XDo P (storeVar T_ref13_Node ⟨rb, 0, none⟩ (.agg zero6.toArray)) w1 _
    refine xstoreVar hrblk (by kernel_rfl) (by simp) (RC.len (w := w) (Q := fun _ => True) (t := .nil) rfl).2 fun w2 hb2 hz2 he2 => ?_
    refine hb2.ldA (by simp) ?_
    exact ⟨.nil, _, rfl, by simp [RC], ⟨trivial, fun _ => rfl⟩, he1.trans1 he2 (by omega)⟩
  | succ k ih =>
    intro wB w v l p hk hll hv heB hr hs hb hpl
    refine W_ref13_build ?_
    refine xnew fun rb w1 hrb hrblk hrz he1 => ?_
    have hE1 : Ext No wB w1 := heB.transN he1
    refine hv.len ?_
    match l, hk, hll, hv, hr, hs, hb with
    | [], _, _, _, _, _, _ =>
      refine xifT rfl ?_
      show XDo P (storeVar T_ref13_Node ⟨rb, 0, none⟩ (.agg zero6.toArray)) w1 _
      refine xstoreVar hrblk (by kernel_rfl) (by simp) (RC.len (w := w) (Q := fun _ => True) (t := .nil) rfl).2 fun w2 hb2 hz2 he2 => ?_
      refine hb2.ldA (by simp) ?_
      exact ⟨.nil, _, rfl, by simp [RC], ⟨trivial, fun _ => rfl⟩, he1.trans1 he2 (by omega)⟩
    | [x], _, _, hv, hr, hs, hb =>
      refine xifF rfl ?_
      refine hv.len ?_
      refine xifT rfl ?_
      obtain ⟨s, hxs⟩ := hb x (by simp)
      have hle := hs x (by simp)
      have hsl : s.length ≤ 65535 := by rw [← hxs] at hle; simp at hle; omega
      refine hv.key0 hE1.drew 0 rfl (by simp) fun kv hkv => ?_
      refine hkv.drop p.length rfl (by show p.length ≤ x.1.length; rw [← hxs]; simp) fun kv' hkv' => ?_
      have he : x.1.drop p.length = s := by rw [← hxs, List.drop_left]
      have hkv' : Bs wB kv' s := by rw [← he]; exact hkv'
      refine (hv.extN hE1.drew).val 0 rfl (by simp) ?_
      have hx64 := hv.v64 x (by simp)
      obtain ⟨sa, sc, rfl⟩ := hkv'.slice
      show XDo P (storeVar T_ref13_Node ⟨rb, 0, none⟩ (.agg (List.toArray [.int .i64 1, .slice sa s.length sc, .bool true, u64 x.2, .slice none 0 0, .slice none 0 0]))) w1.drew _
      refine xstoreVar hrblk.drew (by kernel_rfl) (by simp) (fun u hu => by
        simp only [List.mem_cons, List.mem_nil_iff, or_false] at hu
        rcases hu with rfl | rfl | rfl | rfl | rfl | rfl
        · rfl
        · exact hkv'.one1
        · rfl
        · rfl
        · rfl
        · rfl) fun w2 hb2 hz2 he2 => ?_
      refine hb2.ldA (by simp) ?_
      have hz1 := he1.size
      have hE2 : Ext No w w2 := he1.drew.trans1 he2 (by omega)
      refine ⟨.node s (some x.2) noE, [.int .i64 1, .slice sa s.length sc, .bool true, u64 x.2, .slice none 0 0, .slice none 0 0], by simp, ?_, ?_, hE2⟩
      · refine ⟨.slice sa s.length sc, .slice none 0 0, .slice none 0 0, [], by rw [dom_noE]; rfl, ?_, by rw [dom_noE]; exact Sl.nil, by rw [dom_noE]; exact Sl.nil, fun i c hc => (by rw [dom_noE] at hc; cases hc), hsl, fun v hv => by cases hv; exact hx64⟩
        exact (Sl.weakL hkv' fun b t hb h => ⟨h, .inl hb⟩).extN (heB.transN hE2)
      · refine Can.leaf fun r => ?_
        show (if x.1 = p ++ r then some x.2 else none) = _
        rw [← hxs]
        by_cases e : r = s
        · subst e; rw [if_pos rfl, if_pos rfl]
        · rw [if_neg e, if_neg fun h => e (List.append_cancel_left h).symm]
    | x :: y :: l, hk, hll, hv, hr, hs, hb =>
      refine xifF (by simp; omega) ?_
      refine hv.len ?_
      refine xifF (by simp; omega) ?_
      have hll2 : l.length + 2 ≤ 1099511627776 := by simpa using hll
      have hx := hs x (by simp)
      refine (c_shared (hv.extN hE1) (by simp; omega) (by omega)).mono ?_
      rintro r w2 ⟨n, rfl, he2, hn, hall, hex⟩
      obtain ⟨hpre, hmax⟩ := shared_max hr hn hall hex
      have hpt := Parts.of hr (by simp) hpre hmax
      generalize hqq : x.1.take n = q at hpt hpre hmax
      have hql : q.length = n := by rw [← hqq, List.length_take]; omega
      have hE2 := hE1.transN he2
      have hpq : p.length ≤ q.length := by
        rw [hql]
        rcases hex with h | ⟨u, hu, h⟩
        · rw [h]; exact (hb x (by simp)).length_le
        · rw [← h]; exact common_ge (hb x (by simp)) (hb u hu)
      have hpp : ∃ part, q = p ++ part := by
        obtain ⟨s, hs'⟩ : p <+: q := List.prefix_of_prefix_length_le (hb x (by simp)) (hpre x (by simp)) hpq
        exact ⟨s, hs'.symm⟩
      obtain ⟨part, hpart⟩ := hpp
      have hpl2 : part.length ≤ 65535 := by
        have := congrArg List.length hpart
        simp at this
        omega
      refine hv.key0 hE2 0 rfl (by simp) fun kx hkx => ?_
      have hkx : Bs wB kx x.1 := hkx
      refine hkx.part p.length n rfl rfl (by omega) hn fun vp hvp => ?_
      have hvp : Bs wB vp part := by
        have e : (x.1.drop p.length).take (n - p.length) = part := by
          obtain ⟨s, hs'⟩ := hpre x (by simp)
          rw [← hs', hpart]
          have : n = p.length + part.length := by rw [← hql, hpart]; simp
          rw [this]
          simp [List.append_assoc]
        rwa [e] at hvp
      obtain ⟨pa, pc, hpv⟩ := hvp.slice
      subst hpv
      have hnbfill : ∀ K : List Value → Prop, K [.int .i64 0, .slice pa part.length pc, .bool false, .int .u64 0, .slice none 0 0, .slice none 0 0] → xFill zero6 [(1, 1, .slice pa part.length pc)] K := fun K k => k
      refine hnbfill _ ?_
      refine xnew fun nb w3 hnb hnblk hnz he3 => ?_
      refine xstoreVar hnblk (by kernel_rfl) (by simp) (fun u hu => by
        simp only [List.mem_cons, List.mem_nil_iff, or_false] at hu
        rcases hu with rfl | rfl | rfl | rfl | rfl | rfl <;> rfl) fun w4 hb4 hz4 he4 => ?_
      have hb4 : Blk w4 nb [.int .i64 0, .slice pa part.length pc, .bool false, .int .u64 0, .slice none 0 0, .slice none 0 0] T_ref13_Node := by simpa using hb4
      have z1 := he1.size
      have z2 := he2.size
      have hE4 : Ext No w w4 := ((he1.transN he2).transN he3).trans1 he4 (by omega)
      have hEB4 : Ext No wB w4 := heB.transN hE4
      have hzB := heB.size
      have hrb4 : Blk w4 rb zero6 T_ref13_Node := (((hrblk.ext he2 fun h => h).ext he3 fun h => h).ext he4 fun e => by have : rb = nb := e; omega)
      generalize hL' : (if x.1.length = q.length then y :: l else x :: y :: l) = L' at hpt
      generalize hval : (if x.1.length = q.length then some x.2 else none) = val at hpt
      have hx64 := hv.v64 x (by simp)
      have hval64 : ∀ v, val = some v → v < 18446744073709551616 := by
        intro v hv'; rw [← hval] at hv'; split at hv'
        · cases hv'; exact hx64
        · cases hv'
      refine xj (fun vs w' => ∃ i, vs = [.int .i64 (i : Nat)] ∧ (x :: y :: l).drop i = L' ∧ i ≤ 1 ∧ Blk w' nb [.int .i64 0, .slice pa part.length pc, .bool val.isSome, u64 (val.getD 0), .slice none 0 0, .slice none 0 0] T_ref13_Node ∧ Blk w' rb zero6 T_ref13_Node ∧ Ext No w w') ?_ ?_
      · refine hv.key0 hEB4 0 rfl (by simp) fun ky hky => ?_
        have hky : Bs wB ky x.1 := hky
        refine hky.len ?_
        refine xifE (fun e => ?_) fun e => ?_
        · have e : x.1.length = q.length := by omega
          rw [if_pos e] at hL' hval
          subst hL'; subst hval
          have hvd := hv.extN hEB4.drew
          refine hvd.valK 0 rfl (by simp) fun pp hpp => ?_
          refine hb4.drew.st1 (o := 2) (by simp) rfl rfl fun w5 hb5 hz5 he5 => ?_
          have hE5 : Ext No w w5 := hE4.drew.trans1 he5 (by omega)
          refine ⟨hpp _ (hv.extN (heB.transN hE5)), ?_⟩
          refine hb5.st1 (o := 3) (by simp) rfl rfl fun w6 hb6 hz6 he6 => ?_
          exact ⟨1, rfl, rfl, Nat.le_refl _, hb6, (hrb4.drew.ext he5 fun e => by have : rb = nb := e; omega).ext he6 fun e => by have : rb = nb := e; omega, hE5.trans1 he6 (by omega)⟩
        · have e : x.1.length ≠ q.length := by omega
          rw [if_neg e] at hL' hval
          subst hL'; subst hval
          exact ⟨0, rfl, rfl, by omega, hb4, hrb4, hE4⟩
      · rintro vs g w5 ⟨i0, rfl, hi0, hi01, hb5, hrb5, hE5⟩
        have hLr : Rises L' := by rw [← hi0]; exact List.Pairwise.drop hr
        have hLs : ∀ u ∈ L', u ∈ x :: y :: l := by rw [← hi0]; exact fun u hu => List.mem_of_mem_drop hu
        have hnbB : w.heap.size ≤ nb := by omega
        refine xloop (fun nn vs w' => ∃ (i : Nat) (xj vb vk : Value) (done : Kv) (kids : UInt8 → E) (cells : List Value), vs = [.int .i64 i, xj] ∧ nn = (x :: y :: l).length - i ∧ i ≤ (x :: y :: l).length ∧ done ++ (x :: y :: l).drop i = L' ∧
          Blk w' nb [.int .i64 0, .slice pa part.length pc, .bool val.isSome, u64 (val.getD 0), vb, vk] T_ref13_Node ∧ Blk w' rb zero6 T_ref13_Node ∧ Ext No w w' ∧
          Own w' w.heap.size T_uint8 1 vb (dom fun c => (kids c).opt).length ((dom fun c => (kids c).opt).map bv) ∧ Own w' w.heap.size T_ref13_Node 6 vk (dom fun c => (kids c).opt).length cells ∧ vk.ownBlock ≠ some nb ∧ vk.ownBlock ≠ some rb ∧
          (∀ j c, (dom fun c => (kids c).opt)[j]? = some c → RC w' (fun b => b < wB.heap.size ∨ (w.heap.size ≤ b ∧ b ≠ nb ∧ b ≠ rb ∧ vb.ownBlock ≠ some b ∧ vk.ownBlock ≠ some b)) (kids c) ((cells.drop (j * 6)).take 6)) ∧
          (∀ c, Can (kids c) fun r => look done (q ++ c :: r)) ∧ (∀ u ∈ done, ∀ y' ∈ (x :: y :: l).drop i, (byteAt q.length u.1).toNat < (byteAt q.length y'.1).toNat)) ((x :: y :: l).length - i0)
          ⟨i0, _, .slice none 0 0, .slice none 0 0, [], noE, [], rfl, rfl, by simp; omega, by rw [List.nil_append, hi0], hb5, hrb5, hE5, by rw [dom_noE]; exact Own.nil _ _ _ _, by rw [dom_noE]; exact Own.nil _ _ _ _, (fun h => by cases h), (fun h => by cases h), (fun j c hc => by rw [dom_noE] at hc; cases hc), fun c => ⟨trivial, fun _ => rfl⟩, fun u hu => by cases hu⟩ ?_
        rintro nn vs g w6 ⟨i, xj0, vb, vk, done, kids, cells, rfl, rfl, hi, hdr, hb6, hrb6, hE6, hovb, hovk, hvknb, hvkrb, hrc, hcan, hsep⟩
        have hEB6 := heB.transN hE6
        refine hv.len ?_
        have hrest : ∀ u ∈ (x :: y :: l).drop i, u ∈ L' := fun u hu => by rw [← hdr]; exact List.mem_append_right _ hu
        have hdone : ∀ u ∈ done, u ∈ L' := fun u hu => by rw [← hdr]; exact List.mem_append_left _ hu
        refine xifD (fun hlt => ?_) fun hge => ?_
        · have hil : i < (x :: y :: l).length := by omega
          have hlong : Longer q ((x :: y :: l).drop i) := fun u hu => hpt.long u (hrest u hu)
          have hrr : Rises ((x :: y :: l).drop i) := List.Pairwise.drop hr
          have hmem : ∀ j (h : j < (x :: y :: l).length), i ≤ j → (x :: y :: l)[j] ∈ (x :: y :: l).drop i := fun j h hij => by
            rw [List.mem_drop_iff_getElem]
            exact ⟨j - i, by omega, by simp [show i + (j - i) = j by omega]⟩
          have hlm : ∀ j (h : j < (x :: y :: l).length), i ≤ j → n < ((x :: y :: l)[j]).1.length := fun j h hij => by rw [← hql]; exact hlong.lt (hmem j h hij)
          generalize hbb : byteAt q.length ((x :: y :: l)[i]).1 = bb
          refine xloop (fun nn vs w' => ∃ j : Nat, vs = [.int .i64 j] ∧ nn = (x :: y :: l).length - j ∧ i ≤ j ∧ j ≤ (x :: y :: l).length ∧ (∀ u ∈ ((x :: y :: l).drop i).take (j - i), byteAt q.length u.1 = bb) ∧ Ext No w6 w') ((x :: y :: l).length - i)
            ⟨i, rfl, rfl, Nat.le_refl _, hi, by simp, Ext.refl _ _⟩ ?_
          rintro nn vs g w7 ⟨j, rfl, rfl, hij, hjl, hmall, hE7⟩
          have hEB7 := hEB6.transN hE7
          refine xj (fun vs w' => ∃ t : Bool, vs = [.bool t] ∧ Ext No w6 w' ∧ (t = true → ∃ h : j < (x :: y :: l).length, byteAt q.length ((x :: y :: l)[j]).1 = bb) ∧ (t = false → ∀ h : j < (x :: y :: l).length, byteAt q.length ((x :: y :: l)[j]).1 ≠ bb)) ?_ ?_
          · refine hv.len ?_
            refine xifD (fun h1 => ?_) fun h1 => ⟨false, rfl, hE7.drew, fun h => (by cases h), fun _ h => by omega⟩
            have hjl' : j < (x :: y :: l).length := by omega
            refine (hv.extN hEB7.drew).key j rfl hjl' fun ka hka => ?_
            refine hka.rd n (hlm j hjl' hij) rfl ?_
            refine (hv.extN hEB7.drew).key i rfl hil fun kb hkb => ?_
            refine hkb.rd n (hlm i hil (Nat.le_refl _)) rfl ?_
            rw [byteAt_get, byteAt_get, ← hql, hbb]
            refine ⟨_, rfl, hE7.drew, fun h => ⟨hjl', ?_⟩, fun h _ e => ?_⟩
            · exact UInt8.toNat_inj.1 (by exact_mod_cast (by simpa using h : ((byteAt q.length ((x :: y :: l)[j]).1).toNat : Int) = (bb.toNat : Int)))
            · rw [e] at h; simp at h
          · rintro vs g w8 ⟨t, rfl, hE8, ht, hf⟩
            have hEB8 := hEB6.transN hE8
            cases t with
            | true =>
              obtain ⟨hjl', hbj⟩ := ht rfl
              refine xifT rfl ?_
              refine xi (r := ((j + 1 : Nat) : Int)) (by rw [wrapI (by omega)]; omega) ?_
              refine xnext ((x :: y :: l).length - (j + 1)) (by omega) ⟨j + 1, rfl, rfl, by omega, by omega, fun u hu => ?_, hE8⟩
              rw [show j + 1 - i = (j - i) + 1 by omega, ← List.take_append_getElem (show j - i < ((x :: y :: l).drop i).length by rw [List.length_drop]; omega)] at hu
              rcases List.mem_append.1 hu with e | e
              · exact hmall u e
              · rw [List.mem_singleton.1 e, List.getElem_drop]
                simp only [show i + (j - i) = j by omega]
                exact hbj
            | false =>
              have hstop := hf rfl
              refine xifF rfl ?_
              have hjgt : i < j := by
                refine Classical.byContradiction fun hn => ?_
                have e : j = i := by omega
                subst e
                exact hstop hil hbb
              have hdrop0 := hrr.groups hlong (n := j - i) hmall (by omega) (fun y' hy' => by
                rw [List.getElem?_drop, show i + (j - i) = j by omega] at hy'
                obtain ⟨h1, h2⟩ := List.getElem?_eq_some_iff.1 hy'
                rw [← h2]; exact hstop h1)
              rw [List.drop_drop, show i + (j - i) = j by omega] at hdrop0
              have hgmem : (x :: y :: l)[i] ∈ ((x :: y :: l).drop i).take (j - i) := by
                rw [List.mem_take_iff_getElem]
                exact ⟨0, by rw [List.length_drop]; omega, by simp⟩
              have hb8 := (hb6.ext hE8 fun h => h).drew
              have hrb8 := (hrb6.ext hE8 fun h => h).drew
              have hEw8 : Ext No w w8.drew := (hE6.transN hE8).drew
              refine hb8.ld (o := 4) (v := vb) rfl ?_
              refine (hv.extN hEB8.drew).key i rfl hil fun kb hkb => ?_
              refine hkb.rd n (hlm i hil (Nat.le_refl _)) rfl ?_
              rw [byteAt_get, ← hql, hbb]
              show XNew w8.drew [bv bb] T_uint8 _
              refine xnew fun tb w9 htb htblk htz he9 => ?_
              have hovb8 : Own w8.drew w.heap.size T_uint8 1 vb (dom fun c => (kids c).opt).length ((dom fun c => (kids c).opt).map bv) := Own.extN hovb hE8.drew
              have hovk8 : Own w8.drew w.heap.size T_ref13_Node 6 vk (dom fun c => (kids c).opt).length cells := Own.extN hovk hE8.drew
              have hb9 := hb8.ext he9 fun h => h
              have hrb9 := hrb8.ext he9 fun h => h
              have hovb9 := Own.extN hovb8 he9
              have hovk9 := Own.extN hovk8 he9
              have hEw9 : Ext No w w9 := hEw8.transN he9
              refine ⟨(hb9.cell 4).trans rfl, ?_⟩
              have hsl1 : Sl w9 (tyQ T_uint8) (.slice (some ⟨tb, 0, none⟩) 1 1) 1 1 [bv bb] := by
                have := htblk.sl (o := 0) (n := 1) (cap := 1) (by simp) (Nat.le_refl _)
                simpa using this
              have hdle : (dom fun c => (kids c).opt).length ≤ 256 := cnt_le _
              have hz9 := hEw9.size
              refine app_own ei_u8 hovb9 hz9 hsl1 (fun u hu => by rw [List.mem_singleton.1 hu]; rfl) (by omega) (by omega) fun vb' w10 hovb10 he10 _ hvbb => ?_
              have hne_vb_nb : vb.ownBlock ≠ some nb := Own.neB hovb9 hb9 (by decide)
              have hne_vb_rb : vb.ownBlock ≠ some rb := Own.neB hovb9 hrb9 (by decide)
              have hb10 := hb9.ext he10 hne_vb_nb
              have hrb10 := hrb9.ext he10 hne_vb_rb
              have hovk10 : Own w10 w.heap.size T_ref13_Node 6 vk (dom fun c => (kids c).opt).length cells := Own.ext hovk9 he10 fun b hb hb' => Own.ne hovk9 hovb9 (by decide) hb hb'
              have hEw10 : Ext No w w10 := hEw9.own hovb9 (Nat.le_refl _) he10
              have hne_vb'_nb : vb'.ownBlock ≠ some nb := Own.neB hovb10 hb10 (by decide)
              have hne_vb'_rb : vb'.ownBlock ≠ some rb := Own.neB hovb10 hrb10 (by decide)
              refine hb10.st1 (o := 4) (by simp) (Own.one1 hovb10) rfl fun w11 hb11 hz11 he11 => ?_
              have hb11 : Blk w11 nb [.int .i64 0, .slice pa part.length pc, .bool val.isSome, u64 (val.getD 0), vb', vk] T_ref13_Node := hb11
              have hrb11 := hrb10.ext he11 fun e => by have : rb = nb := e; omega
              have hovb11 := Own.ext hovb10 he11 fun b hb e => hne_vb'_nb (by rw [hb]; exact congrArg some e)
              have hovk11 := Own.ext hovk10 he11 fun b hb e => hvknb (by rw [hb]; exact congrArg some e)
              have hEw11 : Ext No w w11 := hEw10.trans1 he11 hnbB
              refine hb11.drew.ld (o := 5) (v := vk) rfl ?_
              refine hv.part i j rfl rfl hij hjl fun vg hvg => ?_
              refine xi (r := (((q ++ [bb]).length : Nat) : Int)) (by rw [wrapI (by omega)]; simp [hql]) ?_
              have hgk : (((x :: y :: l).drop i).take (j - i)).length ≤ k := by
                have hk' : l.length + 1 ≤ k := by simp at hk; omega
                have h1 : (((x :: y :: l).drop i).take (j - i)).length ≤ j - i := by rw [List.length_take]; omega
                have h2 : (x :: y :: l).length = l.length + 2 := by simp
                by_cases e : x.1.length = q.length
                · rw [if_pos e] at hL'
                  have h3 : L'.length = l.length + 1 := by rw [← hL']; simp
                  have h4 : done.length + ((x :: y :: l).length - i) = L'.length := by rw [← hdr]; simp
                  omega
                · refine Classical.byContradiction fun hn' => ?_
                  rw [if_neg e] at hL' hval
                  have hi' : i = 0 := by omega
                  have hj' : j = l.length + 2 := by omega
                  subst hi'
                  rw [List.drop_zero, hj', Nat.sub_zero, List.take_of_length_le (by simp)] at hmall
                  obtain ⟨u, hu, c, r, hc, h | ⟨u', hu', d, r', hd, hcd⟩⟩ := hpt.two
                  · rw [← hval] at h; cases h
                  · apply hcd
                    have e1 := hmall u hu
                    have e2 := hmall u' hu'
                    rw [hc, byteAt_app] at e1
                    rw [hd, byteAt_app] at e2
                    rw [e1, e2]
              have hEB11 : Ext No wB w11.drew := (heB.transN hEw11).drew
              refine (ih hgk (by rw [List.length_take]; omega) hvg hEB11 (List.Pairwise.sublist (List.take_sublist _ _) hrr) (fun u hu => hs u (hLs u (hrest u (List.mem_of_mem_take hu)))) (fun u hu => ?_) (by simp; omega)).mono ?_
              · obtain ⟨c, r, hc⟩ := hlong u (List.mem_of_mem_take hu)
                have := hmall u hu
                rw [hc, byteAt_app] at this
                rw [hc, this]
                exact ⟨r, by simp⟩
              · rintro r w12 ⟨e, cs, rfl, hrce, hcane, he12⟩
                have he12' : Ext No w11 w12 := he12.undrew
                obtain ⟨c0, c1, c2, c3, c4, c5, hcs⟩ := six hrce.len.1
                have hcs1 := hrce.len.2
                have hb12 := hb11.ext he12' fun h => h
                have hrb12 := hrb11.ext he12' fun h => h
                have hovb12 := Own.extN hovb11 he12'
                have hovk12 := Own.extN hovk11 he12'
                have hEw12 : Ext No w w12 := hEw11.transN he12'
                refine ⟨(hb12.cell 5).trans rfl, ?_⟩
                rw [hcs]
                show XNew w12 [c0, c1, c2, c3, c4, c5] T_ref13_Node _
                rw [← hcs]
                refine xnew fun tb2 w13 htb2 htblk2 htz2 he13 => ?_
                have hb13 := hb12.ext he13 fun h => h
                have hrb13 := hrb12.ext he13 fun h => h
                have hovb13 := Own.extN hovb12 he13
                have hovk13 := Own.extN hovk12 he13
                have hEw13 : Ext No w w13 := hEw12.transN he13
                refine ⟨(hb13.cell 5).trans rfl, ?_⟩
                have hsl2 : Sl w13 (tyQ T_ref13_Node) (.slice (some ⟨tb2, 0, none⟩) 1 1) 6 1 cs := htblk2.sln (by rw [hrce.len.1])
                have hz13 := hEw13.size
                refine app_own ei_node hovk13 hz13 hsl2 hcs1 (by omega) (by omega) fun vk' w14 hovk14 he14 _ hvkb => ?_
                have hb14 := hb13.ext he14 hvknb
                have hrb14 := hrb13.ext he14 hvkrb
                have hovb14 := Own.ext hovb13 he14 fun b hb hb' => Own.ne hovb13 hovk13 (by decide) hb hb'
                have hEw14 : Ext No w w14 := hEw13.own hovk13 (Nat.le_refl _) he14
                have hvk'nb : vk'.ownBlock ≠ some nb := fun h => by
                  rcases hvkb nb h with h' | h'
                  · exact hvknb h'
                  · have := hb13.lt; omega
                have hvk'rb : vk'.ownBlock ≠ some rb := fun h => by
                  rcases hvkb rb h with h' | h'
                  · exact hvkrb h'
                  · have := hrb13.lt; omega
                refine hb14.st1 (o := 5) (by simp) (Own.one1 hovk14) rfl fun w15 hb15 hz15 he15 => ?_
                have hb15 : Blk w15 nb [.int .i64 0, .slice pa part.length pc, .bool val.isSome, u64 (val.getD 0), vb', vk'] T_ref13_Node := hb15
                have hrb15 := hrb14.ext he15 fun e => by have : rb = nb := e; omega
                have hovb15 := Own.ext hovb14 he15 fun b hb e => hne_vb'_nb (by rw [hb]; exact congrArg some e)
                have hovk15 := Own.ext hovk14 he15 fun b hb e => hvk'nb (by rw [hb]; exact congrArg some e)
                have hEw15 : Ext No w w15 := hEw14.trans1 he15 hnbB
                have hsome : e.opt.isSome := by
                  obtain ⟨r, hr0⟩ := split_at (hpt.all _ (hLs _ (hrest _ (hmem i hil (Nat.le_refl _))))) (hlong.lt (hmem i hil (Nat.le_refl _)))
                  rw [hbb] at hr0
                  refine hcane.some (k := r) ?_
                  show (look (((x :: y :: l).drop i).take (j - i)) ((q ++ [bb]) ++ r)).isSome
                  cases hlk : look (((x :: y :: l).drop i).take (j - i)) ((q ++ [bb]) ++ r) with
                  | some => rfl
                  | none => exact absurd (by rw [hr0]; simp) (look_none.1 hlk _ hgmem)
                have hdlt : ∀ c ∈ dom (fun c => (kids c).opt), c.toNat < bb.toNat := fun c hc => by
                  obtain ⟨kk, vv, hkv⟩ := (hcan c).fine.some_key (E.isSome_iff.1 (dom_mem.1 hc))
                  rw [(hcan c).get] at hkv
                  have h1 := hsep _ (look_mem hkv) _ (hmem i hil (Nat.le_refl _))
                  rw [hbb] at h1
                  have h2 : byteAt q.length (q ++ c :: kk) = c := byteAt_app q c kk
                  rw [h2] at h1
                  exact h1
                have hdom := dom_app (kids := kids) (b := bb) hsome hdlt
                have hdlen : (dom fun c => (updE kids bb e c).opt).length = (dom fun c => (kids c).opt).length + 1 := by rw [hdom]; simp
                have hclen : cells.length = (dom fun c => (kids c).opt).length * 6 := hovk.1
                have hbbn : bb ∉ dom (fun c => (kids c).opt) := fun h => by have := hdlt bb h; omega
                refine xnext ((x :: y :: l).length - j) (by omega) ⟨j, _, vb', vk', done ++ ((x :: y :: l).drop i).take (j - i), updE kids bb e, cells ++ cs, rfl, rfl, hjl, ?_, hb15, hrb15, hEw15, ?_, ?_, hvk'nb, hvk'rb, fun m c hm => ?_, fun c => ?_, fun u hu y' hy' => ?_⟩
                · have : (x :: y :: l).drop j = ((x :: y :: l).drop i).drop (j - i) := by rw [List.drop_drop, show i + (j - i) = j by omega]
                  rw [this, List.append_assoc, List.take_append_drop, hdr]
                · rw [hdom, List.map_append, List.length_append]
                  exact hovb15
                · rw [hdlen]
                  exact hovk15
                · rw [hdom] at hm
                  rcases Nat.lt_or_ge m (dom fun c => (kids c).opt).length with hm' | hm'
                  · rw [List.getElem?_append_left hm'] at hm
                    have hcb : c ≠ bb := fun e' => hbbn (e' ▸ List.mem_of_getElem? hm)
                    have hseg : ((cells ++ cs).drop (m * 6)).take 6 = (cells.drop (m * 6)).take 6 := by
                      rw [List.drop_append_of_le_length (by omega), List.take_append_of_le_length (by rw [List.length_drop]; omega)]
                    rw [hseg, updE_other _ _ hcb]
                    have r1 := (hrc m c hm).fresh hE8.drew
                    have r2 := r1.extN he9
                    have r3 := r2.ext he10 fun b hX hb hq => by
                      rcases hq.1 with hq' | hq'
                      · have := (Own.ge hovb9 hX).1; omega
                      · exact hq'.2.2.2.1 hX
                    have r4 := r3.ext he11 fun b hX hb hq => by
                      have hX : b = nb := hX
                      subst hX
                      rcases hq.1 with hq' | hq'
                      · omega
                      · exact hq'.2.1 rfl
                    have r5 := (r4.extN he12').extN he13
                    have r6 := r5.ext he14 fun b hX hb hq => by
                      rcases hq.1 with hq' | hq'
                      · have := (Own.ge hovk13 hX).1; omega
                      · exact hq'.2.2.2.2 hX
                    have r7 := r6.ext he15 fun b hX hb hq => by
                      have hX : b = nb := hX
                      subst hX
                      rcases hq.1 with hq' | hq'
                      · omega
                      · exact hq'.2.1 rfl
                    refine r7.weak fun b _ hq => ?_
                    obtain ⟨hq, hbl⟩ := hq
                    rcases hq with hq | hq
                    · exact .inl hq
                    · refine .inr ⟨hq.1, hq.2.1, hq.2.2.1, fun h => ?_, fun h => ?_⟩
                      · rcases hvbb b h with h' | h'
                        · exact hq.2.2.2.1 h'
                        · have := hE8.size
                          have := he9.size
                          have z8 : w8.drew.heap.size = w8.heap.size := rfl
                          omega
                      · rcases hvkb b h with h' | h'
                        · exact hq.2.2.2.2 h'
                        · have := hE8.size
                          have := he9.size
                          have := he10.size
                          have := he12'.size
                          have := he13.size
                          have z8 : w8.drew.heap.size = w8.heap.size := rfl
                          omega
                  · have hmm : m = (dom fun c => (kids c).opt).length := by
                      have := (List.getElem?_eq_some_iff.1 hm).1
                      simp at this; omega
                    subst hmm
                    rw [List.getElem?_append_right (Nat.le_refl _), Nat.sub_self] at hm
                    have hcb : bb = c := by simpa using hm
                    subst hcb
                    have hseg : ((cells ++ cs).drop ((dom fun c => (kids c).opt).length * 6)).take 6 = cs := by
                      rw [← hclen, List.drop_left, List.take_of_length_le (by rw [hrce.len.1]; omega)]
                    rw [hseg, updE_same]
                    have hz11' := hb11.lt
                    have r1 := hrce.fresh he13
                    have hgevk : ∀ {b}, vk.ownBlock = some b → w.heap.size ≤ b ∧ b < w11.heap.size := fun {b} h => Own.ge hovk11 h
                    have r2 := r1.ext he14 fun b hX hb hq => by
                      have h1 := hgevk hX
                      have h0 : w11.drew.heap.size = w11.heap.size := rfl
                      rcases hq.1 with hq' | hq' <;> omega
                    have r3 := r2.ext he15 fun b hX hb hq => by
                      have hX : b = nb := hX
                      subst hX
                      have h0 : w11.drew.heap.size = w11.heap.size := rfl
                      rcases hq.1 with hq' | hq' <;> omega
                    refine r3.weak fun b _ hq => ?_
                    obtain ⟨hq, hbl⟩ := hq
                    rcases hq with hq | hq
                    · exact .inl hq
                    · have h0 : w11.drew.heap.size = w11.heap.size := rfl
                      have h9 := hEw11.size
                      refine .inr ⟨by omega, by omega, by have := hrb11.lt; omega, fun h => ?_, fun h => ?_⟩
                      · have := (Own.ge hovb11 h).2; omega
                      · rcases hvkb b h with h' | h'
                        · have := (hgevk h').2; omega
                        · have := he13.size; omega
                · refine Can.group (kids := kids) hcan (hcane.congr fun r => by rw [List.append_assoc]; rfl) (fun u hu e' => ?_) hmall c
                  have := hsep u hu _ (hmem i hil (Nat.le_refl _))
                  rw [hbb, e'] at this
                  omega
                · have hy2 : y' ∈ (x :: y :: l).drop i := by
                    have : (x :: y :: l).drop j = ((x :: y :: l).drop i).drop (j - i) := by rw [List.drop_drop, show i + (j - i) = j by omega]
                    rw [this] at hy'
                    exact List.mem_of_mem_drop hy'
                  rcases List.mem_append.1 hu with e' | e'
                  · exact hsep u e' y' hy2
                  · rw [hmall u e']
                    have hne' := hdrop0 y' hy'
                    have hd0 : (x :: y :: l).drop i = (x :: y :: l)[i] :: (x :: y :: l).drop (i + 1) := List.drop_eq_getElem_cons hil
                    have hle : bb ≤ byteAt q.length y'.1 := by
                      obtain ⟨c, r, hc⟩ := hlong _ (hmem i hil (Nat.le_refl _))
                      obtain ⟨d, r', hd⟩ := hlong y' hy2
                      have e1 : bb = c := by rw [← hbb, hc, byteAt_app]
                      have e2 : byteAt q.length y'.1 = d := by rw [hd, byteAt_app]
                      rw [e1, e2]
                      rw [hd0] at hrr hy2
                      rcases hrr.first hy2 with h' | h'
                      · exact byte_le hc hd h'
                      · rw [h'] at hc
                        rw [hc] at hd
                        have := List.append_cancel_left hd
                        simp at this
                        rw [this.1]
                        exact UInt8.le_refl d
                    have h1 := UInt8.le_iff_toNat_le.1 hle
                    have h2 : (byteAt q.length y'.1).toNat ≠ bb.toNat := fun h => hne' (UInt8.toNat_inj.1 h)
                    omega
        · have hi2 : i = (x :: y :: l).length := by omega
          rw [hi2, List.drop_length, List.append_nil] at hdr
          subst hdr
          refine hb6.ld (o := 5) (v := vk) rfl ?_
          refine xLen_sl hovk.sl ?_
          have hcle : (dom fun c => (kids c).opt).length ≤ 256 := cnt_le _
          refine (c_rKindOf hcle).mono ?_
          rintro r w7 ⟨rfl, rfl⟩
          have hcann := Can.groups (val := val) (kids := kids) hpart hcan hpt.get hpt.vl hpt.all hpt.two
          have hne : (dom fun c => (kids c).opt).length ≠ 0 := by
            obtain ⟨u, hu, c, r, hc, -⟩ := hpt.two
            have hu2 : ((kids c)).opt.isSome := (hcan c).some (k := r) (by
              rw [hpt.get]
              cases hlk : look (x :: y :: l) (q ++ c :: r) with
              | some => rfl
              | none => exact absurd hc (look_none.1 hlk u hu))
            have h9 := cnt_pos (m := fun c => (kids c).opt) (c := c) hu2
            unfold cnt at h9
            omega
          refine hb6.st1 (o := 0) (by simp) rfl rfl fun w8 hb8 hz8 he8 => ?_
          have hb8 : Blk w8 nb [.int .i64 (kindN (dom fun c => (kids c).opt).length), .slice pa part.length pc, .bool val.isSome, u64 (val.getD 0), vb, vk] T_ref13_Node := hb8
          refine hb8.ldA (by simp) ?_
          have hE8 : Ext No w w8 := hE6.trans1 he8 hnbB
          have hrb8 := hrb6.ext he8 fun e => by have : rb = nb := e; omega
          obtain ⟨va, vc, hvbs⟩ : ∃ a c, vb = .slice a (dom fun c => (kids c).opt).length c := by
            rcases hovb.2 with ⟨h1, h2⟩ | ⟨g, cap, cur, h1, -⟩
            · exact ⟨none, 0, by rw [h1, h2]⟩
            · exact ⟨_, _, h1⟩
          obtain ⟨ka, kc, hvks⟩ : ∃ a c, vk = .slice a (dom fun c => (kids c).opt).length c := by
            rcases hovk.2 with ⟨h1, h2⟩ | ⟨g, cap, cur, h1, -⟩
            · exact ⟨none, 0, by rw [h1, h2]⟩
            · exact ⟨_, _, h1⟩
          refine xstoreVar hrb8 (by kernel_rfl) (by simp) (fun u hu => by
            simp only [List.mem_cons, List.mem_nil_iff, or_false] at hu
            rcases hu with rfl | rfl | rfl | rfl | rfl | rfl
            · rfl
            · rfl
            · rfl
            · rfl
            · rw [hvbs]; rfl
            · rw [hvks]; rfl) fun w9 hb9 hz9 he9 => ?_
          refine hb9.ldA (by simp) ?_
          have hE9 : Ext No w w9 := hE8.trans1 he9 (by omega)
          refine ⟨.node part val kids, _, rfl, ?_, hcann, hE9⟩
          have hbig : ∀ {b' : Nat}, Ext (· = b') w7 w8 → True := fun _ => trivial
          have hok : ∀ b, vb.ownBlock = some b → b ≠ nb ∧ b ≠ rb := fun b hb' => by
            rcases hovb.2 with ⟨rfl, -⟩ | ⟨g, cap, cur, rfl, -, hg, -⟩
            · cases hb'
            · simp only [Value.ownBlock, Option.some.injEq] at hb'
              subst hb'
              constructor
              · intro e; subst e
                have := hg.symm.trans hb6.h
                simp at this
                exact absurd this.2 (by decide)
              · intro e; subst e
                have := hg.symm.trans hrb6.h
                simp at this
                exact absurd this.2 (by decide)
          have hovb9 : Own w9 w.heap.size T_uint8 1 vb (dom fun c => (kids c).opt).length ((dom fun c => (kids c).opt).map bv) := Own.ext (Own.ext hovb he8 fun b hb' e => (hok b hb').1 e) he9 fun b hb' e => (hok b hb').2 e
          have hovk9 : Own w9 w.heap.size T_ref13_Node 6 vk (dom fun c => (kids c).opt).length cells := Own.ext (Own.ext hovk he8 fun b hb' e => hvknb (by rw [hb']; exact congrArg some e)) he9 fun b hb' e => hvkrb (by rw [hb']; exact congrArg some e)
          have hq : ∀ {T : TypeId} {sz n : Nat} {v : Value} {xs : List Value}, Own w9 w.heap.size T sz v n xs → Sl w9 (fun b t => t = T ∧ w.heap.size ≤ b) v sz n xs := fun {T sz n v xs} ho => by
            obtain ⟨a, cap, rfl, hl, hc, ha⟩ := ho.sl
            refine ⟨a, cap, rfl, hl, hc, ?_⟩
            cases a with
            | none => exact ha
            | some ad =>
              rcases ha with h0 | ⟨b, o, cs, t, fz, rfl, h1, h2, h3, h4⟩
              · exact .inl h0
              have hge : w.heap.size ≤ b := by
                rcases ho.2 with ⟨h, -⟩ | ⟨g, cap', cur, h, hg, -⟩
                · cases h
                · simp only [Value.slice.injEq, Option.some.injEq, Addr.mk.injEq] at h
                  rw [h.1.1]; exact hg
              exact .inr ⟨b, o, cs, t, fz, rfl, ⟨h1, hge⟩, h2, h3, h4⟩
          refine ⟨.slice pa part.length pc, vb, vk, cells, ?_, ?_, (hq hovb9).weak fun b t h => ⟨.inl h.1, .inr h.2⟩, (hq hovk9).weak fun b t h => .inr h.2, fun j c hc => ?_, hpl2, hval64⟩
          · unfold kindR
            rw [if_neg hne]
            simp
          · exact (Sl.weakL hvp fun b t hb h => ⟨h, .inl hb⟩).extN (heB.transN hE9)
          · have h1 := hrc j c hc
            have h2 := h1.ext he8 fun b e hb hq => by
              have e : b = nb := e
              subst e
              rcases hq with hq | hq
              · omega
              · exact hq.2.1 rfl
            have h3 := h2.ext he9 fun b e hb hq => by
              have e : b = rb := e
              subst e
              rcases hq with hq | hq
              · omega
              · exact hq.2.2.1 rfl
            exact h3.weak fun b _ hq => hq.imp id fun h => h.1
end
end Go.Proofs.Ytidkkkdlaclolaa
end
end
section
namespace Go.Proofs.Ytidkkkdlaclolaa
open Go Go.RowKit X
set_option linter.unusedSimpArgs false
set_option linter.unusedVariables false
set_option linter.unusedSectionVars false
/-- a whole element, that goes on standing there -/
theorem X.Sl.rdNK {w : World} {T : Nat → TypeId → Prop} {v : Value} {sz n : Nat} {cells : List Value} {K : Value → Value → Prop} {kd : IntKind} {i : Int} (h : Sl w T v sz n cells) (m : Nat) (hi : i = (m : Int)) (hm : m < n)
    (k : ∀ p, (∀ w', Sl w' T v sz n cells → xKeepN w' p (.agg ((cells.drop (m * sz)).take sz).toArray)) → K p (.agg ((cells.drop (m * sz)).take sz).toArray)) :
    xIxS v (.int kd i) sz fun u => xAt u fun a => XLdN w a sz fun x => K u x := by
  have hl := h.len
  have hle : (m + 1) * sz ≤ n * sz := Nat.mul_le_mul_right sz hm
  rw [Nat.succ_mul] at hle
  have key : ∀ w', Sl w' T v sz n cells → ∃ a cap, v = .slice (some a) n cap ∧ ∀ o, o < sz → w'.cell? ((a.add (m * sz)).add o) = cells[m * sz + o]? := by
    rintro w' ⟨a, cap, rfl, hl, hc, ha⟩
    cases a with
    | none => exact absurd ha (by omega)
    | some ad =>
      rcases ha with h0 | ⟨b, of, cs, t, fz, rfl, hT, h2, h3, h4⟩
      · omega
      refine ⟨_, cap, rfl, fun o ho => ?_⟩
      rw [Addr.add_lit, Addr.add_lit]
      have := h4 (m * sz + o) (by omega)
      simp only [World.cell?, h2]
      simp
      rw [show of + m * sz + o = of + (m * sz + o) by omega]
      exact this
  obtain ⟨a, cap, rfl, hc⟩ := key w h
  have hseg : ∀ o, o < sz → ((cells.drop (m * sz)).take sz).toArray[o]? = cells[m * sz + o]? := fun o ho => by simp [List.getElem?_take, ho, List.getElem?_drop]
  have hsz : ((cells.drop (m * sz)).take sz).toArray.size = sz := by simp; omega
  refine ⟨m, hi, hm, ⟨_, hsz, fun o ho => by rw [hc o ho, hseg o ho], k _ fun w' h' => ?_⟩⟩
  obtain ⟨a', cap', e, hc'⟩ := key w' h'
  simp only [Value.slice.injEq, Option.some.injEq] at e
  obtain ⟨rfl, -, rfl⟩ := e
  intro o ho
  have ho : o < sz := by rw [hsz] at ho; exact ho
  rw [hc' o ho, hseg o ho]
variable [Floor]
section
theorem c_rBuild {w : World} {v : Value} {l : Kv} (hll : l.length ≤ 1099511627776) (hv : Ps w v l) (hr : Rises l) (hs : ∀ x ∈ l, x.1.length ≤ 65535) :
    Ret P n_ref13_Build [v] w fun r w' => ∃ e cs, r = .agg cs.toArray ∧ RC w' (fun _ => True) e cs ∧ Can e (look l) ∧ Ext No w w' := by
  refine W_ref13_Build ?_
  refine xnew fun rb w1 hrb hblk hz he1 => ?_
  refine (c_rbuild l.length (p := []) (Nat.le_refl _) hll hv he1 hr hs (fun x _ => List.nil_prefix) (by simp)).mono ?_
  rintro r w2 ⟨e, cs, rfl, hrc, hcan, he2⟩
  have hblk2 : Blk w2 rb zero6 T_ref13_Node := hblk.ext he2 fun h => h
  have hlen := hrc.len
  refine xstoreVar hblk2 (by rw [hlen.1]; kernel_rfl) (by rw [hlen.1]; simp) hlen.2 fun w3 hb3 hz3 he3 => ?_
  have hb3 : Blk w3 rb cs T_ref13_Node := by
    have e1 : (zero6.drop (0 + cs.length)) = [] := by rw [hlen.1]; rfl
    rw [e1] at hb3
    simpa using hb3
  refine hb3.ldA hlen.1 ?_
  have hs1 := he1.size
  refine ⟨e, cs, rfl, ?_, hcan, (he1.transN he2).trans1 he3 (by omega)⟩
  exact (hrc.ext he3 fun b hX hb hq => by
    have hX : b = rb := hX
    subst hX
    have := he2.size
    rcases hq with hq | hq <;> omega).weak fun _ _ _ => trivial
end
end Go.Proofs.Ytidkkkdlaclolaa
end
