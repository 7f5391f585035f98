/-  the references' keys: what two keys share, which is less.  -/
import Derived.Test.YtidkkkdlaclolaaGreatPs
import Derived.Test.YtidkkkdlaclolaaGreatMap
import Derived.Test.YtidkkkdlaclolaaGreatStr
section
namespace Go.Proofs.YtidkkkdlaclolaaGreat
open Go Go.RowKit X
set_option linter.unusedSimpArgs false
set_option linter.unusedVariables false
set_option linter.unusedSectionVars false
theorem kcmp_common : ∀ (a b : Key), kcmp a b = if common a b = a.length then (if common a b = b.length then 0 else -1) else if common a b = b.length then 1 else if byteAt (common a b) a < byteAt (common a b) b then -1 else 1 := by
  intro a
  induction a with
  | nil => intro b; cases b with
    | nil => rfl
    | cons y s => rw [kcmp_nc]; simp [common]
  | cons x r ih => intro b; cases b with
    | nil => rw [kcmp_cn]; simp [common]
    | cons y s =>
      rw [kcmp_cons]
      by_cases h : x = y
      · subst h
        rw [if_neg (UInt8.lt_irrefl x), if_neg (UInt8.lt_irrefl x), ih]
        have hc : common (x :: r) (x :: s) = common r s + 1 := by simp [common]
        rw [hc]
        simp only [List.length_cons, Nat.add_right_cancel_iff]
        rfl
      · have hc : common (x :: r) (y :: s) = 0 := by simp [common, h]
        have e1 : (if common (x :: r) (y :: s) = (x :: r).length then (if common (x :: r) (y :: s) = (y :: s).length then (0 : Int) else -1) else if common (x :: r) (y :: s) = (y :: s).length then 1 else if byteAt (common (x :: r) (y :: s)) (x :: r) < byteAt (common (x :: r) (y :: s)) (y :: s) then -1 else 1) = if x < y then -1 else 1 := by
          rw [hc, if_neg (by simp), if_neg (by simp)]
          rfl
        rw [e1]
        by_cases h1 : x < y
        · rw [if_pos h1, if_pos h1]
        · rw [if_neg h1, if_neg h1, if_pos (UInt8.lt_of_le_of_ne (UInt8.not_lt.1 h1) (Ne.symm h))]
theorem common_lt {a b : Key} {i : Nat} (h : i < common a b) : a[i]? = b[i]? := by
  obtain ⟨p, q, r, rfl, rfl, h3, -⟩ := common_split a b
  rw [← h3] at h
  rw [List.getElem?_append_left h, List.getElem?_append_left h]
theorem common_prefix {a b : Key} : common a b = b.length ↔ b <+: a := by
  constructor
  · intro h
    have := common_take b a
    rw [common_comm, h, List.take_length] at this
    exact this
  · intro h
    have h1 := common_ge (a := a) (b := b) h (List.prefix_refl b)
    have := (common_le a b).2
    omega
variable [Floor]
section
variable {w : World} {va vb : Value} {a b : Key}
theorem c_rCommon (ha : Bs w va a) (hb : Bs w vb b) (la : a.length ≤ 4611686018427387904) : Ret P n_ref01_Common [va, vb] w fun r w' => r = .int .i64 (common a b) ∧ Ext No w w' := by
  refine W_ref01_Common ?_
  refine xloop (fun n vs w' => ∃ (i : Nat), vs = [.int .i64 i] ∧ i ≤ a.length ∧ i ≤ b.length ∧ n = a.length - i ∧ (∀ j, j < i → a[j]? = b[j]?) ∧ Ext No w w') a.length
    ⟨0, rfl, by omega, by omega, rfl, by omega, Ext.refl _ _⟩ ?_
  rintro n vs g w1 ⟨i, rfl, hia, hib, rfl, hij, he⟩
  have fin : ∀ w2, Ext No w w2 → (a[i]? ≠ b[i]? ∨ i = a.length ∨ i = b.length) → (Value.int .i64 i = Value.int .i64 (common a b) ∧ Ext No w w2) := fun w2 he hs => ⟨by rw [common_stop hij hia hib hs], he⟩
  refine xj (fun vs w' => ∃ t : Bool, vs = [.bool t] ∧ Ext No w w' ∧ (t = true → i < a.length ∧ i < b.length ∧ a[i]? = b[i]?) ∧ (t = false → a[i]? ≠ b[i]? ∨ i = a.length ∨ i = b.length)) ?_ ?_
  · refine ha.len ?_
    refine xifD (fun h1 => ?_) fun h1 => ⟨false, rfl, he.drew, fun h => (by cases h), fun _ => by omega⟩
    refine hb.len ?_
    refine xifD (fun h2 => ?_) fun h2 => ⟨false, rfl, he.drew, fun h => (by cases h), fun _ => by omega⟩
    have h1 : i < a.length := by omega
    have h2 : i < b.length := by omega
    refine (ha.extN he.drew).rd i h1 rfl ?_
    refine (hb.extN he.drew).rd i h2 rfl ?_
    refine ⟨_, rfl, he.drew, fun h => ⟨h1, h2, ?_⟩, fun h => .inl ?_⟩
    · rw [List.getElem?_eq_getElem h1, List.getElem?_eq_getElem h2]
      congr 1
      exact UInt8.toNat_inj.1 (by exact_mod_cast (by simpa using h : (a[i].toNat : Int) = (b[i].toNat : Int)))
    · rw [List.getElem?_eq_getElem h1, List.getElem?_eq_getElem h2]
      intro e
      have e := Option.some.inj e
      rw [e] at h
      simp at h
  · rintro vs g w2 ⟨t, rfl, he2, ht, hf⟩
    cases t with
    | true =>
      obtain ⟨h1, h2, h3⟩ := ht rfl
      refine xifT rfl ?_
      refine xi (r := ((i + 1 : Nat) : Int)) (by rw [wrapI (by omega)]; omega) ?_
      refine xnext (a.length - (i + 1)) (by omega) ⟨i + 1, rfl, by omega, by omega, rfl, fun j hj => ?_, he2⟩
      rcases Nat.lt_succ_iff_lt_or_eq.1 hj with e | e
      · exact hij j e
      · subst e; exact h3
    | false => exact xifF rfl (fin w2 he2 (hf rfl))
theorem c_rCmp (ha : Bs w va a) (hb : Bs w vb b) (la : a.length ≤ 4611686018427387904) : Ret P n_ref01_Cmp [va, vb] w fun r w' => r = .int .i64 (kcmp a b) ∧ Ext No w w' := by
  refine W_ref01_Cmp ?_
  refine (c_rCommon ha hb la).mono ?_
  rintro r w1 ⟨rfl, he⟩
  have hcl := common_le a b
  rw [kcmp_common]
  refine xj (fun vs w' => w' = w1 ∧ vs = [.bool (decide (common a b = a.length ∧ common a b = b.length))]) ?_ ?_
  · refine ha.len ?_
    refine xifE (fun e => ?_) fun e => ⟨rfl, by rw [decide_eq_false (fun h => e (by rw [h.1]))]⟩
    refine hb.len ?_
    refine ⟨rfl, ?_⟩
    have e1 : common a b = a.length := by omega
    by_cases e2 : common a b = b.length
    · rw [decide_eq_true ⟨e1, e2⟩, e2]; simp
    · rw [decide_eq_false (fun h => e2 h.2)]
      congr 2
      simp; omega
  · rintro vs g w2 ⟨rfl, rfl⟩
    refine xifD (fun h => ?_) fun h => ?_
    · rw [if_pos h.1, if_pos h.2]; exact ⟨rfl, he⟩
    · refine ha.len ?_
      refine xifE (fun e => ?_) fun e => ?_
      · have e : common a b = a.length := by omega
        rw [if_pos e, if_neg fun e2 => h ⟨e, e2⟩]; exact ⟨rfl, he⟩
      · have e : common a b ≠ a.length := by omega
        rw [if_neg e]
        refine hb.len ?_
        refine xifE (fun e2 => ?_) fun e2 => ?_
        · have e2 : common a b = b.length := by omega
          rw [if_pos e2]; exact ⟨rfl, he⟩
        · have e2 : common a b ≠ b.length := by omega
          rw [if_neg e2]
          refine (ha.extN he.drew).rd (common a b) (by omega) rfl ?_
          refine (hb.extN he.drew).rd (common a b) (by omega) rfl ?_
          rw [byteAt_get, byteAt_get]
          refine xifD (fun hlt => ?_) fun hlt => ?_
          · rw [if_pos (UInt8.lt_iff_toNat_lt.2 (by omega))]; exact ⟨rfl, he.drew⟩
          · rw [if_neg (fun h' => hlt (by have := UInt8.lt_iff_toNat_lt.1 h'; omega))]; exact ⟨rfl, he.drew⟩
theorem c_rSame (ha : Bs w va a) (hb : Bs w vb b) (la : a.length ≤ 4611686018427387904) : Ret P n_ref01_Same [va, vb] w fun r w' => r = .bool (decide (a = b)) ∧ Ext No w w' := by
  refine W_ref01_Same ?_
  refine (c_rCmp ha hb la).mono ?_
  rintro r w1 ⟨rfl, he⟩
  refine ⟨?_, he⟩
  by_cases e : a = b
  · rw [kcmp_zero.2 e, decide_eq_true e]; rfl
  · rw [decide_eq_false e]
    congr 1
    have : kcmp a b ≠ 0 := fun h => e (kcmp_eq h)
    simpa using this
end
end Go.Proofs.YtidkkkdlaclolaaGreat
end
section
namespace Go.Proofs.YtidkkkdlaclolaaGreat
open Go Go.RowKit X
set_option linter.unusedSimpArgs false
set_option linter.unusedVariables false
set_option linter.unusedSectionVars false
theorem insK_set : ∀ {s : Kv} {j : Nat} {k : Key} {v : Nat}, (∀ i (h : i < s.length), i < j → klt s[i].1 k) → (hj : j < s.length) → s[j].1 = k → insK s k v = s.set j (k, v) := by
  intro s
  induction s with
  | nil => intro j k v _ hj; simp at hj
  | cons p r ih =>
    intro j k v hlt hj he
    cases j with
    | zero =>
      have he : p.1 = k := he
      rw [insK, if_neg (by rw [he]; exact klt_irr), if_pos he]; rfl
    | succ j =>
      have h0 : klt p.1 k := hlt 0 (by simp) (by omega)
      rw [insK, if_pos h0, List.set_cons_succ, ih (fun i h hi => hlt (i + 1) (by simpa using h) (by omega)) (by simpa using hj) he]
theorem insK_ins : ∀ {s : Kv} {j : Nat} {k : Key} {v : Nat}, (∀ i (h : i < s.length), i < j → klt s[i].1 k) → j ≤ s.length → (∀ h : j < s.length, ¬ klt s[j].1 k ∧ s[j].1 ≠ k) → insK s k v = s.take j ++ (k, v) :: s.drop j := by
  intro s
  induction s with
  | nil => intro j k v _ hj _; simp at hj; subst hj; rfl
  | cons p r ih =>
    intro j k v hlt hj hn
    cases j with
    | zero =>
      have h1 : ¬ klt p.1 k := (hn (by simp)).1
      have h2 : p.1 ≠ k := (hn (by simp)).2
      rw [insK, if_neg h1, if_neg h2]; rfl
    | succ j =>
      have h0 : klt p.1 k := hlt 0 (by simp) (by omega)
      rw [insK, if_pos h0, ih (fun i h hi => hlt (i + 1) (by simpa using h) (by omega)) (by simpa using hj) (fun h => hn (by simpa using h))]
      rfl
theorem sortK_take {l : Kv} {i : Nat} (h : i < l.length) : sortK (l.take (i + 1)) = insK (sortK (l.take i)) l[i].1 l[i].2 := by
  rw [← List.take_append_getElem h, sortK_snoc]
variable [Floor]
section
variable {w0 w : World} {T : TypeId} {v : Value} {l : Kv}
theorem SO.key {K : Value → Prop} {kd : IntKind} {i : Int} (h : SO w0 w T v l) (m : Nat) (hi : i = (m : Int)) (hm : m < l.length) (k : ∀ kv, Bs w0 kv l[m].1 → K kv) : xIxS v (.int kd i) 2 fun u => xFld u 0 fun p => xAt p fun a => XLd w a K := by
  obtain ⟨cells, h1, h2⟩ := h
  obtain ⟨kv, h3, h4, -⟩ := h2.at_ m l[m] (List.getElem?_eq_getElem hm)
  exact h1.sl.rdF m hi hm (by omega) h3 (k kv h4)
theorem SO.rd {K : Value → Prop} {kd : IntKind} {i : Int} (h : SO w0 w T v l) (m : Nat) (hi : i = (m : Int)) (hm : m < l.length) (k : ∀ kv, Bs w0 kv l[m].1 → l[m].2 < 18446744073709551616 → K (.agg #[kv, u64 l[m].2])) : xIxS v (.int kd i) 2 fun u => xAt u fun a => XLdN w a 2 K := by
  obtain ⟨cells, h1, h2⟩ := h
  obtain ⟨kv, h3, h4, h5, h6⟩ := h2.at_ m l[m] (List.getElem?_eq_getElem hm)
  refine h1.sl.rdN m hi hm ?_
  have hl := h2.len
  have : (cells.drop (m * 2)).take 2 = [kv, u64 l[m].2] := by
    apply List.ext_getElem?
    intro j
    rw [List.getElem?_take]
    match j with
    | 0 => rw [if_pos (by omega), List.getElem?_drop, Nat.add_zero, h3]; rfl
    | 1 => rw [if_pos (by omega), List.getElem?_drop, h5]; rfl
    | j + 2 => rw [if_neg (by omega)]; rfl
  rw [this]
  exact k kv h4 h6
theorem SO.len {K : Value → Prop} (h : SO w0 w T v l) (k : K (.int .i64 l.length)) : xLen v K := let ⟨_, h1, _⟩ := h; xLen_sl h1.sl k
/-- a whole element, its key in the world from which the call began -/
theorem Ps.rd0 {w : World} {K : Value → Prop} {kd : IntKind} {i : Int} (h : Ps w0 v l) (he : Ext No w0 w) (m : Nat) (hi : i = (m : Int)) (hm : m < l.length) (k : ∀ kv, Bs w0 kv l[m].1 → K (.agg #[kv, u64 l[m].2])) : xIxS v (.int kd i) 2 fun u => xAt u fun a => XLdN w a 2 K := by
  obtain ⟨T, cells, hT, h1, h2⟩ := h
  obtain ⟨kv, h3, h4, h5, h6⟩ := h2.at_ m l[m] (List.getElem?_eq_getElem hm)
  refine (h1.extN he).rdN m hi hm ?_
  have hl := h2.len
  have : (cells.drop (m * 2)).take 2 = [kv, u64 l[m].2] := by
    apply List.ext_getElem?
    intro j
    rw [List.getElem?_take]
    match j with
    | 0 => rw [if_pos (by omega), List.getElem?_drop, Nat.add_zero, h3]; rfl
    | 1 => rw [if_pos (by omega), List.getElem?_drop, h5]; rfl
    | j + 2 => rw [if_neg (by omega)]; rfl
  rw [this]
  exact k kv h4
theorem Ps.key0 {w : World} {K : Value → Prop} {kd : IntKind} {i : Int} (h : Ps w0 v l) (he : Ext No w0 w) (m : Nat) (hi : i = (m : Int)) (hm : m < l.length) (k : ∀ kv, Bs w0 kv l[m].1 → K kv) : xIxS v (.int kd i) 2 fun u => xFld u 0 fun p => xAt p fun a => XLd w a K := by
  obtain ⟨T, cells, hT, h1, h2⟩ := h
  obtain ⟨kv, h3, h4, -⟩ := h2.at_ m l[m] (List.getElem?_eq_getElem hm)
  exact (h1.extN he).rdF m hi hm (by omega) h3 (k kv h4)
theorem c_rSort (h : Ps w0 v l) (hl : l.length ≤ 1099511627776) (hk : ∀ p ∈ l, p.1.length ≤ 4611686018427387904) : Ret P n_ref13_Sort [v] w0 fun r w' => SO w0 w' T_ref01_Pair r (sortK l) ∧ Ext No w0 w' := by
  have hkd : ∀ i (h : i < l.length), l[i].1.length ≤ 4611686018427387904 := fun i h => hk _ (List.getElem_mem h)
  refine W_ref13_Sort ?_
  refine xloop (fun n vs w' => ∃ (i : Nat) (x out y : Value), vs = [.int .i64 i, x, out, y] ∧ n = l.length - i ∧ i ≤ l.length ∧ SO w0 w' T_ref01_Pair out (sortK (l.take i)) ∧ Ext No w0 w') l.length
    ⟨0, _, _, _, rfl, rfl, by omega, SO.nil _ _ _, Ext.refl _ _⟩ ?_
  rintro n vs g w1 ⟨i, x, out, y, rfl, rfl, hi, hso, he⟩
  refine h.len ?_
  refine xifD (fun hlt => ?_) fun hge => ?_
  · have hil : i < l.length := by omega
    generalize hss : sortK (l.take i) = s at hso
    have hsl : s.length ≤ i := by
      have := sortK_length (l.take i)
      rw [hss] at this
      simp at this; omega
    have hsk : ∀ j (h : j < s.length), s[j].1.length ≤ 4611686018427387904 := fun j h => by
      have : s[j] ∈ sortK (l.take i) := by rw [hss]; exact List.getElem_mem h
      exact hk _ (List.mem_of_mem_take (sortK_mem this))
    have h64 := h.get hil
    refine xj (fun vs w' => ∃ x out' y, vs = [x, out', y] ∧ SO w0 w' T_ref01_Pair out' (sortK (l.take (i + 1))) ∧ Ext No w0 w') ?_ ?_
    · rw [sortK_take hil, hss]
      refine xloop (fun n vs w' => ∃ j : Nat, vs = [.int .i64 j] ∧ n = s.length - j ∧ j ≤ s.length ∧ (∀ i' (h : i' < s.length), i' < j → klt s[i'].1 l[i].1) ∧ SO w0 w' T_ref01_Pair out s ∧ Ext No w0 w') s.length ⟨0, rfl, rfl, by omega, fun _ _ h => by omega, hso, he⟩ ?_
      rintro n vs g w2 ⟨j, rfl, rfl, hj, hjl, hso2, he2⟩
      refine xj (fun vs w' => ∃ t : Bool, vs = [.bool t] ∧ (t = true → ∃ h : j < s.length, klt s[j].1 l[i].1) ∧ (t = false → ∀ h : j < s.length, ¬ klt s[j].1 l[i].1) ∧ SO w0 w' T_ref01_Pair out s ∧ Ext No w0 w') ?_ ?_
      · refine hso2.len ?_
        refine xifD (fun h1 => ?_) fun h1 => ⟨false, rfl, fun h => (by cases h), fun _ h => by omega, hso2, he2.drew⟩
        have h1 : j < s.length := by omega
        refine SO.key (w := w2.drew) hso2 j rfl h1 fun ka hka => ?_
        refine (h.extN he2.drew).key i rfl hil fun kb hkb => ?_
        refine (c_rCmp (hka.extN he2.drew) hkb (hsk j h1)).mono ?_
        rintro r w3 ⟨rfl, he3⟩
        refine ⟨_, rfl, fun h => ⟨h1, (by simpa using h : kcmp s[j].1 l[i].1 < 0)⟩, fun h _ => ?_, hso2.extN he3.undrew, he2.drew.transN he3⟩
        intro hk
        have hk : kcmp s[j].1 l[i].1 < 0 := hk
        have h : decide (kcmp s[j].1 l[i].1 < 0) = false := h
        simp at h
        omega
      · rintro vs g w3 ⟨t, rfl, ht, hf, hso3, he3⟩
        cases t with
        | true =>
          obtain ⟨h1, h2⟩ := ht rfl
          refine xifT rfl ?_
          refine xi (r := ((j + 1 : Nat) : Int)) (by rw [wrapI (by omega)]; omega) ?_
          refine xnext (s.length - (j + 1)) (by omega) ⟨j + 1, rfl, rfl, by omega, fun i' h hi' => ?_, hso3, he3⟩
          rcases Nat.lt_succ_iff_lt_or_eq.1 hi' with e | e
          · exact hjl i' h e
          · subst e; exact h2
        | false =>
          have hnl := hf rfl
          refine xifF rfl ?_
          refine xj (fun vs w' => ∃ t : Bool, vs = [.bool t] ∧ (t = true → ∃ h : j < s.length, s[j].1 = l[i].1) ∧ (t = false → ∀ h : j < s.length, s[j].1 ≠ l[i].1) ∧ SO w0 w' T_ref01_Pair out s ∧ Ext No w0 w') ?_ ?_
          · refine hso3.len ?_
            refine xifD (fun h1 => ?_) fun h1 => ⟨false, rfl, fun h => (by cases h), fun _ h => by omega, hso3, he3.drew⟩
            have h1 : j < s.length := by omega
            refine SO.key (w := w3.drew) hso3 j rfl h1 fun ka hka => ?_
            refine (h.extN he3.drew).key i rfl hil fun kb hkb => ?_
            refine (c_rSame (hka.extN he3.drew) hkb (hsk j h1)).mono ?_
            rintro r w4 ⟨rfl, he4⟩
            exact ⟨_, rfl, fun h => ⟨h1, of_decide_eq_true h⟩, fun h _ => of_decide_eq_false h, hso3.extN he4.undrew, he3.drew.transN he4⟩
          · rintro vs g w4 ⟨t, rfl, ht, hf2, hso4, he4⟩
            cases t with
            | true =>
              obtain ⟨h1, h2⟩ := ht rfl
              refine xifT rfl ?_
              refine (h.extN he4).val i rfl hil ?_
              refine hso4.stV j rfl h1 h64 fun w5 hso5 he5 => ?_
              refine ⟨_, _, _, rfl, ?_, hso4.own he4 he5⟩
              rw [insK_set hjl h1 h2]
              rw [h2] at hso5
              exact hso5
            | false =>
              have hne := hf2 rfl
              refine xifF rfl ?_
              show XNew w4 [.slice none 0 0, u64 0] T_ref01_Pair _
              refine xnew fun a w5 ha hblk hz5 he5 => ?_
              have hsl1 : Sl w5 (tyQ T_ref01_Pair) (.slice (some ⟨a, 0, none⟩) 1 1) 2 1 [.slice none 0 0, u64 0] := hblk.sln rfl
              have hso5 := hso4.extN he5
              refine SO.app (m := [([], 0)]) ei_ref hso5 (he4.transN he5) hsl1 (PC.sing (Bs.nil w0) (by omega)) (by simp; omega) fun out' w6 hso6 he6 _ _ => ?_
              refine hso6.len ?_
              refine xi (r := (s.length : Int)) (by simp only [List.length_append, List.length_singleton]; rw [wrapI (by omega)]; omega) ?_
              refine xloop (fun n vs w' => ∃ (k : Nat) (q : Key × Nat), vs = [.int .i64 k] ∧ n = k ∧ j ≤ k ∧ k ≤ s.length ∧ SO w0 w' T_ref01_Pair out' (s.take k ++ q :: s.drop k) ∧ Ext No w0 w') s.length
                ⟨s.length, ([], 0), rfl, rfl, hj, Nat.le_refl _, by simpa using hso6, he6⟩ ?_
              rintro n vs g w7 ⟨k, q, rfl, hnk, hjk, hks, hso7, he7⟩
              have hlen7 : (s.take k ++ q :: s.drop k).length = s.length + 1 := by simp; omega
              refine xifD (fun hgt => ?_) fun hle => ?_
              · have hk1 : j < k := by omega
                refine xi (r := ((k - 1 : Nat) : Int)) (by rw [wrapI (by omega)]; omega) ?_
                refine hso7.rd (k - 1) rfl (by omega) fun kv hkv hv64 => ?_
                have hget : (s.take k ++ q :: s.drop k)[k - 1] = s[k - 1] := by
                  rw [List.getElem_append_left (by simp; omega), List.getElem_take]
                rw [hget] at hkv hv64 ⊢
                refine hso7.stP k rfl (by omega) hkv hv64 (by kernel_rfl) fun w8 hso8 he8 => ?_
                refine xi (r := ((k - 1 : Nat) : Int)) (by rw [wrapI (by omega)]; omega) ?_
                refine xnext (k - 1) (by omega) ⟨k - 1, s[k - 1], rfl, rfl, by omega, by omega, ?_, hso7.own he7 he8⟩
                have e1 : (s.take k ++ q :: s.drop k).set k (s[k - 1].1, s[k - 1].2) = s.take (k - 1) ++ s[k - 1] :: s.drop (k - 1) := by
                  rw [List.set_append_right _ _ (by simp; omega)]
                  have : k - (s.take k).length = 0 := by simp; omega
                  rw [this, List.set_cons_zero]
                  have e2 : s.take k = s.take (k - 1) ++ [s[k - 1]] := by
                    have := List.take_append_getElem (l := s) (i := k - 1) (by omega)
                    rw [show k - 1 + 1 = k by omega] at this
                    exact this.symm
                  have e3 : s.drop (k - 1) = s[k - 1] :: s.drop k := by
                    have := List.drop_eq_getElem_cons (l := s) (i := k - 1) (by omega)
                    rw [show k - 1 + 1 = k by omega] at this
                    exact this
                  rw [e2, e3, List.append_assoc]
                  rfl
                rw [e1] at hso8
                exact hso8
              · have hkj : k = j := by omega
                subst hkj
                refine h.rd0 he7 i rfl hil fun kv hkv => ?_
                refine hso7.stP k rfl (by omega) hkv h64 (by kernel_rfl) fun w8 hso8 he8 => ?_
                refine ⟨_, _, _, rfl, ?_, hso7.own he7 he8⟩
                have e1 : (s.take k ++ q :: s.drop k).set k (l[i].1, l[i].2) = s.take k ++ (l[i].1, l[i].2) :: s.drop k := by
                  rw [List.set_append_right _ _ (by simp; omega)]
                  have : k - (s.take k).length = 0 := by simp; omega
                  rw [this, List.set_cons_zero]
                rw [e1] at hso8
                rw [insK_ins hjl hj fun h => ⟨hnl h, hne h⟩]
                exact hso8
    · rintro vs g w2 ⟨x, out', y, rfl, hso2, he2⟩
      refine xi (r := ((i + 1 : Nat) : Int)) (by rw [wrapI (by omega)]; omega) ?_
      exact xnext (l.length - (i + 1)) (by omega) ⟨i + 1, _, _, _, rfl, rfl, by omega, hso2, he2⟩
  · have : i = l.length := by omega
    subst this
    rw [List.take_length] at hso
    exact ⟨hso, he⟩
end
end Go.Proofs.YtidkkkdlaclolaaGreat
end
section
section
namespace Go.Proofs.YtidkkkdlaclolaaGreat
open Go Go.RowKit X
set_option linter.unusedSimpArgs false
set_option linter.unusedVariables false
set_option linter.unusedSectionVars false
abbrev zero6 : List Value := [.int .i64 0, .slice none 0 0, .bool false, .int .u64 0, .slice none 0 0, .slice none 0 0]
theorem X.Sl.weakL {w : World} {T T' : Nat → TypeId → Prop} {v : Value} {sz n : Nat} {cells : List Value} (h : Sl w T v sz n cells) (ht : ∀ b t, b < w.heap.size → T b t → T' b t) : Sl w T' v sz n cells := by
  obtain ⟨a, cap, rfl, hl, hc, ha⟩ := h
  refine ⟨a, cap, rfl, hl, hc, ?_⟩
  cases a with
  | none => exact ha
  | some ad =>
    rcases ha with h0 | ⟨b, o, cs, t, fz, h1, hT, h2, h3, h4⟩
    · exact .inl h0
    exact .inr ⟨b, o, cs, t, fz, h1, ht b t (lt_of_get h2) hT, h2, h3, h4⟩
def kindR (n : Nat) : Nat := if n = 0 then 1 else kindN n
variable [Floor]
def QB (Q : Nat → Prop) : Nat → TypeId → Prop := fun b t => QT T_uint8 b t ∧ Q b
section
variable {w : World} {v : Value} {l : Kv}
theorem Ps.valK {K : Value → Value → Prop} {kd : IntKind} {i : Int} (h : Ps w v l) (m : Nat) (hi : i = (m : Int)) (hm : m < l.length) (k : ∀ p, (∀ w', Ps w' v l → xKeep1 w' p (u64 l[m].2)) → K p (u64 l[m].2)) :
    xIxS v (.int kd i) 2 fun u => xFld u 1 fun p => xAt p fun a => XLd w a fun x => K p x := by
  have key : ∀ w', Ps w' v l → ∃ a cap, v = .slice (some a) l.length cap ∧ w'.cell? ((a.add (m * 2)).add 1) = some (u64 l[m].2) := by
    rintro w' ⟨T, cells, hT, h1, h2⟩
    obtain ⟨kv, -, -, h3, -⟩ := h2.at_ m l[m] (List.getElem?_eq_getElem hm)
    obtain ⟨a, cap, rfl, hc⟩ := h1.cell hm (show 1 < 2 by omega)
    exact ⟨a, cap, rfl, by rw [hc, h3]⟩
  obtain ⟨a, cap, rfl, hc⟩ := key w h
  refine ⟨m, hi, hm, ⟨_, hc, k _ fun w' h' => ?_⟩⟩
  obtain ⟨a', cap', e, hc'⟩ := key w' h'
  simp only [Value.slice.injEq, Option.some.injEq] at e
  obtain ⟨rfl, -, rfl⟩ := e
  exact hc'
end
end Go.Proofs.YtidkkkdlaclolaaGreat
end
section
namespace Go.Proofs.YtidkkkdlaclolaaGreat
open Go Go.RowKit X
set_option linter.unusedSimpArgs false
set_option linter.unusedVariables false
set_option linter.unusedSectionVars false
theorem dom_noE : (dom fun c => (noE c).opt) = [] := dom_none
theorem dom_app {kids : UInt8 → E} {b : UInt8} {e : E} (he : e.opt.isSome) (hlt : ∀ c ∈ dom (fun c => (kids c).opt), c.toNat < b.toNat) : (dom fun c => (updE kids b e c).opt) = (dom fun c => (kids c).opt) ++ [b] := by
  refine dom_eq ?_ fun c => ?_
  · refine List.pairwise_append.2 ⟨dom_rise _, List.pairwise_singleton _ _, fun c hc d hd => ?_⟩
    rw [List.mem_singleton.1 hd]
    exact hlt c hc
  · rw [List.mem_append, dom_mem, List.mem_singleton]
    by_cases h : c = b
    · subst h; rw [updE_same]; simp [he]
    · rw [updE_other _ _ h]; simp [h]
variable [Floor]
section
theorem shared_max {x : Key × Nat} {l : Kv} {n : Nat} (hr : Rises (x :: l)) (hn : n ≤ x.1.length) (hall : ∀ u ∈ x :: l, n ≤ common x.1 u.1) (hex : n = x.1.length ∨ ∃ u ∈ x :: l, common x.1 u.1 = n) :
    (∀ u ∈ x :: l, x.1.take n <+: u.1) ∧ ((x.1.take n).length = x.1.length ∨ ∃ u ∈ x :: l, (x.1.take n).length < u.1.length ∧ byteAt (x.1.take n).length u.1 ≠ byteAt (x.1.take n).length x.1) := by
  have hql : (x.1.take n).length = n := by rw [List.length_take]; omega
  refine ⟨fun u hu => ?_, ?_⟩
  · have h1 := common_take x.1 u.1
    have h2 := hall u hu
    have : x.1.take n = (x.1.take (common x.1 u.1)).take n := by rw [List.take_take, Nat.min_eq_left h2]
    rw [this]
    exact (List.take_prefix _ _).trans h1
  · rw [hql]
    rcases hex with h | ⟨u, hu, h⟩
    · exact .inl h
    · by_cases e : n = x.1.length
      · exact .inl e
      · right
        have hcl := common_le x.1 u.1
        have hul : n < u.1.length := by
          refine Classical.byContradiction fun hh => ?_
          have hlen : u.1.length = n := by omega
          have hp : u.1 <+: x.1 := by
            have := common_take u.1 x.1
            rw [common_comm, h, ← hlen, List.take_length] at this
            exact this
          obtain ⟨s, hs⟩ := hp
          rcases hr.first hu with h' | h'
          · rw [← hs] at h'
            have : kcmp (u.1 ++ s) (u.1 ++ []) < 0 := by rw [List.append_nil]; exact h'
            rw [kcmp_app] at this
            cases s with
            | nil => exact absurd this (by decide)
            | cons c s => rw [kcmp_cn] at this; exact absurd this (by decide)
          · rw [h'] at e; exact e hlen.symm
        refine ⟨u, hu, hul, ?_⟩
        have := common_ne (a := x.1) (b := u.1) (by omega) (by omega)
        rw [h] at this
        exact this.symm
theorem Own.ne {w : World} {B B' : Nat} {e e' : TypeId} {sz sz' n n' : Nat} {v v' : Value} {xs xs' : List Value} (h : Own w B e sz v n xs) (h' : Own w B' e' sz' v' n' xs') (he : e ≠ e') {b : Nat} (hb : v.ownBlock = some b) : v'.ownBlock ≠ some b := fun hb' => by
  rcases h.2 with ⟨rfl, -⟩ | ⟨g, cap, cur, rfl, -, hg, -⟩
  · cases hb
  · rcases h'.2 with ⟨rfl, -⟩ | ⟨g', cap', cur', rfl, -, hg', -⟩
    · cases hb'
    · simp only [Value.ownBlock, Option.some.injEq] at hb hb'
      subst hb; subst hb'
      have := hg.symm.trans hg'
      simp at this
      exact he this.2
theorem Own.neB {w : World} {B b : Nat} {e T : TypeId} {sz n : Nat} {v : Value} {xs cs : List Value} (h : Own w B e sz v n xs) (hb : Blk w b cs T) (he : e ≠ T) : v.ownBlock ≠ some b := fun hb' => by
  rcases h.2 with ⟨rfl, -⟩ | ⟨g, cap, cur, rfl, -, hg, -⟩
  · cases hb'
  · simp only [Value.ownBlock, Option.some.injEq] at hb'
    subst hb'
    have := hg.symm.trans hb.h
    simp at this
    exact he this.2
theorem six {cs : List Value} (h : cs.length = 6) : ∃ a b c d e f, cs = [a, b, c, d, e, f] := by
  match cs, h with
  | [a, b, c, d, e, f], _ => exact ⟨a, b, c, d, e, f, rfl⟩
end
end Go.Proofs.YtidkkkdlaclolaaGreat
end
end
section
namespace Go.Proofs.YtidkkkdlaclolaaGreat
open Go Go.RowKit X
set_option linter.unusedSimpArgs false
set_option linter.unusedVariables false
set_option linter.unusedSectionVars false
/-- a whole element, that goes on standing there -/
theorem X.Sl.rdNK {w : World} {T : Nat → TypeId → Prop} {v : Value} {sz n : Nat} {cells : List Value} {K : Value → Value → Prop} {kd : IntKind} {i : Int} (h : Sl w T v sz n cells) (m : Nat) (hi : i = (m : Int)) (hm : m < n)
    (k : ∀ p, (∀ w', Sl w' T v sz n cells → xKeepN w' p (.agg ((cells.drop (m * sz)).take sz).toArray)) → K p (.agg ((cells.drop (m * sz)).take sz).toArray)) :
    xIxS v (.int kd i) sz fun u => xAt u fun a => XLdN w a sz fun x => K u x := by
  have hl := h.len
  have hle : (m + 1) * sz ≤ n * sz := Nat.mul_le_mul_right sz hm
  rw [Nat.succ_mul] at hle
  have key : ∀ w', Sl w' T v sz n cells → ∃ a cap, v = .slice (some a) n cap ∧ ∀ o, o < sz → w'.cell? ((a.add (m * sz)).add o) = cells[m * sz + o]? := by
    rintro w' ⟨a, cap, rfl, hl, hc, ha⟩
    cases a with
    | none => exact absurd ha (by omega)
    | some ad =>
      rcases ha with h0 | ⟨b, of, cs, t, fz, rfl, hT, h2, h3, h4⟩
      · omega
      refine ⟨_, cap, rfl, fun o ho => ?_⟩
      rw [Addr.add_lit, Addr.add_lit]
      have := h4 (m * sz + o) (by omega)
      simp only [World.cell?, h2]
      simp
      rw [show of + m * sz + o = of + (m * sz + o) by omega]
      exact this
  obtain ⟨a, cap, rfl, hc⟩ := key w h
  have hseg : ∀ o, o < sz → ((cells.drop (m * sz)).take sz).toArray[o]? = cells[m * sz + o]? := fun o ho => by simp [List.getElem?_take, ho, List.getElem?_drop]
  have hsz : ((cells.drop (m * sz)).take sz).toArray.size = sz := by simp; omega
  refine ⟨m, hi, hm, ⟨_, hsz, fun o ho => by rw [hc o ho, hseg o ho], k _ fun w' h' => ?_⟩⟩
  obtain ⟨a', cap', e, hc'⟩ := key w' h'
  simp only [Value.slice.injEq, Option.some.injEq] at e
  obtain ⟨rfl, -, rfl⟩ := e
  intro o ho
  have ho : o < sz := by rw [hsz] at ho; exact ho
  rw [hc' o ho, hseg o ho]
variable [Floor]
section
end
end Go.Proofs.YtidkkkdlaclolaaGreat
end
