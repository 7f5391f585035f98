/-  the references' keys: what two keys share, which is less.  -/
import Derived.Test.YtbleadagnpckbaaGreatDoorPs
import Derived.Test.YtbleadagnpckbaaGreatDoorPl
namespace Go.Proofs.YtbleadagnpckbaaGreatDoor
open Go Go.RowKit X
set_option linter.unusedSimpArgs false
set_option linter.unusedVariables false
set_option linter.unusedSectionVars false
theorem kcmp_common : ∀ (a b : Key), kcmp a b = if common a b = a.length then (if common a b = b.length then 0 else -1) else if common a b = b.length then 1 else if byteAt (common a b) a < byteAt (common a b) b then -1 else 1 := by
  intro a
  induction a with
  | nil => intro b; cases b with
    | nil => rfl
    | cons y s => rw [kcmp_nc]; simp [common]
  | cons x r ih => intro b; cases b with
    | nil => rw [kcmp_cn]; simp [common]
    | cons y s =>
      rw [kcmp_cons]
      by_cases h : x = y
      · subst h
        rw [if_neg (UInt8.lt_irrefl x), if_neg (UInt8.lt_irrefl x), ih]
        have hc : common (x :: r) (x :: s) = common r s + 1 := by simp [common]
        rw [hc]
        simp only [List.length_cons, Nat.add_right_cancel_iff]
        rfl
      · have hc : common (x :: r) (y :: s) = 0 := by simp [common, h]
        have e1 : (if common (x :: r) (y :: s) = (x :: r).length then (if common (x :: r) (y :: s) = (y :: s).length then (0 : Int) else -1) else if common (x :: r) (y :: s) = (y :: s).length then 1 else if byteAt (common (x :: r) (y :: s)) (x :: r) < byteAt (common (x :: r) (y :: s)) (y :: s) then -1 else 1) = if x < y then -1 else 1 := by
          rw [hc, if_neg (by simp), if_neg (by simp)]
          rfl
        rw [e1]
        by_cases h1 : x < y
        · rw [if_pos h1, if_pos h1]
        · rw [if_neg h1, if_neg h1, if_pos (UInt8.lt_of_le_of_ne (UInt8.not_lt.1 h1) (Ne.symm h))]
theorem common_lt {a b : Key} {i : Nat} (h : i < common a b) : a[i]? = b[i]? := by
  obtain ⟨p, q, r, rfl, rfl, h3, -⟩ := common_split a b
  rw [← h3] at h
  rw [List.getElem?_append_left h, List.getElem?_append_left h]
theorem common_prefix {a b : Key} : common a b = b.length ↔ b <+: a := by
  constructor
  · intro h
    have := common_take b a
    rw [common_comm, h, List.take_length] at this
    exact this
  · intro h
    have h1 := common_ge (a := a) (b := b) h (List.prefix_refl b)
    have := (common_le a b).2
    omega
variable [Floor]
section
variable {w : World} {va vb : Value} {a b : Key}
theorem c_rCommon (ha : Bs w va a) (hb : Bs w vb b) (la : a.length ≤ 4611686018427387904) : Ret P n_ref01_Common [va, vb] w fun r w' => r = .int .i64 (common a b) ∧ Ext No w w' := by
  refine W_ref01_Common ?_
  refine xloop (fun n vs w' => ∃ (i : Nat), vs = [.int .i64 i] ∧ i ≤ a.length ∧ i ≤ b.length ∧ n = a.length - i ∧ (∀ j, j < i → a[j]? = b[j]?) ∧ Ext No w w') a.length
    ⟨0, rfl, by omega, by omega, rfl, by omega, Ext.refl _ _⟩ ?_
  rintro n vs g w1 ⟨i, rfl, hia, hib, rfl, hij, he⟩
  have fin : ∀ w2, Ext No w w2 → (a[i]? ≠ b[i]? ∨ i = a.length ∨ i = b.length) → (Value.int .i64 i = Value.int .i64 (common a b) ∧ Ext No w w2) := fun w2 he hs => ⟨by rw [common_stop hij hia hib hs], he⟩
  refine xj (fun vs w' => ∃ t : Bool, vs = [.bool t] ∧ Ext No w w' ∧ (t = true → i < a.length ∧ i < b.length ∧ a[i]? = b[i]?) ∧ (t = false → a[i]? ≠ b[i]? ∨ i = a.length ∨ i = b.length)) ?_ ?_
  · refine ha.len ?_
    refine xifD (fun h1 => ?_) fun h1 => ⟨false, rfl, he.drew, fun h => (by cases h), fun _ => by omega⟩
    refine hb.len ?_
    refine xifD (fun h2 => ?_) fun h2 => ⟨false, rfl, he.drew, fun h => (by cases h), fun _ => by omega⟩
    have h1 : i < a.length := by omega
    have h2 : i < b.length := by omega
    refine (ha.extN he.drew).rd i h1 rfl ?_
    refine (hb.extN he.drew).rd i h2 rfl ?_
    refine ⟨_, rfl, he.drew, fun h => ⟨h1, h2, ?_⟩, fun h => .inl ?_⟩
    · rw [List.getElem?_eq_getElem h1, List.getElem?_eq_getElem h2]
      congr 1
      exact UInt8.toNat_inj.1 (by exact_mod_cast (by simpa using h : (a[i].toNat : Int) = (b[i].toNat : Int)))
    · rw [List.getElem?_eq_getElem h1, List.getElem?_eq_getElem h2]
      intro e
      have e := Option.some.inj e
      rw [e] at h
      simp at h
  · rintro vs g w2 ⟨t, rfl, he2, ht, hf⟩
    cases t with
    | true =>
      obtain ⟨h1, h2, h3⟩ := ht rfl
      refine xifT rfl ?_
      refine xi (r := ((i + 1 : Nat) : Int)) (by rw [wrapI (by omega)]; omega) ?_
      refine xnext (a.length - (i + 1)) (by omega) ⟨i + 1, rfl, by omega, by omega, rfl, fun j hj => ?_, he2⟩
      rcases Nat.lt_succ_iff_lt_or_eq.1 hj with e | e
      · exact hij j e
      · subst e; exact h3
    | false => exact xifF rfl (fin w2 he2 (hf rfl))
theorem c_rCmp (ha : Bs w va a) (hb : Bs w vb b) (la : a.length ≤ 4611686018427387904) : Ret P n_ref01_Cmp [va, vb] w fun r w' => r = .int .i64 (kcmp a b) ∧ Ext No w w' := by
  refine W_ref01_Cmp ?_
  refine (c_rCommon ha hb la).mono ?_
  rintro r w1 ⟨rfl, he⟩
  have hcl := common_le a b
  rw [kcmp_common]
  refine xj (fun vs w' => w' = w1 ∧ vs = [.bool (decide (common a b = a.length ∧ common a b = b.length))]) ?_ ?_
  · refine ha.len ?_
    refine xifE (fun e => ?_) fun e => ⟨rfl, by rw [decide_eq_false (fun h => e (by rw [h.1]))]⟩
    refine hb.len ?_
    refine ⟨rfl, ?_⟩
    have e1 : common a b = a.length := by omega
    by_cases e2 : common a b = b.length
    · rw [decide_eq_true ⟨e1, e2⟩, e2]; simp
    · rw [decide_eq_false (fun h => e2 h.2)]
      congr 2
      simp; omega
  · rintro vs g w2 ⟨rfl, rfl⟩
    refine xifD (fun h => ?_) fun h => ?_
    · rw [if_pos h.1, if_pos h.2]; exact ⟨rfl, he⟩
    · refine ha.len ?_
      refine xifE (fun e => ?_) fun e => ?_
      · have e : common a b = a.length := by omega
        rw [if_pos e, if_neg fun e2 => h ⟨e, e2⟩]; exact ⟨rfl, he⟩
      · have e : common a b ≠ a.length := by omega
        rw [if_neg e]
        refine hb.len ?_
        refine xifE (fun e2 => ?_) fun e2 => ?_
        · have e2 : common a b = b.length := by omega
          rw [if_pos e2]; exact ⟨rfl, he⟩
        · have e2 : common a b ≠ b.length := by omega
          rw [if_neg e2]
          refine (ha.extN he.drew).rd (common a b) (by omega) rfl ?_
          refine (hb.extN he.drew).rd (common a b) (by omega) rfl ?_
          rw [byteAt_get, byteAt_get]
          refine xifD (fun hlt => ?_) fun hlt => ?_
          · rw [if_pos (UInt8.lt_iff_toNat_lt.2 (by omega))]; exact ⟨rfl, he.drew⟩
          · rw [if_neg (fun h' => hlt (by have := UInt8.lt_iff_toNat_lt.1 h'; omega))]; exact ⟨rfl, he.drew⟩
theorem c_rSame (ha : Bs w va a) (hb : Bs w vb b) (la : a.length ≤ 4611686018427387904) : Ret P n_ref01_Same [va, vb] w fun r w' => r = .bool (decide (a = b)) ∧ Ext No w w' := by
  refine W_ref01_Same ?_
  refine (c_rCmp ha hb la).mono ?_
  rintro r w1 ⟨rfl, he⟩
  refine ⟨?_, he⟩
  by_cases e : a = b
  · rw [kcmp_zero.2 e, decide_eq_true e]; rfl
  · rw [decide_eq_false e]
    congr 1
    have : kcmp a b ≠ 0 := fun h => e (kcmp_eq h)
    simpa using this
theorem c_rBegins (ha : Bs w va a) (hb : Bs w vb b) (la : a.length ≤ 4611686018427387904) : Ret P n_ref01_Begins [va, vb] w fun r w' => r = .bool (decide (b <+: a)) ∧ Ext No w w' := by
  refine W_ref01_Begins ?_
  refine (c_rCommon ha hb la).mono ?_
  rintro r w1 ⟨rfl, he⟩
  refine hb.len ?_
  refine ⟨?_, he⟩
  by_cases e : b <+: a
  · rw [decide_eq_true e, common_prefix.2 e]; simp
  · rw [decide_eq_false e]
    congr 1
    have : common a b ≠ b.length := fun h => e (common_prefix.1 h)
    simp; omega
end
end Go.Proofs.YtbleadagnpckbaaGreatDoor
