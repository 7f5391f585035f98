/-  the references' Sort.  -/
import Derived.Test.YtbleadagnpckbaaGreatDoorRefK
import Derived.Test.YtbleadagnpckbaaGreatDoorPs2
namespace Go.Proofs.YtbleadagnpckbaaGreatDoor
open Go Go.RowKit X
set_option linter.unusedSimpArgs false
set_option linter.unusedVariables false
set_option linter.unusedSectionVars false
theorem insK_set : ∀ {s : Kv} {j : Nat} {k : Key} {v : Nat}, (∀ i (h : i < s.length), i < j → klt s[i].1 k) → (hj : j < s.length) → s[j].1 = k → insK s k v = s.set j (k, v) := by
  intro s
  induction s with
  | nil => intro j k v _ hj; simp at hj
  | cons p r ih =>
    intro j k v hlt hj he
    cases j with
    | zero =>
      have he : p.1 = k := he
      rw [insK, if_neg (by rw [he]; exact klt_irr), if_pos he]; rfl
    | succ j =>
      have h0 : klt p.1 k := hlt 0 (by simp) (by omega)
      rw [insK, if_pos h0, List.set_cons_succ, ih (fun i h hi => hlt (i + 1) (by simpa using h) (by omega)) (by simpa using hj) he]
theorem insK_ins : ∀ {s : Kv} {j : Nat} {k : Key} {v : Nat}, (∀ i (h : i < s.length), i < j → klt s[i].1 k) → j ≤ s.length → (∀ h : j < s.length, ¬ klt s[j].1 k ∧ s[j].1 ≠ k) → insK s k v = s.take j ++ (k, v) :: s.drop j := by
  intro s
  induction s with
  | nil => intro j k v _ hj _; simp at hj; subst hj; rfl
  | cons p r ih =>
    intro j k v hlt hj hn
    cases j with
    | zero =>
      have h1 : ¬ klt p.1 k := (hn (by simp)).1
      have h2 : p.1 ≠ k := (hn (by simp)).2
      rw [insK, if_neg h1, if_neg h2]; rfl
    | succ j =>
      have h0 : klt p.1 k := hlt 0 (by simp) (by omega)
      rw [insK, if_pos h0, ih (fun i h hi => hlt (i + 1) (by simpa using h) (by omega)) (by simpa using hj) (fun h => hn (by simpa using h))]
      rfl
theorem sortK_take {l : Kv} {i : Nat} (h : i < l.length) : sortK (l.take (i + 1)) = insK (sortK (l.take i)) l[i].1 l[i].2 := by
  rw [← List.take_append_getElem h, sortK_snoc]
variable [Floor]
section
variable {w0 w : World} {T : TypeId} {v : Value} {l : Kv}
theorem SO.key {K : Value → Prop} {kd : IntKind} {i : Int} (h : SO w0 w T v l) (m : Nat) (hi : i = (m : Int)) (hm : m < l.length) (k : ∀ kv, Bs w0 kv l[m].1 → K kv) : xIxS v (.int kd i) 2 fun u => xFld u 0 fun p => xAt p fun a => XLd w a K := by
  obtain ⟨cells, h1, h2⟩ := h
  obtain ⟨kv, h3, h4, -⟩ := h2.at_ m l[m] (List.getElem?_eq_getElem hm)
  exact h1.sl.rdF m hi hm (by omega) h3 (k kv h4)
theorem SO.rd {K : Value → Prop} {kd : IntKind} {i : Int} (h : SO w0 w T v l) (m : Nat) (hi : i = (m : Int)) (hm : m < l.length) (k : ∀ kv, Bs w0 kv l[m].1 → l[m].2 < 18446744073709551616 → K (.agg #[kv, u64 l[m].2])) : xIxS v (.int kd i) 2 fun u => xAt u fun a => XLdN w a 2 K := by
  obtain ⟨cells, h1, h2⟩ := h
  obtain ⟨kv, h3, h4, h5, h6⟩ := h2.at_ m l[m] (List.getElem?_eq_getElem hm)
  refine h1.sl.rdN m hi hm ?_
  have hl := h2.len
  have : (cells.drop (m * 2)).take 2 = [kv, u64 l[m].2] := by
    apply List.ext_getElem?
    intro j
    rw [List.getElem?_take]
    match j with
    | 0 => rw [if_pos (by omega), List.getElem?_drop, Nat.add_zero, h3]; rfl
    | 1 => rw [if_pos (by omega), List.getElem?_drop, h5]; rfl
    | j + 2 => rw [if_neg (by omega)]; rfl
  rw [this]
  exact k kv h4 h6
theorem SO.len {K : Value → Prop} (h : SO w0 w T v l) (k : K (.int .i64 l.length)) : xLen v K := let ⟨_, h1, _⟩ := h; xLen_sl h1.sl k
/-- a whole element, its key in the world from which the call began -/
theorem Ps.rd0 {w : World} {K : Value → Prop} {kd : IntKind} {i : Int} (h : Ps w0 v l) (he : Ext No w0 w) (m : Nat) (hi : i = (m : Int)) (hm : m < l.length) (k : ∀ kv, Bs w0 kv l[m].1 → K (.agg #[kv, u64 l[m].2])) : xIxS v (.int kd i) 2 fun u => xAt u fun a => XLdN w a 2 K := by
  obtain ⟨T, cells, hT, h1, h2⟩ := h
  obtain ⟨kv, h3, h4, h5, h6⟩ := h2.at_ m l[m] (List.getElem?_eq_getElem hm)
  refine (h1.extN he).rdN m hi hm ?_
  have hl := h2.len
  have : (cells.drop (m * 2)).take 2 = [kv, u64 l[m].2] := by
    apply List.ext_getElem?
    intro j
    rw [List.getElem?_take]
    match j with
    | 0 => rw [if_pos (by omega), List.getElem?_drop, Nat.add_zero, h3]; rfl
    | 1 => rw [if_pos (by omega), List.getElem?_drop, h5]; rfl
    | j + 2 => rw [if_neg (by omega)]; rfl
  rw [this]
  exact k kv h4
theorem Ps.key0 {w : World} {K : Value → Prop} {kd : IntKind} {i : Int} (h : Ps w0 v l) (he : Ext No w0 w) (m : Nat) (hi : i = (m : Int)) (hm : m < l.length) (k : ∀ kv, Bs w0 kv l[m].1 → K kv) : xIxS v (.int kd i) 2 fun u => xFld u 0 fun p => xAt p fun a => XLd w a K := by
  obtain ⟨T, cells, hT, h1, h2⟩ := h
  obtain ⟨kv, h3, h4, -⟩ := h2.at_ m l[m] (List.getElem?_eq_getElem hm)
  exact (h1.extN he).rdF m hi hm (by omega) h3 (k kv h4)
theorem c_rSort (h : Ps w0 v l) (hl : l.length ≤ 1099511627776) (hk : ∀ p ∈ l, p.1.length ≤ 4611686018427387904) : Ret P n_ref13_Sort [v] w0 fun r w' => SO w0 w' T_ref01_Pair r (sortK l) ∧ Ext No w0 w' := by
  have hkd : ∀ i (h : i < l.length), l[i].1.length ≤ 4611686018427387904 := fun i h => hk _ (List.getElem_mem h)
  refine W_ref13_Sort ?_
  refine xloop (fun n vs w' => ∃ (i : Nat) (x out y : Value), vs = [.int .i64 i, x, out, y] ∧ n = l.length - i ∧ i ≤ l.length ∧ SO w0 w' T_ref01_Pair out (sortK (l.take i)) ∧ Ext No w0 w') l.length
    ⟨0, _, _, _, rfl, rfl, by omega, SO.nil _ _ _, Ext.refl _ _⟩ ?_
  rintro n vs g w1 ⟨i, x, out, y, rfl, rfl, hi, hso, he⟩
  refine h.len ?_
  refine xifD (fun hlt => ?_) fun hge => ?_
  · have hil : i < l.length := by omega
    generalize hss : sortK (l.take i) = s at hso
    have hsl : s.length ≤ i := by
      have := sortK_length (l.take i)
      rw [hss] at this
      simp at this; omega
    have hsk : ∀ j (h : j < s.length), s[j].1.length ≤ 4611686018427387904 := fun j h => by
      have : s[j] ∈ sortK (l.take i) := by rw [hss]; exact List.getElem_mem h
      exact hk _ (List.mem_of_mem_take (sortK_mem this))
    have h64 := h.get hil
    refine xj (fun vs w' => ∃ x out' y, vs = [x, out', y] ∧ SO w0 w' T_ref01_Pair out' (sortK (l.take (i + 1))) ∧ Ext No w0 w') ?_ ?_
    · rw [sortK_take hil, hss]
      refine xloop (fun n vs w' => ∃ j : Nat, vs = [.int .i64 j] ∧ n = s.length - j ∧ j ≤ s.length ∧ (∀ i' (h : i' < s.length), i' < j → klt s[i'].1 l[i].1) ∧ SO w0 w' T_ref01_Pair out s ∧ Ext No w0 w') s.length ⟨0, rfl, rfl, by omega, fun _ _ h => by omega, hso, he⟩ ?_
      rintro n vs g w2 ⟨j, rfl, rfl, hj, hjl, hso2, he2⟩
      refine xj (fun vs w' => ∃ t : Bool, vs = [.bool t] ∧ (t = true → ∃ h : j < s.length, klt s[j].1 l[i].1) ∧ (t = false → ∀ h : j < s.length, ¬ klt s[j].1 l[i].1) ∧ SO w0 w' T_ref01_Pair out s ∧ Ext No w0 w') ?_ ?_
      · refine hso2.len ?_
        refine xifD (fun h1 => ?_) fun h1 => ⟨false, rfl, fun h => (by cases h), fun _ h => by omega, hso2, he2.drew⟩
        have h1 : j < s.length := by omega
        refine SO.key (w := w2.drew) hso2 j rfl h1 fun ka hka => ?_
        refine (h.extN he2.drew).key i rfl hil fun kb hkb => ?_
        refine (c_rCmp (hka.extN he2.drew) hkb (hsk j h1)).mono ?_
        rintro r w3 ⟨rfl, he3⟩
        refine ⟨_, rfl, fun h => ⟨h1, (by simpa using h : kcmp s[j].1 l[i].1 < 0)⟩, fun h _ => ?_, hso2.extN he3.undrew, he2.drew.transN he3⟩
        intro hk
        have hk : kcmp s[j].1 l[i].1 < 0 := hk
        have h : decide (kcmp s[j].1 l[i].1 < 0) = false := h
        simp at h
        omega
      · rintro vs g w3 ⟨t, rfl, ht, hf, hso3, he3⟩
        cases t with
        | true =>
          obtain ⟨h1, h2⟩ := ht rfl
          refine xifT rfl ?_
          refine xi (r := ((j + 1 : Nat) : Int)) (by rw [wrapI (by omega)]; omega) ?_
          refine xnext (s.length - (j + 1)) (by omega) ⟨j + 1, rfl, rfl, by omega, fun i' h hi' => ?_, hso3, he3⟩
          rcases Nat.lt_succ_iff_lt_or_eq.1 hi' with e | e
          · exact hjl i' h e
          · subst e; exact h2
        | false =>
          have hnl := hf rfl
          refine xifF rfl ?_
          refine xj (fun vs w' => ∃ t : Bool, vs = [.bool t] ∧ (t = true → ∃ h : j < s.length, s[j].1 = l[i].1) ∧ (t = false → ∀ h : j < s.length, s[j].1 ≠ l[i].1) ∧ SO w0 w' T_ref01_Pair out s ∧ Ext No w0 w') ?_ ?_
          · refine hso3.len ?_
            refine xifD (fun h1 => ?_) fun h1 => ⟨false, rfl, fun h => (by cases h), fun _ h => by omega, hso3, he3.drew⟩
            have h1 : j < s.length := by omega
            refine SO.key (w := w3.drew) hso3 j rfl h1 fun ka hka => ?_
            refine (h.extN he3.drew).key i rfl hil fun kb hkb => ?_
            refine (c_rSame (hka.extN he3.drew) hkb (hsk j h1)).mono ?_
            rintro r w4 ⟨rfl, he4⟩
            exact ⟨_, rfl, fun h => ⟨h1, of_decide_eq_true h⟩, fun h _ => of_decide_eq_false h, hso3.extN he4.undrew, he3.drew.transN he4⟩
          · rintro vs g w4 ⟨t, rfl, ht, hf2, hso4, he4⟩
            cases t with
            | true =>
              obtain ⟨h1, h2⟩ := ht rfl
              refine xifT rfl ?_
              refine (h.extN he4).val i rfl hil ?_
              refine hso4.stV j rfl h1 h64 fun w5 hso5 he5 => ?_
              refine ⟨_, _, _, rfl, ?_, hso4.own he4 he5⟩
              rw [insK_set hjl h1 h2]
              rw [h2] at hso5
              exact hso5
            | false =>
              have hne := hf2 rfl
              refine xifF rfl ?_
              show XNew w4 [.slice none 0 0, u64 0] T_ref01_Pair _
              refine xnew fun a w5 ha hblk hz5 he5 => ?_
              have hsl1 : Sl w5 (tyQ T_ref01_Pair) (.slice (some ⟨a, 0, none⟩) 1 1) 2 1 [.slice none 0 0, u64 0] := hblk.sln rfl
              have hso5 := hso4.extN he5
              refine SO.app (m := [([], 0)]) ei_ref hso5 (he4.transN he5) hsl1 (PC.sing (Bs.nil w0) (by omega)) (by simp; omega) fun out' w6 hso6 he6 _ _ => ?_
              refine hso6.len ?_
              refine xi (r := (s.length : Int)) (by simp only [List.length_append, List.length_singleton]; rw [wrapI (by omega)]; omega) ?_
              refine xloop (fun n vs w' => ∃ (k : Nat) (q : Key × Nat), vs = [.int .i64 k] ∧ n = k ∧ j ≤ k ∧ k ≤ s.length ∧ SO w0 w' T_ref01_Pair out' (s.take k ++ q :: s.drop k) ∧ Ext No w0 w') s.length
                ⟨s.length, ([], 0), rfl, rfl, hj, Nat.le_refl _, by simpa using hso6, he6⟩ ?_
              rintro n vs g w7 ⟨k, q, rfl, hnk, hjk, hks, hso7, he7⟩
              have hlen7 : (s.take k ++ q :: s.drop k).length = s.length + 1 := by simp; omega
              refine xifD (fun hgt => ?_) fun hle => ?_
              · have hk1 : j < k := by omega
                refine xi (r := ((k - 1 : Nat) : Int)) (by rw [wrapI (by omega)]; omega) ?_
                refine hso7.rd (k - 1) rfl (by omega) fun kv hkv hv64 => ?_
                have hget : (s.take k ++ q :: s.drop k)[k - 1] = s[k - 1] := by
                  rw [List.getElem_append_left (by simp; omega), List.getElem_take]
                rw [hget] at hkv hv64 ⊢
                refine hso7.stP k rfl (by omega) hkv hv64 (by kernel_rfl) fun w8 hso8 he8 => ?_
                refine xi (r := ((k - 1 : Nat) : Int)) (by rw [wrapI (by omega)]; omega) ?_
                refine xnext (k - 1) (by omega) ⟨k - 1, s[k - 1], rfl, rfl, by omega, by omega, ?_, hso7.own he7 he8⟩
                have e1 : (s.take k ++ q :: s.drop k).set k (s[k - 1].1, s[k - 1].2) = s.take (k - 1) ++ s[k - 1] :: s.drop (k - 1) := by
                  rw [List.set_append_right _ _ (by simp; omega)]
                  have : k - (s.take k).length = 0 := by simp; omega
                  rw [this, List.set_cons_zero]
                  have e2 : s.take k = s.take (k - 1) ++ [s[k - 1]] := by
                    have := List.take_append_getElem (l := s) (i := k - 1) (by omega)
                    rw [show k - 1 + 1 = k by omega] at this
                    exact this.symm
                  have e3 : s.drop (k - 1) = s[k - 1] :: s.drop k := by
                    have := List.drop_eq_getElem_cons (l := s) (i := k - 1) (by omega)
                    rw [show k - 1 + 1 = k by omega] at this
                    exact this
                  rw [e2, e3, List.append_assoc]
                  rfl
                rw [e1] at hso8
                exact hso8
              · have hkj : k = j := by omega
                subst hkj
                refine h.rd0 he7 i rfl hil fun kv hkv => ?_
                refine hso7.stP k rfl (by omega) hkv h64 (by kernel_rfl) fun w8 hso8 he8 => ?_
                refine ⟨_, _, _, rfl, ?_, hso7.own he7 he8⟩
                have e1 : (s.take k ++ q :: s.drop k).set k (l[i].1, l[i].2) = s.take k ++ (l[i].1, l[i].2) :: s.drop k := by
                  rw [List.set_append_right _ _ (by simp; omega)]
                  have : k - (s.take k).length = 0 := by simp; omega
                  rw [this, List.set_cons_zero]
                rw [e1] at hso8
                rw [insK_ins hjl hj fun h => ⟨hnl h, hne h⟩]
                exact hso8
    · rintro vs g w2 ⟨x, out', y, rfl, hso2, he2⟩
      refine xi (r := ((i + 1 : Nat) : Int)) (by rw [wrapI (by omega)]; omega) ?_
      exact xnext (l.length - (i + 1)) (by omega) ⟨i + 1, _, _, _, rfl, rfl, by omega, hso2, he2⟩
  · have : i = l.length := by omega
    subst this
    rw [List.take_length] at hso
    exact ⟨hso, he⟩
end
end Go.Proofs.YtbleadagnpckbaaGreatDoor
