/-  the references of layers 14 and 19: a key's value among pairs; whether pairs are the same.  -/
import Derived.Test.YtbfnagdpanfphaaGreatDoorRefK
section
namespace Go.Proofs.YtbfnagdpanfphaaGreatDoor
open Go Go.RowKit X
set_option linter.unusedSimpArgs false
set_option linter.unusedVariables false
set_option linter.unusedSectionVars false
theorem look_drop_none {k : Key} {l : Kv} {i : Nat} (h : ∀ p ∈ l.take i, p.1 ≠ k) : look l k = look (l.drop i) k := by
  induction l generalizing i with
  | nil => simp
  | cons p r ih =>
    cases i with
    | zero => simp
    | succ i =>
      rw [List.take_succ_cons] at h
      rw [List.drop_succ_cons]
      show (if p.1 = k then some p.2 else look r k) = _
      rw [if_neg (h p (by simp))]
      exact ih fun q hq => h q (List.mem_cons_of_mem _ hq)
variable [Floor]
section
variable {w : World} {v vb vk : Value} {l m : Kv} {k : Key}
end
end Go.Proofs.YtbfnagdpanfphaaGreatDoor
end
section
namespace Go.Proofs.YtbfnagdpanfphaaGreatDoor
open Go Go.RowKit X
set_option linter.unusedSimpArgs false
set_option linter.unusedVariables false
set_option linter.unusedSectionVars false
variable [Floor]
theorem c_r19Same {w : World} {va vb : Value} {l m : Kv} (h : Ps w va l) (h' : Ps w vb m) (hl : l.length ≤ 1000000) (hm : m.length ≤ 1000000) (hks : ∀ x ∈ l, x.1.length ≤ 65535) : Ret P n_ref19_Same [va, vb] w fun r w' => r = .bool (decide (l = m)) ∧ Ext No w w' := by
  refine W_ref19_Same ?_
  refine h.len ?_
  refine h'.len ?_
  refine xifN (fun hne => ?_) fun heq => ?_
  · refine ⟨?_, Ext.refl _ _⟩
    rw [decide_eq_false]
    intro e; subst e; exact hne rfl
  have heq : l.length = m.length := by omega
  refine xloop (fun n vs w' => ∃ i : Nat, vs = [.int .i64 i, .bool false] ∧ n = l.length - i ∧ i ≤ l.length ∧ l.take i = m.take i ∧ Ext No w w') l.length ⟨0, rfl, rfl, by omega, by simp, Ext.refl _ _⟩ ?_
  rintro n vs g w1 ⟨i, rfl, rfl, hi, htk, he⟩
  unfold S_ref19_Same_l1
  have h1 := h.extN he
  have h1' := h'.extN he
  refine h1.len ?_
  refine xifD (fun hlt => ?_) fun hge => ?_
  · have hil : i < l.length := by omega
    have him : i < m.length := by omega
    have hd := Ext.drew (Ext.refl No w1)
    refine xj (fun vs w' => vs = [.bool (!decide (l[i] = m[i]))] ∧ Ext No w1 w') ?_ ?_
    · refine (h1.extN hd).val i rfl hil ?_
      refine (h1'.extN hd).val i rfl him ?_
      refine xifN (fun hne => ⟨?_, hd⟩) fun hv => ?_
      · rw [decide_eq_false]; rfl
        intro e; rw [e] at hne; exact hne rfl
      · have hv : l[i].2 = m[i].2 := by omega
        refine (h1.extN hd).key i rfl hil fun kv hkv => ?_
        refine (h1'.extN hd).key i rfl him fun kv' hkv' => ?_
        refine (c_rSame hkv hkv' (by have := hks _ (List.getElem_mem hil); omega)).mono ?_
        rintro r w2 ⟨rfl, he2⟩
        refine ⟨?_, hd.transN he2⟩
        congr 2
        by_cases hk : l[i].1 = m[i].1
        · rw [decide_eq_true hk, decide_eq_true (Prod.ext hk hv)]
        · rw [decide_eq_false hk, decide_eq_false fun e => hk (by rw [e])]
    · rintro vs g w2 ⟨rfl, he2⟩
      by_cases e : l[i] = m[i]
      · rw [decide_eq_true e]
        refine xifF rfl ?_
        refine xi (r := ((i + 1 : Nat) : Int)) (by rw [wrapI (by omega)]; omega) ?_
        refine xnext (l.length - (i + 1)) (by omega) ⟨i + 1, rfl, rfl, by omega, ?_, he.transN he2⟩
        rw [← List.take_append_getElem hil, ← List.take_append_getElem him, htk, e]
      · rw [decide_eq_false e]
        refine xifT rfl ⟨?_, he.transN he2⟩
        rw [decide_eq_false]
        intro e'; subst e'; exact e rfl
  · have : i = l.length := by omega
    subst this
    rw [List.take_length, heq, List.take_length] at htk
    rw [decide_eq_true htk]
    exact ⟨rfl, he⟩
end Go.Proofs.YtbfnagdpanfphaaGreatDoor
end
