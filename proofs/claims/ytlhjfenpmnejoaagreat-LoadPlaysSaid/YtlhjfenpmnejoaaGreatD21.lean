/-  law21: what its helpers make.  -/
import Derived.Test.YtlhjfenpmnejoaaGreatVer
import Derived.Test.YtlhjfenpmnejoaaGreatRefV
import Derived.Test.YtlhjfenpmnejoaaGreatSAlaw21
namespace Go.Proofs.YtlhjfenpmnejoaaGreat
open Go Go.RowKit X
set_option linter.unusedSimpArgs false
set_option linter.unusedVariables false
set_option linter.unusedSectionVars false
namespace law21
variable [Floor]
section
variable {w : World} {v : Value} {l : Kv}
theorem c_far (h : Ps w v l) {m : Nat} (hmm : m ≤ 100000) : Ret P n_law21_far [v, .int .i64 m] w fun r w' => ∃ b, r = .bool b ∧ Ext No w w' ∧ (b = false → l.length ≤ m ∧ ∀ p ∈ l, p.1.length ≤ 300) := by
  refine W_law21_far ?_
  refine h.len ?_
  refine xifD (fun hm => ⟨true, rfl, Ext.refl _ _, fun h => by cases h⟩) fun hm => ?_
  refine h.len ?_
  refine xloop (fun n vs w' => ∃ (i : Nat) (x : Value), vs = [.int .i64 i, x] ∧ n = l.length - i ∧ i ≤ l.length ∧ (∀ p ∈ l.take i, p.1.length ≤ 300) ∧ Ext No w w') l.length ⟨0, _, rfl, rfl, by omega, by simp, Ext.refl _ _⟩ ?_
  rintro n vs g w1 ⟨i, x, rfl, rfl, hi, hall, he⟩
  refine xifD (fun hlt => ?_) fun hge => ?_
  · have hil : i < l.length := by omega
    refine (h.extN he).rd i rfl hil fun kv hkv => ?_
    refine xnew fun b w2 hb hblk hz he2 => ?_
    refine xstoreVar hblk (by kernel_rfl) (by simp) ?_ fun w3 hb3 hz3 he3 => ?_
    · intro u hu
      simp only [List.mem_cons, List.mem_nil_iff, or_false] at hu
      rcases hu with rfl | rfl
      · exact hkv.one1
      · rfl
    · have hb3' : Blk w3 b [kv, u64 l[i].2] T_ref01_Pair := by simpa using hb3
      have hE3 : Ext No w1 w3 := he2.trans1 he3 (by omega)
      refine hb3'.ld (o := 0) (v := kv) rfl ?_
      refine (hkv.extN hE3).len ?_
      refine xifD (fun hk => ⟨true, rfl, he.transN hE3, fun h => by cases h⟩) fun hk => ?_
      refine xi (r := ((i + 1 : Nat) : Int)) (by rw [wrapI (by omega)]; omega) ?_
      refine xnext (l.length - (i + 1)) (by omega) ⟨i + 1, _, rfl, rfl, by omega, fun p hp => ?_, he.transN hE3⟩
      rw [← List.take_append_getElem hil] at hp
      rcases List.mem_append.1 hp with e | e
      · exact hall p e
      · rw [List.mem_singleton.1 e]; omega
  · have : i = l.length := by omega
    subst this
    rw [List.take_length] at hall
    exact ⟨false, rfl, he, fun _ => ⟨by omega, hall⟩⟩
/-- the same pairs, as the program has them -/
theorem c_pairsS (h : Ps w v l) (hmany : l.length ≤ 1000000) : Ret P n_law21_pairs [v] w fun r w' => SO w w' T_api_Pair r l ∧ Ext No w w' := by
  refine W_law21_pairs ?_
  refine h.len ?_
  refine xloop (fun n vs w' => ∃ (i : Nat) (out : Value), vs = [.int .i64 i, out] ∧ n = l.length - i ∧ i ≤ l.length ∧ SO w w' T_api_Pair out (l.take i) ∧ Ext No w w') l.length ⟨0, _, rfl, rfl, by omega, SO.nil _ _ _, Ext.refl _ _⟩ ?_
  rintro n vs g w1 ⟨i, out, rfl, rfl, hi, hso, he⟩
  refine xifD (fun hlt => ?_) fun hge => ?_
  · have hil : i < l.length := by omega
    refine h.rd0 he i rfl hil fun kv hkv => ?_
    refine xnew fun b w2 hb hblk hz he2 => ?_
    refine xstoreVar hblk (by kernel_rfl) (by simp) ?_ fun w3 hb3 hz3 he3 => ?_
    · intro u hu
      simp only [List.mem_cons, List.mem_nil_iff, or_false] at hu
      rcases hu with rfl | rfl
      · exact hkv.one1
      · rfl
    · have hb3' : Blk w3 b [kv, u64 l[i].2] T_ref01_Pair := by simpa using hb3
      have hE3 : Ext No w1 w3 := he2.trans1 he3 (by omega)
      refine hb3'.ldA rfl ?_
      show XNew w3 [kv, u64 l[i].2] T_api_Pair _
      refine xnew fun a w4 ha hbl hz4 he4 => ?_
      have hsl : Sl w4 (tyQ T_api_Pair) (.slice (some ⟨a, 0, none⟩) 1 1) 2 1 [kv, u64 l[i].2] := hbl.sln rfl
      refine SO.app (m := [l[i]]) ei_api (hso.extN (hE3.transN he4)) ((he.transN hE3).transN he4) hsl (PC.sing hkv (h.get hil)) (by simp; omega) fun out' w5 hso5 he5 _ _ => ?_
      refine xi (r := ((i + 1 : Nat) : Int)) (by rw [wrapI (by omega)]; omega) ?_
      refine xnext (l.length - (i + 1)) (by omega) ⟨i + 1, _, rfl, rfl, by omega, ?_, he5⟩
      rw [← List.take_append_getElem hil]
      exact hso5
  · have : i = l.length := by omega
    subst this
    rw [List.take_length] at hso
    exact ⟨hso, he⟩
theorem c_pairs (h : Ps w v l) (hmany : l.length ≤ 1000000) : Ret P n_law21_pairs [v] w fun r w' => Ps w' r l ∧ Ext No w w' :=
  (c_pairsS h hmany).mono fun _ _ ⟨h1, he⟩ => ⟨h1.ps he (.inl rfl), he⟩
/-- pairs of the program's are the document's -/
theorem c_same {vb : Value} {m : Kv} (h : Ps w v l) (hb : Ps w vb m) (hl : l.length ≤ 100000) (hm : m.length ≤ 100000) (hk : ∀ p ∈ l, p.1.length ≤ 65535) : Ret P n_law21_same [v, vb] w fun r w' => r = .bool (decide (l = m)) ∧ Ext No w w' := by
  refine W_law21_same ?_
  refine h.len ?_
  refine xloop (fun n vs w' => ∃ (i : Nat) (out : Value), vs = [.int .i64 i, out] ∧ n = l.length - i ∧ i ≤ l.length ∧ SO w w' T_ref01_Pair out (l.take i) ∧ Ext No w w') l.length ⟨0, _, rfl, rfl, by omega, SO.nil _ _ _, Ext.refl _ _⟩ ?_
  rintro n vs g w1 ⟨i, out, rfl, rfl, hi, hso, he⟩
  unfold S_law21_same_l1
  refine xifD (fun hlt => ?_) fun hge => ?_
  · have hil : i < l.length := by omega
    refine h.rd0 he i rfl hil fun kv hkv => ?_
    refine xnew fun b w2 hb hblk hz he2 => ?_
    refine xstoreVar hblk (by kernel_rfl) (by simp) ?_ fun w3 hb3 hz3 he3 => ?_
    · intro u hu
      simp only [List.mem_cons, List.mem_nil_iff, or_false] at hu
      rcases hu with rfl | rfl
      · exact hkv.one1
      · rfl
    · have hb3' : Blk w3 b [kv, u64 l[i].2] T_api_Pair := by simpa using hb3
      have hE3 : Ext No w1 w3 := he2.trans1 he3 (by omega)
      refine hb3'.ldA rfl ?_
      show XNew w3 [kv, u64 l[i].2] T_ref01_Pair _
      refine xnew fun a w4 ha hbl hz4 he4 => ?_
      have hsl : Sl w4 (tyQ T_ref01_Pair) (.slice (some ⟨a, 0, none⟩) 1 1) 2 1 [kv, u64 l[i].2] := hbl.sln rfl
      refine SO.app (m := [l[i]]) ei_ref (hso.extN (hE3.transN he4)) ((he.transN hE3).transN he4) hsl (PC.sing hkv (h.get hil)) (by simp; omega) fun out' w5 hso5 he5 _ _ => ?_
      refine xi (r := ((i + 1 : Nat) : Int)) (by rw [wrapI (by omega)]; omega) ?_
      refine xnext (l.length - (i + 1)) (by omega) ⟨i + 1, _, rfl, rfl, by omega, ?_, he5⟩
      rw [← List.take_append_getElem hil]
      exact hso5
  · have : i = l.length := by omega
    subst this
    rw [List.take_length] at hso
    refine (c_r19Same (hso.ps he (.inr rfl)) (hb.extN he) (by omega) (by omega) hk).mono ?_
    rintro _ w2 ⟨rfl, he2⟩
    exact ⟨rfl, he.transN he2⟩
end
end law21
end Go.Proofs.YtlhjfenpmnejoaaGreat
