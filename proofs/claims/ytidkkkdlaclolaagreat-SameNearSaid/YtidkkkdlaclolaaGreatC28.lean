/-  law28: what its helpers make.  -/
import Derived.Test.YtidkkkdlaclolaaGreatBase
import Derived.Test.YtidkkkdlaclolaaGreatSAlaw28
namespace Go.Proofs.YtidkkkdlaclolaaGreat
open Go Go.RowKit X
set_option linter.unusedSimpArgs false
set_option linter.unusedVariables false
set_option linter.unusedSectionVars false
namespace law28
variable [Floor]
section
variable {w : World} {v : Value} {l : Kv}
theorem c_far (h : Ps w v l) {m : Nat} (hmm : m ≤ 100000) : Ret P n_law28_far [v, .int .i64 m] w fun r w' => ∃ b, r = .bool b ∧ Ext No w w' ∧ (b = false → l.length ≤ m ∧ ∀ p ∈ l, p.1.length ≤ 300) := by
  refine W_law28_far ?_
  refine h.len ?_
  refine xifD (fun hm => ⟨true, rfl, Ext.refl _ _, fun h => by cases h⟩) fun hm => ?_
  refine h.len ?_
  refine xloop (fun n vs w' => ∃ (i : Nat) (x : Value), vs = [.int .i64 i, x] ∧ n = l.length - i ∧ i ≤ l.length ∧ (∀ p ∈ l.take i, p.1.length ≤ 300) ∧ Ext No w w') l.length ⟨0, _, rfl, rfl, by omega, by simp, Ext.refl _ _⟩ ?_
  rintro n vs g w1 ⟨i, x, rfl, rfl, hi, hall, he⟩
  refine xifD (fun hlt => ?_) fun hge => ?_
  · have hil : i < l.length := by omega
    refine (h.extN he).rd i rfl hil fun kv hkv => ?_
    refine xnew fun b w2 hb hblk hz he2 => ?_
    refine xstoreVar hblk (by kernel_rfl) (by simp) ?_ fun w3 hb3 hz3 he3 => ?_
    · intro u hu
      simp only [List.mem_cons, List.mem_nil_iff, or_false] at hu
      rcases hu with rfl | rfl
      · exact hkv.one1
      · rfl
    · have hb3' : Blk w3 b [kv, u64 l[i].2] T_ref01_Pair := by simpa using hb3
      have hE3 : Ext No w1 w3 := he2.trans1 he3 (by omega)
      refine hb3'.ld (o := 0) (v := kv) rfl ?_
      refine (hkv.extN hE3).len ?_
      refine xifD (fun hk => ⟨true, rfl, he.transN hE3, fun h => by cases h⟩) fun hk => ?_
      refine xi (r := ((i + 1 : Nat) : Int)) (by rw [wrapI (by omega)]; omega) ?_
      refine xnext (l.length - (i + 1)) (by omega) ⟨i + 1, _, rfl, rfl, by omega, fun p hp => ?_, he.transN hE3⟩
      rw [← List.take_append_getElem hil] at hp
      rcases List.mem_append.1 hp with e | e
      · exact hall p e
      · rw [List.mem_singleton.1 e]; omega
  · have : i = l.length := by omega
    subst this
    rw [List.take_length] at hall
    exact ⟨false, rfl, he, fun _ => ⟨by omega, hall⟩⟩
/-- the canonical tree of pairs that rise -/
theorem c_tree (h : Ps w v l) (hp : Pr l) (hw : Lw w) {ow : Nat} (ho : ow ≠ 0) : Ret P n_law28_tree [v, .int .u64 ow] w fun r w' => ∃ t, r = t.v ∧ Ct w' t l ∧ t.Sep ow ∧ t.Owned ow ∧ (∀ b, t.All b → w.heap.size ≤ b) ∧ Ext No w w' := by
  have hmany := hp.many
  refine W_law28_tree ?_
  refine h.len ?_
  refine xloop (fun n vs w' => ∃ (i : Nat) (out : Value), vs = [.int .i64 i, out] ∧ n = l.length - i ∧ i ≤ l.length ∧ SO w w' T_api_Pair out (l.take i) ∧ Ext No w w') l.length ⟨0, _, rfl, rfl, by omega, SO.nil _ _ _, Ext.refl _ _⟩ ?_
  rintro n vs g w1 ⟨i, out, rfl, rfl, hi, hso, he⟩
  refine xifD (fun hlt => ?_) fun hge => ?_
  · have hil : i < l.length := by omega
    refine h.rd0 he i rfl hil fun kv hkv => ?_
    refine xnew fun b w2 hb hblk hz he2 => ?_
    refine xstoreVar hblk (by kernel_rfl) (by simp) ?_ fun w3 hb3 hz3 he3 => ?_
    · intro u hu
      simp only [List.mem_cons, List.mem_nil_iff, or_false] at hu
      rcases hu with rfl | rfl
      · exact hkv.one1
      · rfl
    · have hb3' : Blk w3 b [kv, u64 l[i].2] T_ref01_Pair := by simpa using hb3
      have hE3 : Ext No w1 w3 := he2.trans1 he3 (by omega)
      refine hb3'.ldA rfl ?_
      show XNew w3 [kv, u64 l[i].2] T_api_Pair _
      refine xnew fun a w4 ha hbl hz4 he4 => ?_
      have hsl : Sl w4 (tyQ T_api_Pair) (.slice (some ⟨a, 0, none⟩) 1 1) 2 1 [kv, u64 l[i].2] := hbl.sln rfl
      refine SO.app (m := [l[i]]) ei_api (hso.extN (hE3.transN he4)) ((he.transN hE3).transN he4) hsl (PC.sing hkv (h.get hil)) (by simp; omega) fun out' w5 hso5 he5 _ _ => ?_
      refine xi (r := ((i + 1 : Nat) : Int)) (by rw [wrapI (by omega)]; omega) ?_
      refine xnext (l.length - (i + 1)) (by omega) ⟨i + 1, _, rfl, rfl, by omega, ?_, he5⟩
      rw [← List.take_append_getElem hil]
      exact hso5
  · have : i = l.length := by omega
    subst this
    rw [List.take_length] at hso
    have hw1 := hw.extN he
    have hb : Ret P n_canon_Build [.pointer none, .int .u64 ow, out] w1 fun r w' => ∃ t, r = .tuple #[t.v, .int .i64 0] ∧ Res w1 w' ow .nil t none (0 + t.er.size) ∧ Can t.er (look l) ∧ t.Leafy ∧ t.Owned ow := by
      have hps := hso.ps he (.inl rfl)
      refine W_canon_Build ?_
      refine (c_check hps (by omega)).mono ?_
      rintro r w2 ⟨⟨b, rfl, hb⟩, he2⟩
      have hck : checkN l b = 0 := by
        unfold checkN
        rw [if_pos hp.keys, hb.2 hp.rises]; rfl
      rw [hck]
      refine xifF rfl ?_
      have hm2 : Mt w2 none 0 := (hw1.extN he2).mt0
      refine (Go.Proofs.YtidkkkdlaclolaaGreat.c_tree l.length (p := []) (Nat.le_refl _) (by omega) (hps.extN he2) hp.rises hp.keys (fun x _ => List.nil_prefix) (by simp) hm2 ho).mono ?_
      rintro r w3 ⟨t, rfl, hR, hcan, hleaf, hown⟩
      refine ⟨t, rfl, ⟨hR.tree, (he2.mono fun _ _ h => h.elim).trans hR.ext fun b hb h => h, hR.cnt, fun b hb => ?_, fun b hb => ?_, hR.sep⟩, hcan, hleaf, hown⟩
      · have := he2.size
        exact (hR.all b hb).imp id fun h => by omega
      · have := he2.size
        exact (hR.foot b hb).imp id fun h => by omega
    refine hb.mono ?_
    rintro r w2 ⟨t, rfl, hR, hcan, hleaf, hown⟩
    have hz := he.size
    refine ⟨t, rfl, ⟨hR.tree, hcan, hleaf⟩, hR.sep, hown, fun b hb => by have := hR.new hb; omega, ?_⟩
    exact he.trans hR.extM fun b _ hb => by cases hb
end
end law28
end Go.Proofs.YtidkkkdlaclolaaGreat
