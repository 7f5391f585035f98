/-  law36.ScriptBack: what script.Text writes, script.Parse reads back.  -/
import Derived.Test.YtbfnagdpanfphaaGreatDoorSk
section
namespace Go.Proofs.YtbfnagdpanfphaaGreatDoor
open Go Go.RowKit X
set_option linter.unusedSimpArgs false
set_option linter.unusedVariables false
set_option linter.unusedSectionVars false
theorem wsE_zero {o : OpV} {l : List UInt8} (h : wsE o l = 0) : ∀ c ∈ l, (tellW o c).2 = 0 := by
  induction l with
  | nil => simp
  | cons c r ih =>
    rw [wsE] at h
    split at h
    · rename_i h1
      intro x hx
      rcases List.mem_cons.1 hx with rfl | hx
      · exact h1
      · exact ih h x hx
    · rename_i h1; exact absurd h h1
theorem textK_bad {o : OpV} (h : (textK o).2 ≠ 0) : (textK o).1 = [] := by
  unfold textK at h ⊢
  split
  · rfl
  · rename_i h1
    rw [if_neg h1] at h
    split
    · rename_i h2; rw [if_pos h2] at h; exact absurd rfl h
    · rfl
theorem textK_good {o : OpV} (h : (textK o).2 = 0) : (textK o).1 = lineK o ∧ nameK o.do_ ≠ [] ∧ ∀ c ∈ signsK o.do_, (tellW o c).2 = 0 := by
  unfold textK at h ⊢
  split
  · rename_i h1; rw [if_pos h1] at h; cases h
  · rename_i h1
    rw [if_neg h1] at h
    split
    · rename_i h2; exact ⟨rfl, h1, wsE_zero h2⟩
    · rename_i h2; rw [if_neg h2] at h; exact absurd h h2
theorem line_no {o : OpV} : (10 : UInt8) ∉ lineK o := by
  have h : ∀ {ps : List (List UInt8)}, (∀ p ∈ ps, Hi p) → ∀ c ∈ joinC 32 ps, 32 ≤ c.toNat := by
    intro ps
    induction ps with
    | nil => intro _ c hc; cases hc
    | cons p r ih =>
      intro hp c hc
      cases r with
      | nil => have := hp p (by simp) c hc; omega
      | cons q r =>
        rw [joinC] at hc
        rcases List.mem_append.1 hc with hc | hc
        · have := hp p (by simp) c hc; omega
        · rcases List.mem_cons.1 hc with rfl | hc
          · decide
          · exact ih (fun x hx => hp x (List.mem_cons_of_mem _ hx)) c hc
  intro hm
  have := h (fun p hp => by
    rcases List.mem_cons.1 hp with rfl | hp
    · exact hi_name _
    · obtain ⟨s, -, rfl⟩ := List.mem_map.1 hp
      exact hi_word o s) 10 hm
  revert this; decide
theorem line_ne {o : OpV} (h : nameK o.do_ ≠ []) : lineK o ≠ [] := by
  unfold lineK
  obtain ⟨c, r, hc⟩ := List.exists_cons_of_ne_nil h
  rw [hc]
  cases (signsK o.do_).map fun s => (tellW o s).1 <;> simp [joinC]
variable [Floor]
section
variable {w : World} {o : OpV} {cs : List Value}
theorem pairsC (hN : o.Near) : PairsC o := fun w hf => c_pairs hf hN.prs hN.pk hN.v64
theorem changesC (hN : o.Near) (h : (tellCs o.chg).2 = 0) : ChangesC o := fun w hf => c_changes hf hN.chg hN.ck hN.c64 (by
  unfold tellCs at h
  split at h
  · rename_i h1; exact h1
  · exact h)
set_option maxRecDepth 100000 in
theorem l_ScriptBack (ht : Tab w) (hf : Floor.n ≤ w.heap.size) (ho : OpC w o cs) (hN : o.Little → o.Near) : Ret P n_law36_ScriptBack [.agg cs.toArray] w fun r w' => r = .bool true ∧ Ext No w w' := by
  refine W_law36_ScriptBack ?_
  show XNew w cs T_ref35_Op _
  refine xnew fun b w1 hb hblk hz1 he1 => ?_
  refine hblk.ldA ho.len ?_
  refine (c_far36 (ho.extN he1)).mono ?_
  rintro r w2 ⟨hr, he2⟩
  have hE2 := he1.transN he2
  have hb2 := hblk.ext he2 fun h => h
  rcases hr with rfl | ⟨rfl, hl⟩
  · refine xifT rfl ?_
    refine (c_alive36 (ht.extN hE2) (Nat.le_trans hf hE2.size)).mono ?_
    rintro r w3 ⟨rfl, he3⟩
    exact ⟨rfl, hE2.transN he3⟩
  have hN := hN hl
  refine xifF rfl ?_
  refine hb2.ldA ho.len ?_
  refine (c_op36 (Nat.le_trans hf hE2.size) (ho.extN hE2) hN).mono ?_
  rintro r w3 ⟨cs3, rfl, ho3, he3⟩
  have hE3 := hE2.transN he3
  refine (c_sText (ht.extN hE3) ho3 hN).mono ?_
  rintro r w4 ⟨rfl, he4⟩
  have hE4 := hE3.transN he4
  have hb4 := (hb2.ext he3 fun h => h).ext he4 fun h => h
  refine xtup (v := str (textK o).1) rfl (xtup (v := .int .i64 ((textK o).2 : Nat)) rfl ?_)
  by_cases hz : (textK o).2 = 0
  · obtain ⟨hl1, hn, hws⟩ := textK_good hz
    rw [hz, hl1]
    refine xifF rfl ?_
    refine (c_Parse (Nat.le_trans hf hE4.size) hN hn hws (fun _ => pairsC hN) fun h99 => changesC hN (hws 99 h99)).mono ?_
    rintro r w5 ⟨cs5, rfl, ho5, he5⟩
    have hE5 := hE4.transN he5
    have hb5 := hb4.ext he5 fun h => h
    refine xnew fun xb w6 hxb hxblk hz6 he6 => ?_
    refine store12 hxblk rfl (by kernel_rfl) ho5.len ho5.one fun w7 hb7 hz7 he7 => ?_
    have hs5 := hE5.size
    have hE67 : Ext No w5 w7 := he6.trans1 he7 (by omega)
    have hE7 := hE5.transN hE67
    have hb7' := hb5.ext hE67 fun h => h
    refine xj (fun vs w' => vs = [.bool true] ∧ Ext No w w') ?_ ?_
    · refine xifT rfl ?_
      refine hb7.drew.ldA ho5.len ?_
      refine hb7'.drew.ldA ho.len ?_
      have hE7d := hE7.drew
      refine (c_plainly36 (Nat.le_trans hf hE7d.size) (ho5.extN hE67.drew) hN.bare).mono ?_
      rintro r w8 ⟨cs8, rfl, ho8, he8⟩
      have hE8 := hE7d.transN he8
      refine ⟨?_, ?_⟩
      · have hb' := hb7'.drew.ext he8 fun h => h
        show ∀ i, i < cs.toArray.size → w8.cell? ((⟨b, 0, none⟩ : Addr).add i) = cs.toArray[i]?
        intro i hi
        rw [Addr.add_lit, hb'.cell]
        simp
      refine (c_op36 (Nat.le_trans hf hE8.size) (ho.extN hE8) hN).mono ?_
      rintro r w9 ⟨cs9, rfl, ho9, he9⟩
      have hE9 := hE8.transN he9
      refine (c_sBare (Nat.le_trans hf hE9.size) ho9 hN).mono ?_
      rintro r w10 ⟨cs10, rfl, ho10, he10⟩
      have hE10 := hE9.transN he10
      refine (c_plainly36 (Nat.le_trans hf hE10.size) ho10 hN.bare).mono ?_
      rintro r w11 ⟨cs11, rfl, ho11, he11⟩
      have hE11 := hE10.transN he11
      refine (c_rSame36 (((ho8.extN he9).extN he10).extN he11) ho11 hN.bare).mono ?_
      rintro r w12 ⟨rfl, he12⟩
      have hE12 := hE11.transN he12
      refine xifT rfl ?_
      have hll := lineK_len hN
      have hcl := c_Lines (w := w12) (ps := [lineK o]) (by simp) (fun p hp => by rw [List.mem_singleton.1 hp]; exact line_no) (by show (lineK o).length ≤ _; omega)
      refine hcl.mono ?_
      rintro r w13 ⟨hss, he13⟩
      have hE13 := hE12.transN he13
      rw [if_neg (by exact line_ne hn)] at hss
      refine hss.len ?_
      refine xifT rfl ?_
      refine (c_alive36 (ht.extN hE13) (Nat.le_trans hf hE13.size)).mono ?_
      rintro r w14 ⟨rfl, he14⟩
      exact ⟨rfl, hE13.transN he14⟩
    · rintro vs g w8 ⟨rfl, he8⟩
      exact ⟨rfl, he8⟩
  · rw [textK_bad hz]
    refine xifT (by simpa using hz) ?_
    refine xj (fun vs w' => vs = [.bool true] ∧ Ext No w w') ?_ ?_
    · refine xseq ?_
      refine xifT rfl ?_
      refine (c_alive36 (ht.extN hE4) (Nat.le_trans hf hE4.size)).mono ?_
      rintro r w5 ⟨rfl, he5⟩
      exact ⟨rfl, hE4.transN he5⟩
    · rintro vs g w6 ⟨rfl, he6⟩
      exact ⟨rfl, he6⟩
end
end Go.Proofs.YtbfnagdpanfphaaGreatDoor
end
