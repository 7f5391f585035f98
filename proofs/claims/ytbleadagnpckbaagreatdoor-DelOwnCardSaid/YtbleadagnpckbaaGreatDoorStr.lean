/-  texts: the Builder; a key as a text.  -/
import Derived.Test.YtbleadagnpckbaaGreatDoorKeys
import Derived.Test.YtbleadagnpckbaaGreatDoorPl
import Derived.Lib.Builder
import Derived.Lib.UnsafeStr
import Derived.Lib.AppendStr
namespace Go.Proofs.YtbleadagnpckbaaGreatDoor
open Go Go.RowKit X
set_option linter.unusedSimpArgs false
set_option linter.unusedVariables false
set_option linter.unusedSectionVars false
/-- a Builder that holds these bytes, and its row, from block B on -/
structure Bld (w : World) (B b : Nat) (bs : List UInt8) : Prop where
  ge : B ≤ b
  le : B ≤ w.heap.size
  at_ : ∃ p v, Blk w b [p, v] T_strings_Builder ∧ (p = .pointer none ∨ p = .pointer (some ⟨b, 0, none⟩)) ∧ Own w B T_uint8 1 v bs.length (bs.map bv) ∧ v.ownBlock ≠ some b
theorem strCells_str (l : List UInt8) : Lib.strCells ⟨l.toArray⟩ = l.map bv := rfl
section
variable {w : World} {B b : Nat} {bs : List UInt8}
theorem Bld.fresh (hb : Blk w b [.pointer none, .slice none 0 0] T_strings_Builder) (hB : B ≤ b) : Bld w B b [] :=
  ⟨hB, Nat.le_of_lt (Nat.lt_of_le_of_lt hB hb.lt), _, _, hb, .inl rfl, Own.nil w B T_uint8 1, fun h => by cases h⟩
theorem X.Blk.st1 {o : Nat} {cs cs' : List Value} {T : TypeId} {v : Value} {K : World → Prop} (h : Blk w b cs T) (ho : o < cs.length) (hv : v.oneCell' = true) (hc : cs.set o v = cs')
    (k : ∀ w1, Blk w1 b cs' T → w1.heap.size = w.heap.size → Ext (· = b) w w1 → K w1) : XSt w ⟨b, o, none⟩ v K := h.st ho hv fun w1 h1 => k w1 (hc ▸ h1)
theorem Own.one1 {e : TypeId} {sz n : Nat} {v : Value} {xs : List Value} (h : Own w B e sz v n xs) : v.oneCell' = true := by
  rcases h.2 with ⟨rfl, -⟩ | ⟨g, cap, cur, rfl, -⟩ <;> rfl
set_option maxRecDepth 100000 in
theorem c_copyCheck (h : Bld w B b bs) : Ret P n_strings_Builder_copyCheck [.pointer (some ⟨b, 0, none⟩)] w fun r w' => Bld w' B b bs ∧ Ext (B ≤ ·) w w' ∧ w'.heap.size = w.heap.size := by
  obtain ⟨hge, hle, p, v, hblk, hp, hown, hne⟩ := h
  refine W_strings_Builder_copyCheck ?_
  refine hblk.ld (o := 0) (v := p) rfl ?_
  rcases hp with rfl | rfl
  · refine xifT rfl ?_
    refine ⟨_, _, Lib.run_to_unsafe (P := P) (t := T_strings_Builder) (e := T_strings_Builder) (cells := 2) w ⟨b, 0, none⟩ (by kernel_rfl) (by kernel_rfl) (j := (P.info? T_strings_Builder).getD default) (by kernel_rfl) (by decide +kernel) hblk.shape (show (0 : Nat) < 2 by omega), ?_⟩
    refine xext (e := Extern.AbiNoEscape.same) (by kernel_rfl) (by kernel_rfl) (by kernel_rfl) ?_
    refine ⟨_, _, Lib.run_noEscape (P := P) w _, ?_⟩
    refine ⟨_, _, Lib.run_from_unsafe (P := P) (u := T_strings_Builder) (e := T_strings_Builder) (cells := 2) w ⟨b, 0, none⟩ (by kernel_rfl) (by kernel_rfl) (j := (P.info? T_strings_Builder).getD default) (by kernel_rfl) hblk.shape (by kernel_rfl), ?_⟩
    refine hblk.st1 (o := 0) (by simp) rfl rfl fun w1 hb1 hz1 he1 => ?_
    refine ⟨⟨hge, by omega, _, _, hb1, .inr rfl, hown.ext he1 fun c hc e => ?_, hne⟩, he1.mono fun c _ e => by subst e; exact hge, hz1⟩
    have e : c = b := e
    exact hne (e ▸ hc)
  · refine xifF rfl ?_
    refine hblk.ld (o := 0) (v := .pointer (some ⟨b, 0, none⟩)) rfl ?_
    refine ⟨true, by rw [sameAddr_block]; simp, ?_⟩
    exact xifF rfl ⟨⟨hge, hle, _, v, hblk, .inr rfl, hown, hne⟩, Ext.refl _ _, rfl⟩
theorem c_WriteString (h : Bld w B b bs) {s : List UInt8} (hl : bs.length + s.length ≤ 140737488355328) : Ret P n_strings_Builder_WriteString [.pointer (some ⟨b, 0, none⟩), str s] w fun r w' => Bld w' B b (bs ++ s) ∧ Ext (B ≤ ·) w w' := by
  refine W_strings_Builder_WriteString ?_
  refine (c_copyCheck h).mono ?_
  rintro r w1 ⟨⟨hge, hle, p, v, hblk, hp, hown, hne⟩, he1, hz1⟩
  refine hblk.ld (o := 1) (v := v) rfl ?_
  obtain ⟨i, hi1, hi2, hi3, hi4⟩ := ei_u8.parts
  have hsz : (ByteArray.mk s.toArray).size = s.length := by simp [ByteArray.size]
  obtain ⟨v', w2, hrun, hown2, hgrow, -⟩ := Lib.run_append_own_string (P := P) w1 B T_s_uint8 T_string T_s_uint8 T_uint8 i ei_u8.u t_str hi1 hi2 hi3 hi4 v bs.length (bs.map bv) hown ⟨s.toArray⟩ (by rw [hsz]; unfold maxLen; omega) (by rw [hsz]; omega) hle
  refine ⟨v', w2, hrun, ?_⟩
  have hE2 := grown_ext hgrow
  have hblk2 := hblk.ext hE2 fun e => hne e
  rw [hsz, strCells_str] at hown2
  refine hblk2.st1 (o := 1) (by simp) (Own.one1 hown2) rfl fun w3 hb3 hz3 he3 => ?_
  have hne2 : v'.ownBlock ≠ some b := fun e => by
    rcases hown2.2 with ⟨rfl, -⟩ | ⟨g, cap, cur, rfl, -, hg, -⟩
    · cases e
    · simp only [Value.ownBlock, Option.some.injEq] at e
      subst e
      have := hg.symm.trans hblk2.h
      simp at this
      exact absurd this.2 (by decide)
  have hE : Ext (B ≤ ·) w1 w2 := hE2.mono fun c _ hc => (hown.ge hc).1
  refine ⟨⟨hge, by have := hE2.size; omega, p, v', hb3, hp, ?_, hne2⟩, (he1.transS hE).transS (he3.mono fun c _ e => by subst e; exact hge)⟩
  rw [List.map_append, List.length_append]
  exact Own.ext hown2 he3 fun c hc e => hne2 (e ▸ hc)
theorem Bld.heap (h : Bld w B b bs) : B ≤ w.heap.size := h.le
theorem freeze_ext {g n : Nat} : Ext (· = g) w (w.freeze ⟨g, 0, none⟩ n) := by
  unfold World.freeze
  split
  · exact Ext.refl _ _
  · exact ⟨rfl, rfl, rfl, by simp, fun c hc hx => by
      show (w.heap.modify g _)[c]? = _
      rw [Array.getElem?_modify, if_neg (Ne.symm hx)]⟩
set_option maxRecDepth 100000 in
theorem c_String (h : Bld w B b bs) (h0 : bs ≠ []) : Ret P n_strings_Builder_String [.pointer (some ⟨b, 0, none⟩)] w fun r w' => r = str bs ∧ Ext (B ≤ ·) w w' := by
  obtain ⟨hge, hle, p, v, hblk, hp, hown, hne⟩ := h
  have hl0 : bs.length ≠ 0 := by simpa using h0
  refine W_strings_Builder_String ?_
  refine hblk.drew.ld (o := 1) (v := v) rfl ?_
  refine hblk.drew.ld (o := 1) (v := v) rfl ?_
  refine xLen_sl hown.sl ?_
  obtain ⟨g, cap, cur, rfl, hbg, hg, hnc, hcm, hcs, htake⟩ : ∃ g cap cur, v = .slice (some ⟨g, 0, none⟩) bs.length cap ∧ B ≤ g ∧ w.heap[g]? = some (.cells cur T_uint8 (0, 0)) ∧ bs.length ≤ cap ∧ cap ≤ maxLen ∧ cur.size = cap * 1 ∧ cur.toList.take (bs.length * 1) = bs.map bv := by
    rcases hown.2 with ⟨_, hz⟩ | ⟨g, cap, cur, hv, r⟩
    · exact absurd hz hl0
    · exact ⟨g, cap, cur, hv, r⟩
  refine ⟨_, _, Lib.run_unsafeSliceData_row _ _ _ _ _ _ (by omega), ?_⟩
  refine ⟨(hblk.drew.cell 1).trans rfl, ?_⟩
  have hg' : Blk w.drew g cur.toList T_uint8 := ⟨hg⟩
  refine ⟨_, _, Lib.run_unsafeString_row (P := P) w.drew _ _ _ T_uint8 (by kernel_rfl) (by kernel_rfl) g cur.size (by rw [hg'.shape]; simp) bs h0 (by omega) (by unfold maxLen at hcm; omega) ?_, ?_⟩
  · intro j x hx
    refine Sl.cells_at (v := .pointer none) (hown.drew.sl) j _ ?_
    simp [hx]
  · exact ⟨rfl, ((Ext.refl (B ≤ ·) w).drew).transS (freeze_ext.mono fun c _ e => by subst e; exact hbg)⟩
end
end Go.Proofs.YtbleadagnpckbaaGreatDoor
