/-  texts: the Builder; a key as a text.  -/
import Derived.Test.YtbfnagdpanfphaaGreatDoorKeys
import Derived.Test.YtbfnagdpanfphaaGreatDoorMap
import Derived.Lib.Builder
import Derived.Lib.UnsafeStr
import Derived.Lib.AppendStr
import Derived.Test.YtbfnagdpanfphaaGreatDoorRow
import Derived.Test.YtbfnagdpanfphaaGreatDoorNode
section
namespace Go.Proofs.YtbfnagdpanfphaaGreatDoor
open Go Go.RowKit X
set_option linter.unusedSimpArgs false
set_option linter.unusedVariables false
set_option linter.unusedSectionVars false
/-- a Builder that holds these bytes, and its row, from block B on -/
structure Bld (w : World) (B b : Nat) (bs : List UInt8) : Prop where
  ge : B ≤ b
  le : B ≤ w.heap.size
  at_ : ∃ p v, Blk w b [p, v] T_strings_Builder ∧ (p = .pointer none ∨ p = .pointer (some ⟨b, 0, none⟩)) ∧ Own w B T_uint8 1 v bs.length (bs.map bv) ∧ v.ownBlock ≠ some b
theorem strCells_str (l : List UInt8) : Lib.strCells ⟨l.toArray⟩ = l.map bv := rfl
section
variable {w : World} {B b : Nat} {bs : List UInt8}
theorem Bld.fresh (hb : Blk w b [.pointer none, .slice none 0 0] T_strings_Builder) (hB : B ≤ b) : Bld w B b [] :=
  ⟨hB, Nat.le_of_lt (Nat.lt_of_le_of_lt hB hb.lt), _, _, hb, .inl rfl, Own.nil w B T_uint8 1, fun h => by cases h⟩
theorem X.Blk.st1 {o : Nat} {cs cs' : List Value} {T : TypeId} {v : Value} {K : World → Prop} (h : Blk w b cs T) (ho : o < cs.length) (hv : v.oneCell' = true) (hc : cs.set o v = cs')
    (k : ∀ w1, Blk w1 b cs' T → w1.heap.size = w.heap.size → Ext (· = b) w w1 → K w1) : XSt w ⟨b, o, none⟩ v K := h.st ho hv fun w1 h1 => k w1 (hc ▸ h1)
theorem Own.one1 {e : TypeId} {sz n : Nat} {v : Value} {xs : List Value} (h : Own w B e sz v n xs) : v.oneCell' = true := by
  rcases h.2 with ⟨rfl, -⟩ | ⟨g, cap, cur, rfl, -⟩ <;> rfl
set_option maxRecDepth 100000 in
theorem c_copyCheck (h : Bld w B b bs) : Ret P n_strings_Builder_copyCheck [.pointer (some ⟨b, 0, none⟩)] w fun r w' => Bld w' B b bs ∧ Ext (B ≤ ·) w w' ∧ w'.heap.size = w.heap.size := by
  obtain ⟨hge, hle, p, v, hblk, hp, hown, hne⟩ := h
  refine W_strings_Builder_copyCheck ?_
  refine hblk.ld (o := 0) (v := p) rfl ?_
  rcases hp with rfl | rfl
  · refine xifT rfl ?_
    refine ⟨_, _, Lib.run_to_unsafe (P := P) (t := T_strings_Builder) (e := T_strings_Builder) (cells := 2) w ⟨b, 0, none⟩ (by kernel_rfl) (by kernel_rfl) (j := (P.info? T_strings_Builder).getD default) (by kernel_rfl) (by decide +kernel) hblk.shape (show (0 : Nat) < 2 by omega), ?_⟩
    refine xext (e := Extern.AbiNoEscape.same) (by kernel_rfl) (by kernel_rfl) (by kernel_rfl) ?_
    refine ⟨_, _, Lib.run_noEscape (P := P) w _, ?_⟩
    refine ⟨_, _, Lib.run_from_unsafe (P := P) (u := T_strings_Builder) (e := T_strings_Builder) (cells := 2) w ⟨b, 0, none⟩ (by kernel_rfl) (by kernel_rfl) (j := (P.info? T_strings_Builder).getD default) (by kernel_rfl) hblk.shape (by kernel_rfl), ?_⟩
    refine hblk.st1 (o := 0) (by simp) rfl rfl fun w1 hb1 hz1 he1 => ?_
    refine ⟨⟨hge, by omega, _, _, hb1, .inr rfl, hown.ext he1 fun c hc e => ?_, hne⟩, he1.mono fun c _ e => by subst e; exact hge, hz1⟩
    have e : c = b := e
    exact hne (e ▸ hc)
  · refine xifF rfl ?_
    refine hblk.ld (o := 0) (v := .pointer (some ⟨b, 0, none⟩)) rfl ?_
    refine ⟨true, by rw [sameAddr_block]; simp, ?_⟩
    exact xifF rfl ⟨⟨hge, hle, _, v, hblk, .inr rfl, hown, hne⟩, Ext.refl _ _, rfl⟩
theorem c_WriteString (h : Bld w B b bs) {s : List UInt8} (hl : bs.length + s.length ≤ 140737488355328) : Ret P n_strings_Builder_WriteString [.pointer (some ⟨b, 0, none⟩), str s] w fun r w' => Bld w' B b (bs ++ s) ∧ Ext (B ≤ ·) w w' := by
  refine W_strings_Builder_WriteString ?_
  refine (c_copyCheck h).mono ?_
  rintro r w1 ⟨⟨hge, hle, p, v, hblk, hp, hown, hne⟩, he1, hz1⟩
  refine hblk.ld (o := 1) (v := v) rfl ?_
  obtain ⟨i, hi1, hi2, hi3, hi4⟩ := ei_u8.parts
  have hsz : (ByteArray.mk s.toArray).size = s.length := by simp [ByteArray.size]
  obtain ⟨v', w2, hrun, hown2, hgrow, -⟩ := Lib.run_append_own_string (P := P) w1 B T_s_uint8 T_string T_s_uint8 T_uint8 i ei_u8.u t_str hi1 hi2 hi3 hi4 v bs.length (bs.map bv) hown ⟨s.toArray⟩ (by rw [hsz]; unfold maxLen; omega) (by rw [hsz]; omega) hle
  refine ⟨v', w2, hrun, ?_⟩
  have hE2 := grown_ext hgrow
  have hblk2 := hblk.ext hE2 fun e => hne e
  rw [hsz, strCells_str] at hown2
  refine hblk2.st1 (o := 1) (by simp) (Own.one1 hown2) rfl fun w3 hb3 hz3 he3 => ?_
  have hne2 : v'.ownBlock ≠ some b := fun e => by
    rcases hown2.2 with ⟨rfl, -⟩ | ⟨g, cap, cur, rfl, -, hg, -⟩
    · cases e
    · simp only [Value.ownBlock, Option.some.injEq] at e
      subst e
      have := hg.symm.trans hblk2.h
      simp at this
      exact absurd this.2 (by decide)
  have hE : Ext (B ≤ ·) w1 w2 := hE2.mono fun c _ hc => (hown.ge hc).1
  refine ⟨⟨hge, by have := hE2.size; omega, p, v', hb3, hp, ?_, hne2⟩, (he1.transS hE).transS (he3.mono fun c _ e => by subst e; exact hge)⟩
  rw [List.map_append, List.length_append]
  exact Own.ext hown2 he3 fun c hc e => hne2 (e ▸ hc)
theorem Bld.heap (h : Bld w B b bs) : B ≤ w.heap.size := h.le
theorem freeze_ext {g n : Nat} : Ext (· = g) w (w.freeze ⟨g, 0, none⟩ n) := by
  unfold World.freeze
  split
  · exact Ext.refl _ _
  · exact ⟨rfl, rfl, rfl, by simp, fun c hc hx => by
      show (w.heap.modify g _)[c]? = _
      rw [Array.getElem?_modify, if_neg (Ne.symm hx)]⟩
set_option maxRecDepth 100000 in
theorem c_String (h : Bld w B b bs) (h0 : bs ≠ []) : Ret P n_strings_Builder_String [.pointer (some ⟨b, 0, none⟩)] w fun r w' => r = str bs ∧ Ext (B ≤ ·) w w' := by
  obtain ⟨hge, hle, p, v, hblk, hp, hown, hne⟩ := h
  have hl0 : bs.length ≠ 0 := by simpa using h0
  refine W_strings_Builder_String ?_
  refine hblk.drew.ld (o := 1) (v := v) rfl ?_
  refine hblk.drew.ld (o := 1) (v := v) rfl ?_
  refine xLen_sl hown.sl ?_
  obtain ⟨g, cap, cur, rfl, hbg, hg, hnc, hcm, hcs, htake⟩ : ∃ g cap cur, v = .slice (some ⟨g, 0, none⟩) bs.length cap ∧ B ≤ g ∧ w.heap[g]? = some (.cells cur T_uint8 (0, 0)) ∧ bs.length ≤ cap ∧ cap ≤ maxLen ∧ cur.size = cap * 1 ∧ cur.toList.take (bs.length * 1) = bs.map bv := by
    rcases hown.2 with ⟨_, hz⟩ | ⟨g, cap, cur, hv, r⟩
    · exact absurd hz hl0
    · exact ⟨g, cap, cur, hv, r⟩
  refine ⟨_, _, Lib.run_unsafeSliceData_row _ _ _ _ _ _ (by omega), ?_⟩
  refine ⟨(hblk.drew.cell 1).trans rfl, ?_⟩
  have hg' : Blk w.drew g cur.toList T_uint8 := ⟨hg⟩
  refine ⟨_, _, Lib.run_unsafeString_row (P := P) w.drew _ _ _ T_uint8 (by kernel_rfl) (by kernel_rfl) g cur.size (by rw [hg'.shape]; simp) bs h0 (by omega) (by unfold maxLen at hcm; omega) ?_, ?_⟩
  · intro j x hx
    refine Sl.cells_at (v := .pointer none) (hown.drew.sl) j _ ?_
    simp [hx]
  · exact ⟨rfl, ((Ext.refl (B ≤ ·) w).drew).transS (freeze_ext.mono fun c _ e => by subst e; exact hbg)⟩
end
end Go.Proofs.YtbfnagdpanfphaaGreatDoor
end
section
section
namespace Go.Proofs.YtbfnagdpanfphaaGreatDoor
open Go Go.RowKit X
set_option linter.unusedSimpArgs false
set_option linter.unusedVariables false
set_option linter.unusedSectionVars false
theorem str_cat (l m : List UInt8) : (ByteArray.mk l.toArray ++ ByteArray.mk m.toArray) = ⟨(l ++ m).toArray⟩ := by
  apply ByteArray.ext
  simp
theorem str_size (l : List UInt8) : (ByteArray.mk l.toArray).size = l.length := by simp [ByteArray.size]
theorem xcat {l m : List UInt8} {K : Value → Prop} (h : l.length + m.length ≤ 9223372036854775807) (k : K (str (l ++ m))) : xSCat (str l) (str m) K :=
  ⟨by rw [str_size, str_size]; omega, by rw [str_cat]; exact k⟩
theorem xlens {l : List UInt8} {K : Value → Prop} (k : K (.int .i64 l.length)) : xLenS (str l) K := by
  show K (.int .i64 (ByteArray.mk l.toArray).size)
  rw [str_size]; exact k
theorem xseq {l m : List UInt8} {K : Value → Prop} (k : K (.bool (decide (l = m)))) : xSEq (str l) (str m) K := by
  show K (.bool ((ByteArray.mk l.toArray).toList == (ByteArray.mk m.toArray).toList))
  rw [toList_mk, toList_mk]
  have : (l == m) = decide (l = m) := by
    by_cases e : l = m <;> simp [e]
  rw [this]; exact k
theorem xsne {l m : List UInt8} {K : Value → Prop} (k : K (.bool (!decide (l = m)))) : xSNe (str l) (str m) K := by
  show K (.bool !((ByteArray.mk l.toArray).toList == (ByteArray.mk m.toArray).toList))
  rw [toList_mk, toList_mk]
  have : (l == m) = decide (l = m) := by
    by_cases e : l = m <;> simp [e]
  rw [this]; exact k
/-- a byte of a closed string -/
theorem xixstr {s : ByteArray} {kd : IntKind} {i : Int} {K : Value → Prop} (n : Nat) (c : UInt8) (hi : i = (n : Int)) (hs : s[n]? = some c) (k : K (bv c)) : xIxStr (.string s) (.int kd i) K := ⟨n, c, hi, hs, k⟩
theorem hex_at : ∀ n : Fin 16, (ByteArray.mk #[48, 49, 50, 51, 52, 53, 54, 55, 56, 57, 97, 98, 99, 100, 101, 102])[n.1]? = some (hexD n.1) := by decide +kernel
theorem hex_cut : ∀ n : Fin 16, (ByteArray.mk #[48, 49, 50, 51, 52, 53, 54, 55, 56, 57, 97, 98, 99, 100, 101, 102]).extract n.1 (n.1 + 1) = ⟨[hexD n.1].toArray⟩ := by decide +kernel
theorem dig_cut : ∀ n : Fin 10, (ByteArray.mk #[48, 49, 50, 51, 52, 53, 54, 55, 56, 57]).extract n.1 (n.1 + 1) = ⟨[UInt8.ofNat (48 + n.1)].toArray⟩ := by decide +kernel
theorem and15 : ∀ n : Fin 256, IntKind.u8.wrap ((BitVec.ofInt IntKind.u8.bits (n.1 : Int) &&& BitVec.ofInt IntKind.u8.bits 15).toNat : Int) = ((n.1 % 16 : Nat) : Int) := by decide +kernel
theorem fdiv_nat (a b : Nat) : (a : Int).fdiv (b : Int) = ((a / b : Nat) : Int) := by
  rw [Int.fdiv_eq_ediv_of_nonneg _ (by omega)]; rfl
theorem tdiv_nat (a b : Nat) : (a : Int).tdiv (b : Int) = ((a / b : Nat) : Int) := rfl
theorem tmod_nat (a b : Nat) : (a : Int).tmod (b : Int) = ((a % b : Nat) : Int) := rfl
theorem u8_lt (c : UInt8) : c.toNat < 256 := c.toNat_lt
section
variable {w : World}
/-- x / n, of numbers that fit -/
theorem xquo {kd : IntKind} {a b : Nat} {K : Value → Prop} (hb : b ≠ 0) (hw : kd.wrap ((a / b : Nat) : Int) = ((a / b : Nat) : Int)) (k : K (.int kd ((a / b : Nat) : Int))) : xQuo (.int kd (a : Int)) (.int kd (b : Int)) K := by
  have h1 : isNought (b : Int) = false := by unfold isNought; simp; omega
  unfold xQuo xInts
  have h2 : sameKind kd kd = true := by unfold sameKind; simp
  simp only [h2, h1]
  exact ⟨by rw [tdiv_nat, hw]; exact k⟩
theorem xrem {kd : IntKind} {a b : Nat} {K : Value → Prop} (hb : b ≠ 0) (k : K (.int kd ((a % b : Nat) : Int))) : xRem (.int kd (a : Int)) (.int kd (b : Int)) K := by
  have h1 : isNought (b : Int) = false := by unfold isNought; simp; omega
  unfold xRem xInts
  have h2 : sameKind kd kd = true := by unfold sameKind; simp
  simp only [h2, h1]
  exact ⟨by rw [tmod_nat]; exact k⟩
theorem xshr {kd kd' : IntKind} {a b : Nat} {K : Value → Prop} (k : K (.int kd ((a / 2 ^ min b kd.bits : Nat) : Int))) : xShr (.int kd (a : Int)) (.int kd' (b : Int)) K := by
  have h1 : isNeg (b : Int) = false := by unfold isNeg; simp
  unfold xShr
  simp only [h1]
  refine ⟨?_⟩
  have : (2 : Int) ^ min ((b : Int)).toNat kd.bits = ((2 ^ min b kd.bits : Nat) : Int) := by simp
  rw [this, fdiv_nat]
  exact k
theorem wrapU32 {n : Nat} (h : n < 4294967296) : IntKind.u32.wrap (n : Int) = (n : Int) := by
  have := IntKind.wrap_u32 (n : Int)
  omega
end
theorem hexK_snoc {k : Key} {i : Nat} (h : i < k.length) : hexK (k.take (i + 1)) = hexK (k.take i) ++ hexB k[i] := by
  rw [← List.take_append_getElem h]
  unfold hexK
  rw [List.flatMap_append]
  congr 1
variable [Floor]
section
variable {w : World} {v : Value} {k : Key}
theorem c_Text (h : Bs w v k) (hl : k.length ≤ 17592186044416) : Ret P n_keys_Text [v] w fun r w' => r = str (hexK k) ∧ Ext No w w' := by
  refine W_keys_Text ?_
  refine h.len ?_
  refine xi (r := ((2 * k.length : Nat) : Int)) (by rw [wrapI (by omega)]; omega) ?_
  refine make_own ei_u8 rfl rfl (Nat.zero_le _) (by omega) (by omega) fun b w1 hb hz hblk he => ?_
  refine h.len ?_
  have ho1 : Own w1 w.heap.size T_uint8 1 (.slice (some ⟨b, 0, none⟩) 0 (2 * k.length)) 0 [] := ⟨rfl, .inr ⟨b, 2 * k.length, _, rfl, by omega, hblk.h, by omega, by unfold maxLen; omega, by simp [repL_length, cellsV], rfl⟩⟩
  refine xloop (fun n vs w' => ∃ (i : Nat) (x vb : Value), vs = [.int .i64 i, x, vb] ∧ i ≤ k.length ∧ n = k.length - i ∧ Own w' w.heap.size T_uint8 1 vb (2 * i) ((hexK (k.take i)).map bv) ∧ Ext No w w') k.length
    ⟨0, _, _, rfl, by omega, rfl, ho1, he⟩ ?_
  rintro n vs g w2 ⟨i, x, vb, rfl, hi, rfl, ho, hE⟩
  have h2 := h.extN hE
  refine xifD (fun hlt => ?_) fun hge => ?_
  · have hik : i < k.length := by omega
    refine h2.rd i hik rfl ?_
    generalize hc : k[i] = c
    refine xshr (a := c.toNat) (b := 4) ?_
    have hcl := u8_lt c
    have e1 : c.toNat / 2 ^ min 4 IntKind.u8.bits = c.toNat / 16 := rfl
    rw [e1]
    refine xixstr (c.toNat / 16) _ rfl (hex_at ⟨c.toNat / 16, by omega⟩) ?_
    refine xi (r := ((c.toNat % 16 : Nat) : Int)) (and15 ⟨c.toNat, hcl⟩) ?_
    refine xixstr (c.toNat % 16) _ rfl (hex_at ⟨c.toNat % 16, by omega⟩) ?_
    show XNew w2.drew [bv (hexD (c.toNat / 16)), bv (hexD (c.toNat % 16))] T_uint8 _
    refine xnew fun a w3 ha hbl hz3 he3 => ?_
    have hE3 : Ext No w2 w3 := he3.undrew
    have hs2 := hE.size
    have hs3 := hE3.size
    have hsl : Sl w3 (tyQ T_uint8) (.slice (some ⟨a, 0, none⟩) 2 2) 1 2 [bv (hexD (c.toNat / 16)), bv (hexD (c.toNat % 16))] := by
      have := hbl.sl (o := 0) (n := 2) (cap := 2) (by simp) (Nat.le_refl _)
      simpa using this
    refine app_own ei_u8 (ho.extN hE3) (by omega) hsl (by intro u hu; simp at hu; rcases hu with rfl | rfl <;> rfl) (by omega) (by omega) fun v' w4 ho4 hE4 _ hb4 => ?_
    refine xi (r := ((i + 1 : Nat) : Int)) (by rw [wrapI (by omega)]; omega) ?_
    refine xnext (k.length - (i + 1)) (by omega) ⟨i + 1, _, v', rfl, by omega, rfl, ?_, (hE.transN hE3).own (ho.extN hE3) (Nat.le_refl _) hE4⟩
    have e2 : (hexK (k.take i)).map bv ++ [bv (hexD (c.toNat / 16)), bv (hexD (c.toNat % 16))] = (hexK (k.take (i + 1))).map bv := by
      rw [hexK_snoc hik, hc, List.map_append]
      rfl
    rw [e2, show 2 * i + 2 = 2 * (i + 1) by omega] at ho4
    exact ho4
  · have : i = k.length := by omega
    subst this
    rw [List.take_length] at ho
    have hsl := ho.sl
    rw [← hexK_length k] at hsl
    exact conv_str ei_u8.u t_u8 t_str hsl ⟨rfl, hE⟩
theorem c_rdigits {c : UInt8} : Ret P n_ref01_digits [bv c] w fun r w' => r = str (hexB c) ∧ Ext No w w' := by
  refine W_ref01_digits ?_
  have hcl := u8_lt c
  refine xi (r := (c.toNat : Int)) (wrapI (by omega)) ?_
  refine xquo (a := c.toNat) (b := 16) (by omega) (wrapI (by omega)) ?_
  refine xi (r := (c.toNat : Int)) (wrapI (by omega)) ?_
  refine xrem (a := c.toNat) (b := 16) (by omega) ?_
  refine xi (r := ((c.toNat / 16 + 1 : Nat) : Int)) (by rw [wrapI (by omega)]; omega) ?_
  refine xcutB (c.toNat / 16) (c.toNat / 16 + 1) rfl rfl (by omega) (by show c.toNat / 16 + 1 ≤ 16; omega) ?_
  refine xi (r := ((c.toNat % 16 + 1 : Nat) : Int)) (by rw [wrapI (by omega)]; omega) ?_
  refine xcutB (c.toNat % 16) (c.toNat % 16 + 1) rfl rfl (by omega) (by show c.toNat % 16 + 1 ≤ 16; omega) ?_
  rw [hex_cut ⟨c.toNat / 16, by omega⟩, hex_cut ⟨c.toNat % 16, by omega⟩]
  refine xcat (by simp) ?_
  exact ⟨rfl, (Ext.refl No w).drew⟩
theorem c_rText (h : Bs w v k) (hl : k.length ≤ 17592186044416) : Ret P n_ref01_Text [v] w fun r w' => r = str (hexK k) ∧ Ext No w w' := by
  refine W_ref01_Text ?_
  refine xloop (fun n vs w' => ∃ (i : Nat), vs = [.int .i64 i, str (hexK (k.take i))] ∧ i ≤ k.length ∧ n = k.length - i ∧ Ext No w w') k.length ⟨0, rfl, by omega, rfl, Ext.refl _ _⟩ ?_
  rintro n vs g w1 ⟨i, rfl, hi, rfl, he⟩
  refine h.len ?_
  refine xifD (fun hlt => ?_) fun hge => ?_
  · have hik : i < k.length := by omega
    refine (h.extN he).rd i hik rfl ?_
    refine c_rdigits.mono ?_
    rintro r w2 ⟨rfl, he2⟩
    refine xcat (by rw [hexK_length, List.length_take]; simp [hexB]; omega) ?_
    refine xi (r := ((i + 1 : Nat) : Int)) (by rw [wrapI (by omega)]; omega) ?_
    refine xnext (k.length - (i + 1)) (by omega) ⟨i + 1, ?_, by omega, rfl, he.transN he2⟩
    rw [hexK_snoc hik]
  · have : i = k.length := by omega
    subst this
    exact ⟨by show str (hexK (k.take k.length)) = _; rw [List.take_length], he⟩
theorem decK_len (n : Nat) (h : n < 18446744073709551616) : (decK n).length ≤ 20 := by
  have key : ∀ d n, n < 10 ^ (d + 1) → (decK n).length ≤ d + 1 := by
    intro d
    induction d with
    | zero => intro n h; rw [decK_small (by simpa using h)]; simp
    | succ d ih =>
      intro n h
      by_cases e : n < 10
      · rw [decK_small e]; simp
      · rw [decK_big e, List.length_append]
        have := ih (n / 10) (by rw [Nat.div_lt_iff_lt_mul (by omega)]; rw [Nat.pow_succ] at h; exact h)
        simp; omega
  exact key 19 n (by omega)
theorem c_Digits {n : Nat} (hn : n < 18446744073709551616) : Ret P n_ref13_Digits [.int .u64 n] w fun r w' => r = str (decK n) ∧ w' = w := by
  refine W_ref13_Digits ?_
  refine xloop (fun nn vs w' => ∃ (m : Nat) (s : List UInt8) (x : Value), vs = [.int .u64 m, x, str s, str []] ∧ nn = m ∧ m ≤ n ∧ decK n = decK m ++ s ∧ w' = w) n ⟨n, [], _, rfl, rfl, Nat.le_refl _, by simp, rfl⟩ ?_
  rintro nn vs g w1 ⟨m, s, x, rfl, hnn, hm, hs, rfl⟩
  have hsl : s.length ≤ 20 := by have := decK_len n hn; rw [hs] at this; simp at this; omega
  refine xrem (a := m) (b := 10) (by omega) ?_
  refine xi (r := ((m % 10 : Nat) : Int)) (wrapI (by omega)) ?_
  refine xi (r := ((m % 10 + 1 : Nat) : Int)) (by rw [wrapI (by omega)]; omega) ?_
  refine xcutB (m % 10) (m % 10 + 1) rfl rfl (by omega) (by show m % 10 + 1 ≤ 10; omega) ?_
  rw [dig_cut ⟨m % 10, by omega⟩]
  refine xcat (by simp; omega) ?_
  refine xquo (a := m) (b := 10) (by omega) (wrapU64 (by omega)) ?_
  refine xifE (fun e => ?_) fun e => ?_
  · have e : m < 10 := by omega
    refine ⟨?_, rfl⟩
    have e5 : m % 10 = m := by omega
    rw [hs, decK_small e]
    show str ([UInt8.ofNat (48 + m % 10)] ++ s) = _
    rw [e5]
  · have e : ¬ m < 10 := by omega
    refine xnext (m / 10) (by omega) ⟨m / 10, _, _, rfl, rfl, by omega, ?_, rfl⟩
    rw [hs, decK_big e, List.append_assoc]
end
end Go.Proofs.YtbfnagdpanfphaaGreatDoor
end
section
namespace Go.Proofs.YtbfnagdpanfphaaGreatDoor
open Go Go.RowKit X
set_option linter.unusedSimpArgs false
set_option linter.unusedVariables false
set_option linter.unusedSectionVars false
theorem len8 : ∀ n : Fin 256, n.1 ≠ 0 → (ByteArray.mk #[0, 1, 2, 2, 3, 3, 3, 3, 4, 4, 4, 4, 4, 4, 4, 4, 5, 5, 5, 5, 5, 5, 5, 5, 5, 5, 5, 5, 5, 5, 5, 5, 6, 6, 6, 6, 6, 6, 6, 6, 6, 6, 6, 6, 6, 6, 6, 6, 6, 6, 6, 6, 6, 6, 6, 6, 6, 6, 6, 6, 6, 6, 6, 6, 7, 7, 7, 7, 7, 7, 7, 7, 7, 7, 7, 7, 7, 7, 7, 7, 7, 7, 7, 7, 7, 7, 7, 7, 7, 7, 7, 7, 7, 7, 7, 7, 7, 7, 7, 7, 7, 7, 7, 7, 7, 7, 7, 7, 7, 7, 7, 7, 7, 7, 7, 7, 7, 7, 7, 7, 7, 7, 7, 7, 7, 7, 7, 7, 8, 8, 8, 8, 8, 8, 8, 8, 8, 8, 8, 8, 8, 8, 8, 8, 8, 8, 8, 8, 8, 8, 8, 8, 8, 8, 8, 8, 8, 8, 8, 8, 8, 8, 8, 8, 8, 8, 8, 8, 8, 8, 8, 8, 8, 8, 8, 8, 8, 8, 8, 8, 8, 8, 8, 8, 8, 8, 8, 8, 8, 8, 8, 8, 8, 8, 8, 8, 8, 8, 8, 8, 8, 8, 8, 8, 8, 8, 8, 8, 8, 8, 8, 8, 8, 8, 8, 8, 8, 8, 8, 8, 8, 8, 8, 8, 8, 8, 8, 8, 8, 8, 8, 8, 8, 8, 8, 8, 8, 8, 8, 8, 8, 8, 8, 8, 8, 8, 8, 8, 8, 8, 8, 8, 8, 8, 8, 8])[n.1]? = some (UInt8.ofNat (n.1.log2 + 1)) := by decide +kernel
theorem log2_div {u s : Nat} (h : u / 2 ^ s ≠ 0) : u.log2 = (u / 2 ^ s).log2 + s := by
  have hu : u ≠ 0 := fun e => h (by rw [e]; simp)
  obtain ⟨h1, h2⟩ := (Nat.log2_eq_iff h).1 rfl
  have hp : 0 < 2 ^ s := Nat.pow_pos (by omega)
  rw [Nat.log2_eq_iff hu]
  constructor
  · rw [Nat.pow_add]
    exact Nat.le_trans (Nat.mul_le_mul_right _ h1) (Nat.div_mul_le_self u (2 ^ s))
  · rw [show (u / 2 ^ s).log2 + s + 1 = (u / 2 ^ s).log2 + 1 + s by omega, Nat.pow_add]
    rwa [Nat.div_lt_iff_lt_mul hp] at h2
theorem tens : ∀ l : Fin 64, ((l.1 + 1) * 78913 / 2 ^ 18 = 0 ∨ 10 ^ ((l.1 + 1) * 78913 / 2 ^ 18 - 1) ≤ 2 ^ l.1) ∧ 2 ^ (l.1 + 1) ≤ 10 ^ ((l.1 + 1) * 78913 / 2 ^ 18 + 1) ∧ (l.1 + 1) * 78913 / 2 ^ 18 < 20 := by decide +kernel
theorem decK_length : ∀ {d u : Nat}, (d = 0 ∨ 10 ^ d ≤ u) → u < 10 ^ (d + 1) → (decK u).length = d + 1 := by
  intro d
  induction d with
  | zero => intro u _ h; rw [decK_small (by simpa using h)]; rfl
  | succ d ih =>
    intro u h1 h2
    have h1 : 10 ^ (d + 1) ≤ u := h1.resolve_left (by omega)
    have hp : 0 < 10 ^ d := Nat.pow_pos (by omega)
    rw [Nat.pow_succ] at h1 h2
    have h2' : u / 10 < 10 ^ (d + 1) := by rwa [Nat.div_lt_iff_lt_mul (by omega)]
    have h3 : ¬ u < 10 := by omega
    rw [decK_big h3, List.length_append, ih (.inr ((Nat.le_div_iff_mul_le (by omega)).2 h1)) h2']
    rfl
/-- the last n digits -/
def padK : Nat → Nat → List UInt8
  | 0, _ => []
  | n + 1, u => padK n (u / 10) ++ [UInt8.ofNat (48 + u % 10)]
theorem padK_length (n u : Nat) : (padK n u).length = n := by
  induction n generalizing u with
  | zero => rfl
  | succ n ih => simp [padK, ih]
theorem padK_cons (n u : Nat) : padK (n + 1) u = UInt8.ofNat (48 + u / 10 ^ n % 10) :: padK n u := by
  induction n generalizing u with
  | zero => simp [padK]
  | succ n ih =>
    rw [padK, ih, padK, Nat.div_div_eq_div_mul, Nat.pow_succ, Nat.mul_comm 10]
    rfl
theorem padK_dec {n u : Nat} (h : (decK u).length = n) : padK n u = decK u := by
  induction n generalizing u with
  | zero =>
    exact (List.eq_nil_of_length_eq_zero h).symm
  | succ n ih =>
    by_cases e : u < 10
    · rw [decK_small e] at h ⊢
      have : n = 0 := by simpa using h.symm
      subst this
      rw [padK, padK, Nat.mod_eq_of_lt e]; rfl
    · rw [decK_big e] at h ⊢
      rw [padK, ih (by simpa using h)]
theorem smalls : ∀ n : Fin 100, (ByteArray.mk #[48, 48, 48, 49, 48, 50, 48, 51, 48, 52, 48, 53, 48, 54, 48, 55, 48, 56, 48, 57, 49, 48, 49, 49, 49, 50, 49, 51, 49, 52, 49, 53, 49, 54, 49, 55, 49, 56, 49, 57, 50, 48, 50, 49, 50, 50, 50, 51, 50, 52, 50, 53, 50, 54, 50, 55, 50, 56, 50, 57, 51, 48, 51, 49, 51, 50, 51, 51, 51, 52, 51, 53, 51, 54, 51, 55, 51, 56, 51, 57, 52, 48, 52, 49, 52, 50, 52, 51, 52, 52, 52, 53, 52, 54, 52, 55, 52, 56, 52, 57, 53, 48, 53, 49, 53, 50, 53, 51, 53, 52, 53, 53, 53, 54, 53, 55, 53, 56, 53, 57, 54, 48, 54, 49, 54, 50, 54, 51, 54, 52, 54, 53, 54, 54, 54, 55, 54, 56, 54, 57, 55, 48, 55, 49, 55, 50, 55, 51, 55, 52, 55, 53, 55, 54, 55, 55, 55, 56, 55, 57, 56, 48, 56, 49, 56, 50, 56, 51, 56, 52, 56, 53, 56, 54, 56, 55, 56, 56, 56, 57, 57, 48, 57, 49, 57, 50, 57, 51, 57, 52, 57, 53, 57, 54, 57, 55, 57, 56, 57, 57])[2 * n.1]? = some (UInt8.ofNat (48 + n.1 / 10)) ∧ (ByteArray.mk #[48, 48, 48, 49, 48, 50, 48, 51, 48, 52, 48, 53, 48, 54, 48, 55, 48, 56, 48, 57, 49, 48, 49, 49, 49, 50, 49, 51, 49, 52, 49, 53, 49, 54, 49, 55, 49, 56, 49, 57, 50, 48, 50, 49, 50, 50, 50, 51, 50, 52, 50, 53, 50, 54, 50, 55, 50, 56, 50, 57, 51, 48, 51, 49, 51, 50, 51, 51, 51, 52, 51, 53, 51, 54, 51, 55, 51, 56, 51, 57, 52, 48, 52, 49, 52, 50, 52, 51, 52, 52, 52, 53, 52, 54, 52, 55, 52, 56, 52, 57, 53, 48, 53, 49, 53, 50, 53, 51, 53, 52, 53, 53, 53, 54, 53, 55, 53, 56, 53, 57, 54, 48, 54, 49, 54, 50, 54, 51, 54, 52, 54, 53, 54, 54, 54, 55, 54, 56, 54, 57, 55, 48, 55, 49, 55, 50, 55, 51, 55, 52, 55, 53, 55, 54, 55, 55, 55, 56, 55, 57, 56, 48, 56, 49, 56, 50, 56, 51, 56, 52, 56, 53, 56, 54, 56, 55, 56, 56, 56, 57, 57, 48, 57, 49, 57, 50, 57, 51, 57, 52, 57, 53, 57, 54, 57, 55, 57, 56, 57, 57])[2 * n.1 + 1]? = some (UInt8.ofNat (48 + n.1 % 10)) := by decide +kernel
theorem smalls_cut : ∀ n : Fin 100, (ByteArray.mk #[48, 48, 48, 49, 48, 50, 48, 51, 48, 52, 48, 53, 48, 54, 48, 55, 48, 56, 48, 57, 49, 48, 49, 49, 49, 50, 49, 51, 49, 52, 49, 53, 49, 54, 49, 55, 49, 56, 49, 57, 50, 48, 50, 49, 50, 50, 50, 51, 50, 52, 50, 53, 50, 54, 50, 55, 50, 56, 50, 57, 51, 48, 51, 49, 51, 50, 51, 51, 51, 52, 51, 53, 51, 54, 51, 55, 51, 56, 51, 57, 52, 48, 52, 49, 52, 50, 52, 51, 52, 52, 52, 53, 52, 54, 52, 55, 52, 56, 52, 57, 53, 48, 53, 49, 53, 50, 53, 51, 53, 52, 53, 53, 53, 54, 53, 55, 53, 56, 53, 57, 54, 48, 54, 49, 54, 50, 54, 51, 54, 52, 54, 53, 54, 54, 54, 55, 54, 56, 54, 57, 55, 48, 55, 49, 55, 50, 55, 51, 55, 52, 55, 53, 55, 54, 55, 55, 55, 56, 55, 57, 56, 48, 56, 49, 56, 50, 56, 51, 56, 52, 56, 53, 56, 54, 56, 55, 56, 56, 56, 57, 57, 48, 57, 49, 57, 50, 57, 51, 57, 52, 57, 53, 57, 54, 57, 55, 57, 56, 57, 57]).extract (2 * n.1) (2 * n.1 + 2) = ⟨[UInt8.ofNat (48 + n.1 / 10), UInt8.ofNat (48 + n.1 % 10)].toArray⟩ := by decide +kernel
theorem one_cut : ∀ n : Fin 10, (ByteArray.mk #[48, 49, 50, 51, 52, 53, 54, 55, 56, 57, 97, 98, 99, 100, 101, 102, 103, 104, 105, 106, 107, 108, 109, 110, 111, 112, 113, 114, 115, 116, 117, 118, 119, 120, 121, 122]).extract n.1 (n.1 + 1) = ⟨[UInt8.ofNat (48 + n.1)].toArray⟩ := by decide +kernel
section
variable {w : World}
theorem c_small {n : Nat} (h : n < 100) : Ret P n_istrconv_small [.int .i64 n] w fun r w' => r = str (decK n) ∧ w' = w := by
  refine W_istrconv_small ?_
  refine xifD (fun h1 => ?_) fun h1 => ?_
  · refine xi (r := ((n + 1 : Nat) : Int)) (by rw [wrapI (by omega)]; omega) ?_
    refine xcutB n (n + 1) rfl rfl (by omega) (by show n + 1 ≤ 36; omega) ?_
    rw [one_cut ⟨n, by omega⟩, decK_small (by omega)]
    exact ⟨rfl, rfl⟩
  · refine xi (r := ((2 * n : Nat) : Int)) (by rw [wrapI (by omega)]; omega) ?_
    refine xi (r := ((2 * n : Nat) : Int)) (by rw [wrapI (by omega)]; omega) ?_
    refine xi (r := ((2 * n + 2 : Nat) : Int)) (by rw [wrapI (by omega)]; omega) ?_
    refine xcutB (2 * n) (2 * n + 2) rfl rfl (by omega) (by show 2 * n + 2 ≤ 200; omega) ?_
    rw [smalls_cut ⟨n, h⟩, decK_big (by omega), decK_small (by omega)]
    exact ⟨rfl, rfl⟩
set_option maxRecDepth 100000 in
theorem c_Len64 {u : Nat} (h1 : 1 ≤ u) (h2 : u < 18446744073709551616) : Ret P n_bits_Len64 [.int .u64 u] w fun r w' => r = .int .i64 ((u.log2 + 1 : Nat) : Int) ∧ w' = w := by
  refine W_bits_Len64 ?_
  refine xj (fun vs w' => ∃ s x : Nat, vs = [.int .u64 x, .int .i64 s] ∧ s ≤ 32 ∧ x = u / 2 ^ s ∧ x ≠ 0 ∧ x < 4294967296 ∧ w' = w) ?_ ?_
  · refine xifD (fun h => ?_) fun h => ⟨0, u, rfl, by omega, by simp, by omega, by omega, rfl⟩
    refine xshr (a := u) (b := 32) ?_
    exact ⟨32, _, rfl, by omega, rfl, by show u / 4294967296 ≠ 0; omega, by show u / 4294967296 < _; omega, rfl⟩
  rintro vs g w1 ⟨s, x, rfl, hs, hx, hx0, hxl, rfl⟩
  refine xj (fun vs w' => ∃ s x : Nat, vs = [.int .u64 x, .int .i64 s] ∧ s ≤ 48 ∧ x = u / 2 ^ s ∧ x ≠ 0 ∧ x < 65536 ∧ w' = w1) ?_ ?_
  · refine xifD (fun h => ?_) fun h => ⟨s, x, rfl, by omega, hx, hx0, by omega, rfl⟩
    refine xshr (a := x) (b := 16) ?_
    refine xi (r := ((s + 16 : Nat) : Int)) (by rw [wrapI (by omega)]; omega) ?_
    exact ⟨s + 16, _, rfl, by omega, by rw [hx, Nat.div_div_eq_div_mul, ← Nat.pow_add]; rfl, by show x / 65536 ≠ 0; omega, by show x / 65536 < _; omega, rfl⟩
  rintro vs g w2 ⟨s, x, rfl, hs, hx, hx0, hxl, rfl⟩
  refine xj (fun vs w' => ∃ s x : Nat, vs = [.int .u64 x, .int .i64 s] ∧ s ≤ 56 ∧ x = u / 2 ^ s ∧ x ≠ 0 ∧ x < 256 ∧ w' = w2) ?_ ?_
  · refine xifD (fun h => ?_) fun h => ⟨s, x, rfl, by omega, hx, hx0, by omega, rfl⟩
    refine xshr (a := x) (b := 8) ?_
    refine xi (r := ((s + 8 : Nat) : Int)) (by rw [wrapI (by omega)]; omega) ?_
    exact ⟨s + 8, _, rfl, by omega, by rw [hx, Nat.div_div_eq_div_mul, ← Nat.pow_add]; rfl, by show x / 256 ≠ 0; omega, by show x / 256 < _; omega, rfl⟩
  rintro vs g w3 ⟨s, x, rfl, hs, hx, hx0, hxl, rfl⟩
  refine xi (r := ((x : Nat) : Int)) (wrapU8 (by omega)) ?_
  refine xixstr x _ rfl (len8 ⟨x, hxl⟩ hx0) ?_
  have hlog : x.log2 < 8 := (Nat.log2_lt hx0).2 (by omega)
  have e1 : (UInt8.ofNat (x.log2 + 1)).toNat = x.log2 + 1 := by simp; omega
  show xConv .i64 (.int .u8 ((UInt8.ofNat (x.log2 + 1)).toNat : Int)) _
  rw [e1]
  refine xi (r := ((x.log2 + 1 : Nat) : Int)) (wrapI (by omega)) ?_
  have e2 : u.log2 = x.log2 + s := by rw [hx]; exact log2_div (by rw [← hx]; exact hx0)
  refine xi (r := ((u.log2 + 1 : Nat) : Int)) (by rw [wrapI (by omega)]; omega) ?_
  exact ⟨rfl, rfl⟩
/-- the table of the tens -/
def Tab (w : World) : Prop := ∀ i, i < 20 → w.cell? ⟨g_istrconv_uint64pow10, i, none⟩ = some (.int .u64 (10 ^ i : Nat))
set_option maxRecDepth 100000 in
theorem c_numDigits (ht : Tab w) {u : Nat} (h1 : 1 ≤ u) (h2 : u < 18446744073709551616) : Ret P n_istrconv_numDigits [.int .u64 u] w fun r w' => r = .int .i64 ((decK u).length : Nat) ∧ w' = w := by
  refine W_istrconv_numDigits ?_
  refine (c_Len64 h1 h2).mono ?_
  rintro r w1 ⟨rfl, rfl⟩
  have hu0 : u ≠ 0 := by omega
  have hlog : u.log2 < 64 := (Nat.log2_lt hu0).2 (by omega)
  obtain ⟨k1, k2⟩ := (Nat.log2_eq_iff hu0).1 rfl
  obtain ⟨t1, t2, t3⟩ := tens ⟨u.log2, hlog⟩
  have t1 : (u.log2 + 1) * 78913 / 2 ^ 18 = 0 ∨ 10 ^ ((u.log2 + 1) * 78913 / 2 ^ 18 - 1) ≤ 2 ^ u.log2 := t1
  have t2 : 2 ^ (u.log2 + 1) ≤ 10 ^ ((u.log2 + 1) * 78913 / 2 ^ 18 + 1) := t2
  have t3 : (u.log2 + 1) * 78913 / 2 ^ 18 < 20 := t3
  generalize hL : u.log2 + 1 = L at *
  have hc : Ret P n_istrconv_log10Pow2 [.int .i64 (L : Int)] w1 fun r w' => r = .int .i64 ((L * 78913 / 2 ^ 18 : Nat) : Int) ∧ w' = w1 := by
    refine W_istrconv_log10Pow2 ?_
    refine xi (r := ((L * 78913 : Nat) : Int)) (by rw [wrapI (by omega)]; omega) ?_
    refine xshr (a := L * 78913) (b := 18) ?_
    exact ⟨rfl, rfl⟩
  refine hc.mono ?_
  rintro r w2 ⟨rfl, rfl⟩
  generalize L * 78913 / 2 ^ 18 = t at *
  refine xix t rfl t3 ?_
  refine ⟨_, (by rw [Nat.mul_one, show (⟨g_istrconv_uint64pow10, 0, none⟩ : Addr).add t = ⟨g_istrconv_uint64pow10, 0 + t, none⟩ from Addr.add_lit _ _ _, Nat.zero_add]; exact ht t t3), ?_⟩
  have hb : ∀ b : Bool, Ret P n_istrconv_bool2_int [.bool b] w2 fun r w' => r = .int .i64 (if b then 1 else 0) ∧ w' = w2 := by
    intro b
    refine W_istrconv_bool2_int ?_
    cases b
    · exact xifF rfl ⟨rfl, rfl⟩
    · exact xifT rfl ⟨rfl, rfl⟩
  refine (hb _).mono ?_
  rintro r w3 ⟨rfl, rfl⟩
  by_cases hge : 10 ^ t ≤ u
  · rw [if_pos (by simp; exact_mod_cast hge)]
    refine xi (r := ((t + 1 : Nat) : Int)) (by rw [wrapI (by omega)]; omega) ?_
    rw [decK_length (d := t) (.inr hge) (by omega)]
    exact ⟨rfl, rfl⟩
  · rw [if_neg (by simp; exact_mod_cast Nat.lt_of_not_le hge)]
    refine xi (r := ((t : Nat) : Int)) (by rw [wrapI (by omega)]; omega) ?_
    cases t with
    | zero => simp at hge; omega
    | succ t =>
      rw [decK_length (d := t) (by rcases t1 with h | h
                                   · omega
                                   · exact .inr (by simp at h; omega)) (by omega)]
      exact ⟨rfl, rfl⟩
end
end Go.Proofs.YtbfnagdpanfphaaGreatDoor
end
section
namespace Go.Proofs.YtbfnagdpanfphaaGreatDoor
open Go Go.RowKit X
set_option linter.unusedSimpArgs false
set_option linter.unusedVariables false
set_option linter.unusedSectionVars false
/-- the digits from place nd on stand there -/
structure Fm (cells : List Value) (o n u nd : Nat) (c : List Value) : Prop where
  len : c.length = cells.length
  le : nd ≤ n
  fit : o + n ≤ cells.length
  pre : c.take o = cells.take o
  post : c.drop (o + nd) = (padK (n - nd) u).map bv ++ cells.drop (o + n)
theorem Fm.start {cells : List Value} {o n u : Nat} (h : o + n ≤ cells.length) : Fm cells o n u n cells := ⟨rfl, Nat.le_refl _, h, rfl, by simp [padK]⟩
theorem drop_set_self {α : Type} {l : List α} {i : Nat} {a : α} (h : i < l.length) : (l.set i a).drop i = a :: l.drop (i + 1) := by
  rw [List.set_eq_take_append_cons_drop, if_pos h, List.drop_append_of_le_length (by simp; omega)]
  rw [List.drop_eq_nil_of_le (by simp; omega), List.nil_append]
theorem Fm.set {cells : List Value} {o n u nd : Nat} {c : List Value} (h : Fm cells o n u (nd + 1) c) {d : Value} (hd : d = bv (UInt8.ofNat (48 + u / 10 ^ (n - nd - 1) % 10))) : Fm cells o n u nd (c.set (o + nd) d) := by
  have h1 := h.len
  have h2 := h.le
  have h3 := h.fit
  refine ⟨by simp [h.len], by omega, h.fit, ?_, ?_⟩
  · rw [List.take_set_of_le (by omega), h.pre]
  · rw [drop_set_self (by omega), show o + nd + 1 = o + (nd + 1) by omega, h.post, show n - nd = (n - nd - 1) + 1 by omega, padK_cons, hd, show n - (nd + 1) = n - nd - 1 by omega]
    rfl
theorem Fm.done {cells : List Value} {o n u : Nat} {c : List Value} (h : Fm cells o n u 0 c) : c = cells.take o ++ ((padK n u).map bv ++ cells.drop (o + n)) := by
  rw [← h.pre]
  have := h.post
  simp only [Nat.add_zero, Nat.sub_zero] at this
  rw [← this, List.take_append_drop]
section
variable {w : World} {g o n u : Nat} {cells : List Value} {T : TypeId}
theorem fm_st {c : List Value} {nd cap : Nat} {K : World → Prop} {i : Int} {d : Value} (hb : Blk w g c T) (h : Fm cells o n u (nd + 1) c) (hi : i = (nd : Int)) (hd : d = bv (UInt8.ofNat (48 + u / 10 ^ (n - nd - 1) % 10)))
    (k : ∀ w1 c1, Blk w1 g c1 T → Fm cells o n u nd c1 → w1.heap.size = w.heap.size → Ext (· = g) w w1 → K w1) : xIxS (.slice (some ⟨g, o, none⟩) n cap) (.int .i64 i) 1 fun p => xAt p fun a => XSt w a d K := by
  have h1 := h.len
  have h2 := h.le
  have h3 := h.fit
  refine ⟨nd, hi, by omega, ?_⟩
  show XSt w ((⟨g, o, none⟩ : Addr).add (nd * 1)) d K
  rw [show (⟨g, o, none⟩ : Addr).add (nd * 1) = ⟨g, o + nd, none⟩ by rw [Nat.mul_one]; exact Addr.add_lit _ _ _]
  refine hb.st (by omega) (by rw [hd]; rfl) fun w1 hb1 hz1 he1 => k w1 _ hb1 (h.set hd) hz1 he1
theorem fm_pair {s : ByteArray} {c : List Value} {N a X cap : Nat} {K : World → Prop} (hb : Blk w g c T) (h : Fm cells o n u (N - a + 1) c) (ha : a + 1 ≤ N) (hN : N ≤ 1000) (hX : X = u / 10 ^ (n - (N - a + 1)) % 100) (hs0 : s[2 * X]? = some (UInt8.ofNat (48 + X / 10))) (hs1 : s[2 * X + 1]? = some (UInt8.ofNat (48 + X % 10)))
    (k : ∀ w1 c1, Blk w1 g c1 T → Fm cells o n u (N - (a + 1)) c1 → w1.heap.size = w.heap.size → Ext (· = g) w w1 → K w1) :
    xSub (.int .i64 (N : Int)) (.int .i64 (a : Int)) fun v1 => xSub (.int .i64 (N : Int)) (.int .i64 ((a + 1 : Nat) : Int)) fun v2 => xAdd (.int .u32 ((2 * X : Nat) : Int)) (.int .u32 1) fun v3 => xIxStr (.string s) v3 fun c1 => xIxStr (.string s) (.int .u32 ((2 * X : Nat) : Int)) fun c0 =>
      xIxS (.slice (some ⟨g, o, none⟩) n cap) v1 1 fun p1 => xAt p1 fun ad1 => XSt w ad1 c1 fun w1 => xIxS (.slice (some ⟨g, o, none⟩) n cap) v2 1 fun p2 => xAt p2 fun ad2 => XSt w1 ad2 c0 K := by
  have h2 := h.le
  have hXl : X < 100 := by rw [hX]; exact Nat.mod_lt _ (by omega)
  refine xi (r := ((N - a : Nat) : Int)) (by rw [wrapI (by omega)]; omega) ?_
  refine xi (r := ((N - (a + 1) : Nat) : Int)) (by rw [wrapI (by omega)]; omega) ?_
  refine xi (r := ((2 * X + 1 : Nat) : Int)) (by rw [show ((2 * X : Nat) : Int) + 1 = ((2 * X + 1 : Nat) : Int) by omega]; exact wrapU32 (by omega)) ?_
  refine xixstr (2 * X + 1) _ rfl hs1 ?_
  refine xixstr (2 * X) _ rfl hs0 ?_
  refine fm_st hb h rfl ?_ fun w1 c1 hb1 h1 hz1 he1 => ?_
  · congr 3
    rw [hX, show n - (N - a) - 1 = n - (N - a + 1) by omega]
    omega
  · have h1' : Fm cells o n u (N - (a + 1) + 1) c1 := by rw [show N - (a + 1) + 1 = N - a by omega]; exact h1
    refine fm_st hb1 h1' rfl ?_ fun w2 c2 hb2 h2 hz2 he2 => k w2 c2 hb2 h2 (by omega) (he1.transS he2)
    congr 3
    rw [hX, show n - (N - (a + 1)) - 1 = n - (N - a + 1) + 1 by omega, Nat.pow_succ, ← Nat.div_div_eq_div_mul]
    omega
set_option maxRecDepth 100000 in
theorem c_fmt (hb : Blk w g cells T) (hfit : o + n ≤ cells.length) (hn : n ≤ 20) (hn1 : 1 ≤ n) (hu : u < 10 ^ n) (hu64 : u < 18446744073709551616) {cap : Nat} : Ret P n_istrconv_formatBase10 [.slice (some ⟨g, o, none⟩) n cap, .int .u64 u] w fun r w' =>
    Blk w' g (cells.take o ++ ((padK n u).map bv ++ cells.drop (o + n))) T ∧ w'.heap.size = w.heap.size ∧ Ext (· = g) w w' := by
  refine W_istrconv_formatBase10 ?_
  show XLoop [.int .i64 n, _, _, _, _, _, _, _, _] w _
  refine xloop (fun nn vs w' => ∃ (N U : Nat) (c : List Value) (x1 x2 x3 x4 x5 x6 x7 : Value), vs = [.int .i64 N, .int .u64 U, x1, x2, x3, x4, x5, x6, x7] ∧ nn = N ∧ Blk w' g c T ∧ Fm cells o n u N c ∧ U = u / 10 ^ (n - N) ∧ w'.heap.size = w.heap.size ∧ Ext (· = g) w w') n
    ⟨n, u, cells, _, _, _, _, _, _, _, rfl, rfl, hb, Fm.start hfit, by simp, rfl, Ext.refl _ _⟩ ?_
  rintro nn vs gg w1 ⟨N, U, c, x1, x2, x3, x4, x5, x6, x7, rfl, hnn, hb1, hf, hU, hz1, hE1⟩
  have hNn := hf.le
  have hUu : U ≤ u := by rw [hU]; exact Nat.div_le_self _ _
  have step : ∀ j m : Nat, m = n - N + j → u / 10 ^ m = U / 10 ^ j := fun j m hm => by rw [hm, hU, Nat.div_div_eq_div_mul, ← Nat.pow_add]
  refine xifD (fun hge => ?_) fun hlt => ?_
  · refine xrem (a := U) (b := 100000000) (by omega) ?_
    refine xi (r := ((U % 100000000 : Nat) : Int)) (wrapU32 (by omega)) ?_
    refine xquo (a := U) (b := 100000000) (by omega) (wrapU64 (by omega)) ?_
    refine xquo (a := U % 100000000) (b := 10000) (by omega) (wrapU32 (by omega)) ?_
    refine xrem (a := U % 100000000) (b := 10000) (by omega) ?_
    refine xquo (a := U % 100000000 % 10000) (b := 100) (by omega) (wrapU32 (by omega)) ?_
    refine xi (r := ((2 * (U / 100 % 100) : Nat) : Int)) (by rw [show ((U % 100000000 % 10000 / 100 : Nat) : Int) * 2 = ((2 * (U / 100 % 100) : Nat) : Int) by omega]; exact wrapU32 (by omega)) ?_
    refine xrem (a := U % 100000000 % 10000) (b := 100) (by omega) ?_
    refine xi (r := ((2 * (U % 100) : Nat) : Int)) (by rw [show ((U % 100000000 % 10000 % 100 : Nat) : Int) * 2 = ((2 * (U % 100) : Nat) : Int) by omega]; exact wrapU32 (by omega)) ?_
    refine xquo (a := U % 100000000 / 10000) (b := 100) (by omega) (wrapU32 (by omega)) ?_
    refine xi (r := ((2 * (U / 1000000 % 100) : Nat) : Int)) (by rw [show ((U % 100000000 / 10000 / 100 : Nat) : Int) * 2 = ((2 * (U / 1000000 % 100) : Nat) : Int) by omega]; exact wrapU32 (by omega)) ?_
    refine xrem (a := U % 100000000 / 10000) (b := 100) (by omega) ?_
    refine xi (r := ((2 * (U / 10000 % 100) : Nat) : Int)) (by rw [show ((U % 100000000 / 10000 % 100 : Nat) : Int) * 2 = ((2 * (U / 10000 % 100) : Nat) : Int) by omega]; exact wrapU32 (by omega)) ?_
    have sm := fun X (h : X < 100) => smalls ⟨X, h⟩
    refine fm_pair (N := N) (a := 1) (X := U % 100) hb1.drew (by rw [show N - 1 + 1 = N by omega]; exact hf) (by omega) (by omega) (by rw [step 0 _ (by omega)]; simp) (sm _ (by omega)).1 (sm _ (by omega)).2 fun w2 c2 hb2 hf2 hz2 he2 => ?_
    refine fm_pair (N := N) (a := 3) (X := U / 100 % 100) hb2.drew (by rw [show N - 3 + 1 = N - (1 + 1) by omega]; exact hf2) (by omega) (by omega) (by rw [step 2 _ (by omega)]) (sm _ (by omega)).1 (sm _ (by omega)).2 fun w3 c3 hb3 hf3 hz3 he3 => ?_
    refine fm_pair (N := N) (a := 5) (X := U / 10000 % 100) hb3.drew (by rw [show N - 5 + 1 = N - (3 + 1) by omega]; exact hf3) (by omega) (by omega) (by rw [step 4 _ (by omega)]) (sm _ (by omega)).1 (sm _ (by omega)).2 fun w4 c4 hb4 hf4 hz4 he4 => ?_
    refine fm_pair (N := N) (a := 7) (X := U / 1000000 % 100) hb4.drew (by rw [show N - 7 + 1 = N - (5 + 1) by omega]; exact hf4) (by omega) (by omega) (by rw [step 6 _ (by omega)]) (sm _ (by omega)).1 (sm _ (by omega)).2 fun w5 c5 hb5 hf5 hz5 he5 => ?_
    refine xi (r := ((N - 8 : Nat) : Int)) (by rw [wrapI (by omega)]; omega) ?_
    have z2 : w2.heap.size = w1.heap.size := hz2
    have z3 : w3.heap.size = w2.heap.size := hz3
    have z4 : w4.heap.size = w3.heap.size := hz4
    have z5 : w5.heap.size = w4.heap.size := hz5
    exact xnext (N - 8) (by omega) ⟨N - 8, U / 100000000, c5, _, _, _, _, _, _, _, rfl, rfl, hb5, hf5, by rw [step 8 _ (by omega)], by omega, (((hE1.transS he2.undrew).transS he3.undrew).transS he4.undrew).transS he5.undrew⟩
  · have hUl : U < 10 ^ N := by
      rw [hU, Nat.div_lt_iff_lt_mul (Nat.pow_pos (by omega)), ← Nat.pow_add, show N + (n - N) = n by omega]
      exact hu
    have hN8 : N ≤ 7 := by omega
    have hU7 : U < 10000000 := Nat.lt_of_lt_of_le hUl (show 10 ^ N ≤ 10 ^ 7 from Nat.pow_le_pow_right (by omega) hN8)
    refine xi (r := ((U : Nat) : Int)) (wrapU32 (by omega)) ?_
    have sm := fun X (h : X < 100) => smalls ⟨X, h⟩
    refine xj (fun vs w' => ∃ (N' U' : Nat) (c' : List Value) (y1 y2 y3 : Value), vs = [y1, .int .u32 U', y2, y3, .int .i64 N'] ∧ Blk w' g c' T ∧ Fm cells o n u N' c' ∧ U' = u / 10 ^ (n - N') ∧ U' < 10000000 ∧ N' ≤ 3 ∧ U' < 10 ^ N' ∧ w'.heap.size = w.heap.size ∧ Ext (· = g) w w') ?_ ?_
    · refine xifD (fun h4 => ?_) fun h4 => ⟨N, U, c, _, _, _, rfl, hb1, hf, hU, hU7, by omega, hUl, hz1, hE1⟩
      refine xrem (a := U) (b := 10000) (by omega) ?_
      refine xquo (a := U) (b := 10000) (by omega) (wrapU32 (by omega)) ?_
      refine xquo (a := U % 10000) (b := 100) (by omega) (wrapU32 (by omega)) ?_
      refine xi (r := ((2 * (U / 100 % 100) : Nat) : Int)) (by rw [show ((U % 10000 / 100 : Nat) : Int) * 2 = ((2 * (U / 100 % 100) : Nat) : Int) by omega]; exact wrapU32 (by omega)) ?_
      refine xrem (a := U % 10000) (b := 100) (by omega) ?_
      refine xi (r := ((2 * (U % 100) : Nat) : Int)) (by rw [show ((U % 10000 % 100 : Nat) : Int) * 2 = ((2 * (U % 100) : Nat) : Int) by omega]; exact wrapU32 (by omega)) ?_
      refine fm_pair (N := N) (a := 1) (X := U % 100) hb1.drew (by rw [show N - 1 + 1 = N by omega]; exact hf) (by omega) (by omega) (by rw [step 0 _ (by omega)]; simp) (sm _ (by omega)).1 (sm _ (by omega)).2 fun w2 c2 hb2 hf2 hz2 he2 => ?_
      refine fm_pair (N := N) (a := 3) (X := U / 100 % 100) hb2.drew (by rw [show N - 3 + 1 = N - (1 + 1) by omega]; exact hf2) (by omega) (by omega) (by rw [step 2 _ (by omega)]) (sm _ (by omega)).1 (sm _ (by omega)).2 fun w3 c3 hb3 hf3 hz3 he3 => ?_
      refine xi (r := ((N - 4 : Nat) : Int)) (by rw [wrapI (by omega)]; omega) ?_
      have z2 : w2.heap.size = w1.heap.size := hz2
      have z3 : w3.heap.size = w2.heap.size := hz3
      refine ⟨N - 4, U / 10000, c3, _, _, _, rfl, hb3, hf3, by rw [step 4 _ (by omega)], by omega, by omega, ?_, by omega, (hE1.transS he2.undrew).transS he3.undrew⟩
      rw [Nat.div_lt_iff_lt_mul (by omega)]
      have : 10 ^ (N - 4) * 10000 = 10 ^ N := by rw [show (10000 : Nat) = 10 ^ 4 by rfl, ← Nat.pow_add, show N - 4 + 4 = N by omega]
      rw [this]; exact hUl
    · rintro vs gg w2 ⟨N2, U2, c2, y1, y2, y3, rfl, hb2, hf2, hU2, hU27, hN3, hU2l, hz2, hE2⟩
      have step2 : ∀ j m : Nat, m = n - N2 + j → u / 10 ^ m = U2 / 10 ^ j := fun j m hm => by rw [hm, hU2, Nat.div_div_eq_div_mul, ← Nat.pow_add]
      refine xj (fun vs w' => ∃ (N' U' : Nat) (c' : List Value) (y1 : Value), vs = [y1, .int .u32 U', .int .i64 N'] ∧ Blk w' g c' T ∧ Fm cells o n u N' c' ∧ U' = u / 10 ^ (n - N') ∧ N' ≤ 1 ∧ U' < 10 ^ N' ∧ w'.heap.size = w.heap.size ∧ Ext (· = g) w w') ?_ ?_
      · refine xifD (fun h4 => ?_) fun h4 => ⟨N2, U2, c2, _, rfl, hb2, hf2, hU2, by omega, hU2l, hz2, hE2⟩
        have := hf2.le
        refine xrem (a := U2) (b := 100) (by omega) ?_
        refine xi (r := ((2 * (U2 % 100) : Nat) : Int)) (by rw [show ((U2 % 100 : Nat) : Int) * 2 = ((2 * (U2 % 100) : Nat) : Int) by omega]; exact wrapU32 (by omega)) ?_
        refine xquo (a := U2) (b := 100) (by omega) (wrapU32 (by omega)) ?_
        refine fm_pair (N := N2) (a := 1) (X := U2 % 100) hb2.drew (by rw [show N2 - 1 + 1 = N2 by omega]; exact hf2) (by omega) (by omega) (by rw [step2 0 _ (by omega)]; simp) (sm _ (by omega)).1 (sm _ (by omega)).2 fun w3 c3 hb3 hf3 hz3 he3 => ?_
        refine xi (r := ((N2 - 2 : Nat) : Int)) (by rw [wrapI (by omega)]; omega) ?_
        have z3 : w3.heap.size = w2.heap.size := hz3
        refine ⟨N2 - 2, U2 / 100, c3, _, rfl, hb3, hf3, by rw [step2 2 _ (by omega)], by omega, ?_, by omega, hE2.transS he3.undrew⟩
        rw [Nat.div_lt_iff_lt_mul (by omega)]
        have : 10 ^ (N2 - 2) * 100 = 10 ^ N2 := by rw [show (100 : Nat) = 10 ^ 2 by rfl, ← Nat.pow_add, show N2 - 2 + 2 = N2 by omega]
        rw [this]; exact hU2l
      · rintro vs gg w3 ⟨N3, U3, c3, y1, rfl, hb3, hf3, hU3, hN31, hU3l, hz3, hE3⟩
        refine xifD (fun h1 => ?_) fun h1 => ?_
        · have hN1 : N3 = 1 := by omega
          subst hN1
          have hU10 : U3 < 10 := by simpa using hU3l
          have := hf3.le
          refine xi (r := ((48 + U3 : Nat) : Int)) (by rw [show (48 : Int) + (U3 : Int) = ((48 + U3 : Nat) : Int) by omega]; exact wrapU32 (by omega)) ?_
          refine xi (r := ((48 + U3 : Nat) : Int)) (wrapU8 (by omega)) ?_
          refine fm_st hb3 hf3 rfl ?_ fun w4 c4 hb4 hf4 hz4 he4 => ⟨?_, by omega, hE3.transS he4⟩
          · rw [show n - 0 - 1 = n - 1 by omega, ← hU3, Nat.mod_eq_of_lt hU10]
            have : (UInt8.ofNat (48 + U3)).toNat = 48 + U3 := by simp; omega
            show _ = Value.int .u8 ((UInt8.ofNat (48 + U3)).toNat : Int)
            rw [this]
          · rw [← hf4.done]; exact hb4
        · have hN0 : N3 = 0 := by omega
          subst hN0
          exact ⟨by rw [← hf3.done]; exact hb3, hz3, hE3⟩
/-- an array's part -/
theorem cutA_h {nA size : Nat} {a : Addr} {kd : IntKind} {i : Int} {K : Value → Prop} (h : Nat) (hi : i = (h : Int)) (hh : h ≤ nA) (h0 : nA ≠ 0) (k : K (.slice (some (a.add (0 * size))) h nA)) : xCutA nA size (.pointer (some a)) none (some (.int kd i)) none K := by
  refine xcutH h hi hh ?_
  rw [if_neg h0]
  exact k
theorem digits20 {u : Nat} (hu : u < 18446744073709551616) : u < 10 ^ (decK u).length := by
  have key : ∀ d u, u < 10 ^ (d + 1) → u < 10 ^ (decK u).length := by
    intro d
    induction d with
    | zero => intro u h; rw [decK_small (by simpa using h)]; simpa using h
    | succ d ih =>
      intro u h
      by_cases e : u < 10
      · rw [decK_small e]; simpa using e
      · rw [decK_big e, List.length_append]
        have := ih (u / 10) (by rw [Nat.pow_succ] at h; rwa [Nat.div_lt_iff_lt_mul (by omega)])
        rw [Nat.div_lt_iff_lt_mul (by omega)] at this
        simpa [Nat.pow_succ] using this
  exact key 19 u (by omega)
theorem decK_pos (u : Nat) : 1 ≤ (decK u).length := by
  by_cases e : u < 10
  · rw [decK_small e]; simp
  · rw [decK_big e]; simp
variable [Floor]
set_option maxRecDepth 100000 in
theorem c_FormatUint (ht : Tab w) {u : Nat} (hu : u < 18446744073709551616) : Ret P n_strconv_FormatUint [.int .u64 u, .int .i64 10] w fun r w' => r = str (decK u) ∧ Ext No w w' := by
  refine W_strconv_FormatUint ?_
  have : Ret P n_istrconv_FormatUint [.int .u64 u, .int .i64 10] w fun r w' => r = str (decK u) ∧ Ext No w w' := by
    refine W_istrconv_FormatUint ?_
    refine xifT rfl ?_
    refine xifD (fun h => ?_) fun h => ?_
    · refine xi (r := (u : Int)) (wrapI (by omega)) ?_
      refine (c_small (by omega)).mono ?_
      rintro r w' ⟨rfl, rfl⟩
      exact ⟨rfl, Ext.refl _ _⟩
    · have hl := decK_len u hu
      have hd := digits20 hu
      have hp := decK_pos u
      show XNew w (List.replicate 24 (bv 0)) T_a24_uint8 _
      refine xnew fun b w1 hb hblk hz he => ?_
      have ht1 : Tab w1 := fun i hi => by
        have := ht i hi
        have hc : w1.cell? ⟨g_istrconv_uint64pow10, i, none⟩ = w.cell? ⟨g_istrconv_uint64pow10, i, none⟩ := by
          have hlt : g_istrconv_uint64pow10 < w.heap.size := by
            rcases Nat.lt_or_ge g_istrconv_uint64pow10 w.heap.size with h | h
            · exact h
            · simp [World.cell?, Array.getElem?_eq_none h] at this
          simp only [World.cell?]
          rw [he.same _ hlt fun h => h]
        rw [hc, this]
      refine (c_numDigits ht1 (by omega) hu).mono ?_
      rintro r w2 ⟨rfl, rfl⟩
      refine cutA_h (decK u).length rfl (by omega) (by omega) ?_
      show Ret P n_istrconv_formatBase10 [.slice (some ⟨b, 0, none⟩) (decK u).length 24, .int .u64 u] w2 _
      refine (c_fmt hblk (by simp; omega) hl hp hd hu).mono ?_
      rintro r w3 ⟨hb3, hz3, he3⟩
      rw [padK_dec rfl, List.take_zero, List.nil_append] at hb3
      refine cutA_h (decK u).length rfl (by omega) (by omega) ?_
      have hsl := hb3.sl (o := 0) (n := (decK u).length) (cap := 24) (by simp; omega) (by omega)
      rw [List.drop_zero, List.take_append_of_le_length (by simp), List.take_of_length_le (by simp)] at hsl
      exact conv_str ei_u8.u t_u8 t_str hsl ⟨rfl, he.trans1 he3 (by omega)⟩
  exact this.mono fun r w' h => h
set_option maxRecDepth 100000 in
theorem c_Itoa (ht : Tab w) {u : Nat} (hu : u < 9223372036854775808) : Ret P n_strconv_Itoa [.int .i64 u] w fun r w' => r = str (decK u) ∧ Ext No w w' := by
  refine W_strconv_Itoa ?_
  refine Ret.mono (R := fun r w' => r = str (decK u) ∧ Ext No w w') (W_istrconv_Itoa ?_) fun r w' h => h
  refine Ret.mono (R := fun r w' => r = str (decK u) ∧ Ext No w w') (W_istrconv_FormatInt ?_) fun r w' h => h
  refine xifT rfl ?_
  refine xj (fun vs w' => vs = [.bool (decide (u < 100))] ∧ w' = w) ?_ ?_
  · refine xifT (by simp) ?_
    refine ⟨?_, rfl⟩
    by_cases e : u < 100
    · rw [decide_eq_true e, decide_eq_true (by omega)]
    · rw [decide_eq_false e, decide_eq_false (by omega)]
  rintro vs g w1 ⟨rfl, rfl⟩
  refine xifD (fun h => ?_) fun h => ?_
  · refine (c_small (by omega)).mono ?_
    rintro r w' ⟨rfl, rfl⟩
    exact ⟨rfl, Ext.refl _ _⟩
  · have hu64 : u < 18446744073709551616 := by omega
    have hl := decK_len u hu64
    have hd := digits20 hu64
    have hp := decK_pos u
    show XNew w1 (List.replicate 24 (bv 0)) T_a24_uint8 _
    refine xnew fun b w2 hb hblk hz he => ?_
    have ht1 : Tab w2 := fun i hi => by
      have := ht i hi
      have hc : w2.cell? ⟨g_istrconv_uint64pow10, i, none⟩ = w1.cell? ⟨g_istrconv_uint64pow10, i, none⟩ := by
        have hlt : g_istrconv_uint64pow10 < w1.heap.size := by
          rcases Nat.lt_or_ge g_istrconv_uint64pow10 w1.heap.size with h | h
          · exact h
          · simp [World.cell?, Array.getElem?_eq_none h] at this
        simp only [World.cell?]
        rw [he.same _ hlt fun h => h]
      rw [hc, this]
    refine xi (r := (u : Int)) (wrapU64 (by omega)) ?_
    refine xj (fun vs w' => vs = [.int .u64 u] ∧ w' = w2) (xifF (by simp) ⟨rfl, rfl⟩) ?_
    rintro vs g w3 ⟨rfl, rfl⟩
    refine (c_numDigits ht1 (by omega) hu64).mono ?_
    rintro r w4 ⟨rfl, rfl⟩
    refine xi (r := ((1 + (decK u).length : Nat) : Int)) (by rw [wrapI (by omega)]; omega) ?_
    refine xcutB 1 (1 + (decK u).length) rfl rfl (by omega) (by omega) ?_
    have e1 : 1 + (decK u).length - 1 = (decK u).length := by omega
    rw [if_neg (by omega), e1]
    have hfm : Ret P n_istrconv_formatBase10 [.slice (some ⟨b, 1, none⟩) (decK u).length 23, .int .u64 u] w4 fun r w' => Blk w' b (([bv 0] : List Value) ++ ((decK u).map bv ++ (List.replicate 24 (bv 0)).drop (1 + (decK u).length))) T_a24_uint8 ∧ w'.heap.size = w4.heap.size ∧ Ext (· = b) w4 w' := by
      have := c_fmt (o := 1) (cap := 23) hblk (by simp; omega) hl hp hd hu64
      rw [padK_dec rfl] at this
      exact this
    refine hfm.mono ?_
    rintro r w5 ⟨hb3, hz3, he3⟩
    refine xifF (by simp) ?_
    refine xi (r := ((1 + (decK u).length : Nat) : Int)) (by rw [wrapI (by omega)]; omega) ?_
    refine xcutB 1 (1 + (decK u).length) rfl rfl (by omega) (by omega) ?_
    rw [if_neg (by omega), e1]
    have hsl := hb3.sl (o := 1) (n := (decK u).length) (cap := 23) (by simp; omega) (by omega)
    rw [show (([bv 0] : List Value) ++ ((decK u).map bv ++ (List.replicate 24 (bv 0)).drop (1 + (decK u).length))).drop 1 = (decK u).map bv ++ (List.replicate 24 (bv 0)).drop (1 + (decK u).length) by rfl, List.take_append_of_le_length (by simp), List.take_of_length_le (by simp)] at hsl
    exact conv_str ei_u8.u t_u8 t_str hsl ⟨rfl, he.trans1 he3 (by omega)⟩
end
end Go.Proofs.YtbfnagdpanfphaaGreatDoor
end
end
section
namespace Go.Proofs.YtbfnagdpanfphaaGreatDoor
open Go Go.RowKit X
set_option linter.unusedSimpArgs false
set_option linter.unusedVariables false
set_option linter.unusedSectionVars false
theorem dom_er (kids : UInt8 → T) : (dom fun c => (kids c).er.opt) = dom (ptrs kids) := cnt_congr fun c => T.er_opt (kids c)
theorem cntE_er (kids : UInt8 → T) : cntE (fun c => (kids c).er) = cnt (ptrs kids) := by
  show (dom fun c => (kids c).er.opt).length = _
  rw [dom_er]; rfl
/-- what 'Next' tells, by the bytes that are still to come -/
abbrev nxP (m : UInt8 → Option Addr) : List UInt8 → Value
  | [] => .pointer none
  | c :: _ => .pointer (m c)
abbrev nxB : List UInt8 → Value
  | [] => .int .u8 0
  | c :: _ => bv c
theorem next2_of {m : UInt8 → Option Addr} {i : Nat} {l : List UInt8} (h : nextB m i = l.head?) : next2 m i = .tuple #[nxB l, nxP m l] := by
  unfold next2
  rw [h]
  cases l <;> rfl
theorem Tab.ext {X : Nat → Prop} {w w' : World} (h : Tab w) (e : Ext X w w') (hx : ¬ X g_istrconv_uint64pow10) : Tab w' := fun i hi => by
  have := h i hi
  have hlt : g_istrconv_uint64pow10 < w.heap.size := by
    rcases Nat.lt_or_ge g_istrconv_uint64pow10 w.heap.size with h | h
    · exact h
    · simp [World.cell?, Array.getElem?_eq_none h] at this
  have hc : w'.cell? ⟨g_istrconv_uint64pow10, i, none⟩ = w.cell? ⟨g_istrconv_uint64pow10, i, none⟩ := by
    simp only [World.cell?]
    rw [e.same _ hlt hx]
  rw [hc, this]
theorem Tab.extN {w w' : World} (h : Tab w) (e : Ext No w w') : Tab w' := h.ext e fun h => h
theorem X.Ext.big {w0 w w' : World} {B : Nat} (h : Ext No w0 w) (hB : w0.heap.size ≤ B) (e : Ext (B ≤ ·) w w') : Ext No w0 w' := h.trans e fun b hb hx => absurd (show B ≤ b from hx) (by omega)
theorem T.shape_node {a ow : Nat} {part : Key} {val : Option Nat} {ks : List Nat} {kids : UInt8 → T} : (T.node a ow part val ks kids).er.shape = if cnt (ptrs kids) = 0 then 76 :: (hexK part ++ valS val) else
      decK (kindN (cnt (ptrs kids))) ++ 60 :: (hexK part ++ (valS val ++ (((dom (ptrs kids)).flatMap fun c => 58 :: (hexB c ++ (kids c).er.shape)) ++ [62]))) := by
  show E.shape (.node part val fun c => (kids c).er) = _
  rw [E.shape, cntE_er, dom_er]
theorem kindN_pos (n : Nat) (h : n ≤ 256) : 4 ≤ kindN n ∧ kindN n ≤ 256 := by
  unfold kindN
  repeat' split
  all_goals omega
variable [Floor]
section
variable {w0 : World} {B b : Nat}
end
end Go.Proofs.YtbfnagdpanfphaaGreatDoor
end
