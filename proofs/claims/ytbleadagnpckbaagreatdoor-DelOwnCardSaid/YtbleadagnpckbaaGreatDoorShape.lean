/-  canon: a tree's shape as a text.  -/
import Derived.Test.YtbleadagnpckbaaGreatDoorHeap
import Derived.Test.YtbleadagnpckbaaGreatDoorNum
namespace Go.Proofs.YtbleadagnpckbaaGreatDoor
open Go Go.RowKit X
set_option linter.unusedSimpArgs false
set_option linter.unusedVariables false
set_option linter.unusedSectionVars false
theorem dom_er (kids : UInt8 → T) : (dom fun c => (kids c).er.opt) = dom (ptrs kids) := cnt_congr fun c => T.er_opt (kids c)
theorem cntE_er (kids : UInt8 → T) : cntE (fun c => (kids c).er) = cnt (ptrs kids) := by
  show (dom fun c => (kids c).er.opt).length = _
  rw [dom_er]; rfl
/-- what 'Next' tells, by the bytes that are still to come -/
abbrev nxP (m : UInt8 → Option Addr) : List UInt8 → Value
  | [] => .pointer none
  | c :: _ => .pointer (m c)
abbrev nxB : List UInt8 → Value
  | [] => .int .u8 0
  | c :: _ => bv c
theorem next2_of {m : UInt8 → Option Addr} {i : Nat} {l : List UInt8} (h : nextB m i = l.head?) : next2 m i = .tuple #[nxB l, nxP m l] := by
  unfold next2
  rw [h]
  cases l <;> rfl
theorem Tab.ext {X : Nat → Prop} {w w' : World} (h : Tab w) (e : Ext X w w') (hx : ¬ X g_istrconv_uint64pow10) : Tab w' := fun i hi => by
  have := h i hi
  have hlt : g_istrconv_uint64pow10 < w.heap.size := by
    rcases Nat.lt_or_ge g_istrconv_uint64pow10 w.heap.size with h | h
    · exact h
    · simp [World.cell?, Array.getElem?_eq_none h] at this
  have hc : w'.cell? ⟨g_istrconv_uint64pow10, i, none⟩ = w.cell? ⟨g_istrconv_uint64pow10, i, none⟩ := by
    simp only [World.cell?]
    rw [e.same _ hlt hx]
  rw [hc, this]
theorem Tab.extN {w w' : World} (h : Tab w) (e : Ext No w w') : Tab w' := h.ext e fun h => h
theorem X.Ext.big {w0 w w' : World} {B : Nat} (h : Ext No w0 w) (hB : w0.heap.size ≤ B) (e : Ext (B ≤ ·) w w') : Ext No w0 w' := h.trans e fun b hb hx => absurd (show B ≤ b from hx) (by omega)
theorem T.shape_node {a ow : Nat} {part : Key} {val : Option Nat} {ks : List Nat} {kids : UInt8 → T} : (T.node a ow part val ks kids).er.shape = if cnt (ptrs kids) = 0 then 76 :: (hexK part ++ valS val) else
      decK (kindN (cnt (ptrs kids))) ++ 60 :: (hexK part ++ (valS val ++ (((dom (ptrs kids)).flatMap fun c => 58 :: (hexB c ++ (kids c).er.shape)) ++ [62]))) := by
  show E.shape (.node part val fun c => (kids c).er) = _
  rw [E.shape, cntE_er, dom_er]
theorem kindN_pos (n : Nat) (h : n ≤ 256) : 4 ≤ kindN n ∧ kindN n ≤ 256 := by
  unfold kindN
  repeat' split
  all_goals omega
variable [Floor]
section
variable {w0 : World} {B b : Nat}
theorem c_shape (hT : Tab w0) (hB : w0.heap.size ≤ B) : ∀ (t : T) {w : World} {bs : List UInt8}, Tree w0 t → t.Leafy → Ext No w0 w → Bld w B b bs → bs.length + t.er.shape.length ≤ 70368744177664 →
    Ret P n_canon_shape [.pointer (some ⟨b, 0, none⟩), t.v] w fun r w' => Bld w' B b (bs ++ t.er.shape) ∧ Ext No w0 w' := by
  intro t
  induction t with
  | nil =>
    intro w bs ht hl he hb hn
    refine W_canon_shape ?_
    refine xifT rfl ?_
    refine (c_WriteString (s := [46]) hb (by simp; omega)).mono ?_
    rintro r w1 ⟨hb1, he1⟩
    exact ⟨hb1, he.big hB he1⟩
  | node na ow part val ks kids ih =>
    intro w bs ht hl he hb hn
    have hcl := cnt_le (ptrs kids)
    obtain ⟨hl1, hl2⟩ := hl
    rw [T.shape_node] at hn ⊢
    have hkind : (T.node na ow part val ks kids).kind = if cnt (ptrs kids) = 0 then 1 else kindN (cnt (ptrs kids)) := by
      show kindV ks (ptrs kids) = _
      unfold kindV
      by_cases e : ks = []
      · rw [if_pos e, if_pos (hl1.1 e)]
      · rw [if_neg e, if_neg fun h => e (hl1.2 h)]
    have hpl := ht.1.short
    have hkp := kindN_pos _ hcl
    refine W_canon_shape ?_
    refine xifF rfl ?_
    refine (c_Val (ht.extN he)).mono ?_
    rintro r w1 ⟨rfl, rfl⟩
    -- the head
    refine xj (fun vs w' => Bld w' B b (bs ++ if cnt (ptrs kids) = 0 then [76] else decK (kindN (cnt (ptrs kids))) ++ [60]) ∧ Ext No w0 w') ?_ ?_
    · refine (c_Kind (ht.extN he)).mono ?_
      rintro r w2 ⟨rfl, rfl⟩
      by_cases hc : cnt (ptrs kids) = 0
      · rw [if_pos hc] at hkind hn
        refine xifT (by rw [hkind]; rfl) ?_
        refine (c_WriteString (s := [76]) hb (by simp at hn ⊢; omega)).mono ?_
        rintro r w3 ⟨hb3, he3⟩
        rw [if_pos hc]
        exact ⟨hb3, he.big hB he3⟩
      · rw [if_neg hc] at hkind hn
        refine xifF (by rw [hkind]; simp; omega) ?_
        refine (c_Kind (ht.extN he)).mono ?_
        rintro r w3 ⟨rfl, rfl⟩
        rw [hkind]
        refine (c_Itoa (hT.extN he) (by omega)).mono ?_
        rintro r w4 ⟨rfl, he4⟩
        have hdl := decK_len (kindN (cnt (ptrs kids))) (by omega)
        refine xcat (l := decK (kindN (cnt (ptrs kids)))) (m := [60]) (by simp; omega) ?_
        have hb4 : Bld w4 B b bs := ⟨hb.ge, by have := he4.size; have := hb.le; omega, by
          obtain ⟨p, v, h1, h2, h3, h4⟩ := hb.at_
          exact ⟨p, v, h1.ext he4 fun h => h, h2, h3.extN he4, h4⟩⟩
        refine (c_WriteString hb4 (by simp at hn ⊢; omega)).mono ?_
        rintro r w5 ⟨hb5, he5⟩
        rw [if_neg hc]
        exact ⟨hb5, (he.transN he4).big hB he5⟩
    rintro vs g w2 ⟨hb2, he2⟩
    generalize hhd : (if cnt (ptrs kids) = 0 then [76] else decK (kindN (cnt (ptrs kids))) ++ [60]) = hd at hb2
    refine (c_Part (ht.extN he2)).mono ?_
    rintro pv w3 ⟨hp3, he3⟩
    have hp3 : Bs w3 pv part := hp3
    refine (c_Text hp3 (by omega)).mono ?_
    rintro r w4 ⟨rfl, he4⟩
    have hE4 := (he2.transN he3).transN he4
    have keepB : ∀ {w w' : World} {cs : List UInt8}, Bld w B b cs → Ext No w w' → Bld w' B b cs := fun {w w' cs} hb he => ⟨hb.ge, by have := he.size; have := hb.le; omega, by
      obtain ⟨p, v, h1, h2, h3, h4⟩ := hb.at_
      exact ⟨p, v, h1.ext he fun h => h, h2, h3.extN he, h4⟩⟩
    have hhl : hd.length ≤ 21 := by
      rw [← hhd]; split
      · simp
      · have := decK_len (kindN (cnt (ptrs kids))) (by omega)
        simp; omega
    have hvl : (valS val).length ≤ 21 := by
      cases val with
      | none => simp [valS]
      | some v =>
        have := decK_len v (ht.1.v64 v rfl)
        simp [valS]; omega
    have hxl := hexK_length part
    have hbsl : bs.length ≤ 70368744177664 := by omega
    refine (c_WriteString (keepB hb2 (he3.transN he4)) (by simp; omega)).mono ?_
    rintro r w5 ⟨hb5, he5⟩
    have hE5 := hE4.big hB he5
    refine xj (fun vs w' => Bld w' B b (bs ++ hd ++ hexK part ++ valS val) ∧ Ext No w0 w') ?_ ?_
    · cases val with
      | none => exact xifF rfl ⟨by simpa [valS] using hb5, hE5⟩
      | some v =>
        refine xifT rfl ?_
        have hv := ht.1.v64 v rfl
        refine (c_FormatUint (hT.extN hE5) hv).mono ?_
        rintro r w6 ⟨rfl, he6⟩
        have hdl := decK_len v hv
        refine xcat (l := [61]) (m := decK v) (by simp; omega) ?_
        refine (c_WriteString (keepB hb5 he6) (by simp; omega)).mono ?_
        rintro r w7 ⟨hb7, he7⟩
        exact ⟨hb7, (hE5.transN he6).big hB he7⟩
    rintro vs g w6 ⟨hb6, hE6⟩
    refine (c_Kind (ht.extN hE6)).mono ?_
    rintro r w7 ⟨rfl, rfl⟩
    by_cases hc : cnt (ptrs kids) = 0
    · rw [if_pos hc] at hkind hhd
      refine xifT (by rw [hkind]; rfl) ⟨?_, hE6⟩
      rw [if_pos hc]
      subst hhd
      simpa using hb6
    · rw [if_neg hc] at hkind hhd hn
      refine xifF (by rw [hkind]; simp; omega) ?_
      rw [if_neg hc]
      refine (c_Next (ht.extN hE6) (i := 0) (by omega)).mono ?_
      rintro r w8 ⟨rfl, he8⟩
      have hnx0 : next2 (ptrs (T.node na ow part val ks kids).kid) 0 = .tuple #[nxB (dom (ptrs kids)), nxP (ptrs kids) (dom (ptrs kids))] := next2_of (nextB_zero _)
      rw [hnx0]
      have hall : bs.length + (hd ++ hexK part ++ valS val).length + ((dom (ptrs kids)).flatMap fun c => 58 :: (hexB c ++ (kids c).er.shape)).length + 1 ≤ 70368744177664 := by
        subst hhd
        simp at hn ⊢
        omega
      refine xloop (fun nn vs w' => ∃ (d rest : List UInt8), vs = [nxP (ptrs kids) rest, nxB rest] ∧ nn = rest.length ∧ dom (ptrs kids) = d ++ rest ∧ Bld w' B b (bs ++ hd ++ hexK part ++ valS val ++ d.flatMap fun c => 58 :: (hexB c ++ (kids c).er.shape)) ∧ Ext No w0 w') (dom (ptrs kids)).length
        ⟨[], _, rfl, rfl, rfl, by simpa using keepB hb6 he8, hE6.transN he8⟩ ?_
      rintro nn vs g w9 ⟨d, rest, rfl, rfl, hdr, hb9, hE9⟩
      unfold S_canon_shape_l1
      cases rest with
      | nil =>
        rw [List.append_nil] at hdr
        have hn0 : ∀ K : Value → Prop, K (.bool false) → xPNe P w9 (nxP (ptrs kids) []) (.pointer none) K := fun K k => k
        refine hn0 _ ?_
        refine xifF rfl ?_
        have hbl : (bs ++ hd ++ hexK part ++ valS val ++ d.flatMap fun c => 58 :: (hexB c ++ (kids c).er.shape)).length + 1 ≤ 70368744177664 := by
          rw [← hdr]
          simp only [List.length_append] at hall ⊢
          omega
        refine (c_WriteString (s := [62]) hb9 (by simp at hbl ⊢; omega)).mono ?_
        rintro r w10 ⟨hb10, he10⟩
        refine ⟨?_, hE9.big hB he10⟩
        subst hhd
        rw [hdr]
        simpa using hb10
      | cons c rest =>
        have hcd : c ∈ dom (ptrs kids) := by rw [hdr]; simp
        have hcs : (kids c).ptr.isSome := dom_mem.1 hcd
        obtain ⟨ka, hka⟩ := Option.isSome_iff_exists.1 hcs
        have hbl : (bs ++ hd ++ hexK part ++ valS val ++ d.flatMap fun c => 58 :: (hexB c ++ (kids c).er.shape)).length + 3 + (kids c).er.shape.length ≤ 70368744177664 := by
          have : ((dom (ptrs kids)).flatMap fun c => 58 :: (hexB c ++ (kids c).er.shape)).length = (d.flatMap fun c => 58 :: (hexB c ++ (kids c).er.shape)).length + (3 + (kids c).er.shape.length) + (rest.flatMap fun c => 58 :: (hexB c ++ (kids c).er.shape)).length := by
            rw [hdr]
            simp [hexB]
            omega
          rw [this] at hall
          simp only [List.length_append] at hall ⊢
          omega
        have hne : ∀ K : Value → Prop, K (.bool true) → xPNe P w9 (nxP (ptrs kids) (c :: rest)) (.pointer none) K := fun K k => by
          show xPNe P w9 (.pointer (kids c).ptr) (.pointer none) K
          rw [hka]; exact k
        refine hne _ ?_
        refine xifT rfl ?_
        show XNew w9 [bv c] T_uint8 _
        refine xnew fun a w10 ha hblk hz he10 => ?_
        have hbs : Bs w10 (.slice (some ⟨a, 0, none⟩) 1 1) [c] := by
          have := hblk.sl (o := 0) (n := 1) (cap := 1) (by simp) (Nat.le_refl _)
          exact Bs.of (by simpa using this)
        refine (c_Text hbs (by simp)).mono ?_
        rintro r w11 ⟨rfl, he11⟩
        have hx1 : hexK [c] = hexB c := by simp [hexK]
        rw [hx1]
        refine xcat (l := [58]) (m := hexB c) (by simp [hexB]) ?_
        refine (c_WriteString (keepB hb9 (he10.transN he11)) (by simp [hexB] at hbl ⊢; omega)).mono ?_
        rintro r w12 ⟨hb12, he12⟩
        have hE12 := ((hE9.transN he10).transN he11).big hB he12
        refine (ih c (ht.2 c) (hl2 c) hE12 hb12 (by simp [hexB] at hbl ⊢; omega)).mono ?_
        rintro r w13 ⟨hb13, hE13⟩
        refine xi (r := (c.toNat : Int)) (wrapI (by have := u8_lt c; omega)) ?_
        refine xi (r := ((c.toNat + 1 : Nat) : Int)) (by have := u8_lt c; rw [wrapI (by omega)]; omega) ?_
        refine (c_Next (ht.extN hE13) (i := c.toNat + 1) (by have := u8_lt c; omega)).mono ?_
        rintro r w14 ⟨rfl, he14⟩
        have hnx : next2 (ptrs (T.node na ow part val ks kids).kid) (c.toNat + 1) = .tuple #[nxB rest, nxP (ptrs kids) rest] := next2_of (nextB_succ hdr)
        rw [hnx]
        refine xnext rest.length (by simp) ⟨d ++ [c], rest, rfl, rfl, by rw [hdr]; simp, ?_, hE13.transN he14⟩
        have := keepB hb13 he14
        simpa using this
end
theorem c_Shape {w : World} {t : T} (hT : Tab w) (ht : Tree w t) (hl : t.Leafy) (hn : t.er.shape.length ≤ 70368744177664) : Ret P n_canon_Shape [t.v] w fun r w' => r = str t.er.shape ∧ Ext No w w' := by
  refine W_canon_Shape ?_
  refine xnew fun b w1 hb hblk hz he => ?_
  refine (c_shape (B := w.heap.size) hT (Nat.le_refl _) t ht hl he (Bld.fresh hblk (by omega)) (by simpa using hn)).mono ?_
  rintro r w2 ⟨hb2, he2⟩
  rw [List.nil_append] at hb2
  refine (c_String hb2 ?_).mono ?_
  · cases t with
    | nil => intro h; cases h
    | node a ow part val ks kids =>
      rw [T.shape_node]
      split
      · intro h; cases h
      · intro h; simp at h
  · rintro r w3 ⟨rfl, he3⟩
    exact ⟨rfl, he2.big (Nat.le_refl _) he3⟩
end Go.Proofs.YtbleadagnpckbaaGreatDoor
