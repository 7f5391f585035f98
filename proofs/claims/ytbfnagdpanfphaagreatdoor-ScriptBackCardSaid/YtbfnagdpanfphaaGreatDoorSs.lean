/-  strings: an iterator, the bytes of a string, Index, Cut, Count, Split, Join.  -/
import Derived.Test.YtbfnagdpanfphaaGreatDoorStr
import Derived.Test.YtbfnagdpanfphaaGreatDoorPs
import Derived.Test.YtbfnagdpanfphaaGreatDoorRefK
import Derived.Lib.OthersKept
import Derived.Lib.MakeNoZero
import Derived.Lib.ConvBytes
section
namespace Go.Proofs.YtbfnagdpanfphaaGreatDoor
open Go Go.RowKit X
set_option linter.unusedSimpArgs false
set_option linter.unusedVariables false
set_option linter.unusedSectionVars false
/-! ### plain -/
def joinC (c : UInt8) : List (List UInt8) → List UInt8
  | [] => []
  | [p] => p
  | p :: q :: r => p ++ c :: joinC c (q :: r)
theorem joinC_cons {c : UInt8} {p : List UInt8} {ps : List (List UInt8)} (h : ps ≠ []) : joinC c (p :: ps) = p ++ c :: joinC c ps := by
  cases ps with
  | nil => exact absurd rfl h
  | cons q r => rfl
def sumL (ps : List (List UInt8)) : Nat := (ps.map List.length).sum
theorem joinC_length {c : UInt8} : ∀ {ps : List (List UInt8)}, ps ≠ [] → (joinC c ps).length = sumL ps + (ps.length - 1)
  | [], h => absurd rfl h
  | [p], _ => by simp [joinC, sumL]
  | p :: q :: r, _ => by
    have := joinC_length (c := c) (ps := q :: r) (by simp)
    rw [joinC, List.length_append, List.length_cons, this]
    simp [sumL]
    omega
theorem joinC_snoc {c : UInt8} {p : List UInt8} : ∀ {ps : List (List UInt8)}, ps ≠ [] → joinC c (ps ++ [p]) = joinC c ps ++ c :: p
  | [], h => absurd rfl h
  | [q], _ => rfl
  | a :: q :: r, _ => by
    have := joinC_snoc (c := c) (p := p) (ps := q :: r) (by simp)
    show a ++ c :: joinC c (q :: r ++ [p]) = _
    rw [this, joinC]
    simp
theorem joinC_count {c : UInt8} : ∀ {ps : List (List UInt8)}, ps ≠ [] → (∀ p ∈ ps, c ∉ p) → (joinC c ps).count c = ps.length - 1
  | [], h, _ => absurd rfl h
  | [p], _, h => by
    show p.count c = 0
    exact List.count_eq_zero.2 (h p (by simp))
  | p :: q :: r, _, h => by
    have := joinC_count (c := c) (ps := q :: r) (by simp) fun x hx => h x (List.mem_cons_of_mem _ hx)
    rw [joinC, List.count_append, List.count_cons, this, List.count_eq_zero.2 (h p (by simp))]
    simp
theorem drop_last {α : Type} {ps : List α} (h : ps ≠ []) : ps.drop (ps.length - 1) = [ps.getLast h] := by
  have hn : 0 < ps.length := List.length_pos_iff.2 h
  rw [List.drop_eq_getElem_cons (by omega), List.getLast_eq_getElem, List.drop_eq_nil_of_le (by omega)]
theorem joinC_le {c : UInt8} {ps : List (List UInt8)} : ps.length ≤ (joinC c ps).length + 1 := by
  cases ps with
  | nil => simp
  | cons p r => have := joinC_length (c := c) (ps := p :: r) (by simp); simp at this ⊢; omega
theorem sumL_take {ps : List (List UInt8)} {i : Nat} (h : i < ps.length) : sumL (ps.take (i + 1)) = sumL (ps.take i) + ps[i].length := by
  unfold sumL
  rw [← List.take_append_getElem h, List.map_append, List.sum_append]
  simp
theorem sumL_le {ps : List (List UInt8)} {i : Nat} : sumL (ps.take i) ≤ sumL ps := by
  unfold sumL
  conv => rhs; rw [← List.take_append_drop i ps]
  rw [List.map_append, List.sum_append]
  omega
theorem ixB_none {c : UInt8} : ∀ {s : List UInt8}, c ∉ s → Lib.indexByte s c = -1
  | [], _ => rfl
  | x :: r, h => by
    have h1 : (x == c) = false := by simp; exact fun e => h (by simp [e])
    have := ixB_none (s := r) fun e => h (List.mem_cons_of_mem _ e)
    unfold Lib.indexByte
    rw [h1, this]
    rfl
theorem ixB_at {c : UInt8} {b : List UInt8} : ∀ {a : List UInt8}, c ∉ a → Lib.indexByte (a ++ c :: b) c = a.length
  | [], _ => by simp [Lib.indexByte]
  | x :: r, h => by
    have h1 : (x == c) = false := by simp; exact fun e => h (by simp [e])
    have := ixB_at (b := b) (a := r) fun e => h (List.mem_cons_of_mem _ e)
    show Lib.indexByte (x :: (r ++ c :: b)) c = _
    unfold Lib.indexByte
    rw [h1, this]
    have h2 : ((r.length : Int) == -1) = false := by
      rw [beq_eq_false_iff_ne]; omega
    rw [h2]
    simp
variable [Floor]
section
variable {w w' : World} {s : List UInt8}
/-! ### an iterator over a string -/
def It (w : World) (b : Nat) (s : List UInt8) (i : Nat) : Prop := w.heap[b]? = some (.stringIter ⟨s.toArray⟩ i)
theorem It.lt {b i : Nat} (h : It w b s i) : b < w.heap.size := lt_of_get h
theorem It.ext {X : Nat → Prop} {b i : Nat} (h : It w b s i) (e : Ext X w w') (hx : ¬ X b) : It w' b s i := by
  unfold It at *
  rw [e.same b (lt_of_get h) hx]; exact h
theorem It.ne {b i b' : Nat} {cs : List Value} {T : TypeId} (h : It w b s i) (h' : Blk w b' cs T) : b ≠ b' := by
  intro e
  subst e
  have := (show w.heap[b]? = some _ from h).symm.trans h'.h
  cases this
theorem xrange {K : Value → World → Prop} (k : ∀ b w1, b = w.heap.size → w1.heap.size = b + 1 → It w1 b s 0 → Ext No w w1 → K (.pointer (some ⟨b, 0, none⟩)) w1) : XRun P (Instr.range T_string (str s)) w K := by
  refine ⟨_, _, run_range_string (P := P) w T_string ⟨s.toArray⟩ t_str, k w.heap.size _ rfl (by simp [World.iter]) (by unfold It; show (w.heap.push _)[w.heap.size]? = _; simp) ⟨rfl, rfl, rfl, by simp [World.iter], fun b hb _ => ?_⟩⟩
  show (w.heap.push _)[b]? = _
  rw [Array.getElem?_push, if_neg (by omega)]
theorem xnextA {K : Value → World → Prop} {b i : Nat} {ty : TypeId} (h : It w b s i) (hi : i < s.length) (ha : s[i].toNat < 128)
    (k : ∀ w1, It w1 b s (i + 1) → w1.heap.size = w.heap.size → Ext (· = b) w w1 → K (.tuple #[.bool true, .int .i64 i, .int .i32 s[i].toNat]) w1) : XRun P (Instr.next (.pointer (some ⟨b, 0, none⟩)) true ty) w K := by
  have hi' : i < (ByteArray.mk s.toArray).size := by simpa [ByteArray.size] using hi
  refine ⟨_, _, Lib.run_next_ascii_at (P := P) w b ⟨s.toArray⟩ i ty h hi' ha, k _ (Lib.iterAt_heap w b _ i (i + 1) h) (by simp [World.iterAt]) ⟨rfl, rfl, rfl, by simp [World.iterAt], fun c hc hx => ?_⟩⟩
  show (w.heap.setIfInBounds b _)[c]? = _
  rw [Array.getElem?_setIfInBounds, if_neg (Ne.symm hx)]
theorem xnextE {K : Value → World → Prop} {b i : Nat} {ty : TypeId} (h : It w b s i) (hi : s.length ≤ i) (k : K (.tuple #[.bool false]) w) : XRun P (Instr.next (.pointer (some ⟨b, 0, none⟩)) true ty) w K :=
  ⟨_, _, Lib.run_next_end_at (P := P) w b ⟨s.toArray⟩ i ty h (by simp [ByteArray.size]; omega), k⟩
/-! ### the bytes of a string -/
theorem xbytes {K : Value → World → Prop} (k : ∀ v w1, Bs w1 v s → Ext No w w1 → K v w1) : XRun P (convert T_string T_s_uint8 (str s)) w K := by
  have hr := Lib.run_convert_string_bytes (P := P) w T_string T_s_uint8 T_uint8 ⟨s.toArray⟩ t_str ei_u8.u t_u8
  have hge := grownCap_ge w s.length 0 T_uint8
  have hsz : (ByteArray.mk s.toArray).size = s.length := by simp [ByteArray.size]
  rw [hsz] at hr
  refine ⟨_, _, hr, k _ _ ?_ ⟨?_, ?_, ?_, ?_, ?_⟩⟩
  · refine Bs.of ⟨_, _, rfl, by simp, hge, .inr ⟨_, 0, _, _, _, rfl, rfl, Lib.bytesWorld_at_new w T_uint8 _, ?_, fun i hi => ?_⟩⟩
    · simp [Lib.bytesCells, hsz]; omega
    · have hi : i < s.length := by simpa using hi
      simp [Lib.bytesCells, Array.getElem?_append, hi]
  · unfold Lib.bytesWorld World.freeze; split <;> rfl
  · unfold Lib.bytesWorld World.freeze; split <;> rfl
  · unfold Lib.bytesWorld World.freeze; split <;> rfl
  · rw [Lib.bytesWorld_size]; omega
  · exact fun b hb _ => Lib.bytesWorld_at_old w T_uint8 _ b hb
/-! ### Index, Cut, Count -/
set_option maxRecDepth 100000 in
theorem c_IndexByte {c : UInt8} : Ret P n_stringslite_IndexByte [str s, bv c] w fun r w' => r = .int .i64 (Lib.indexByte s c) ∧ w' = w := by
  refine W_stringslite_IndexByte ?_
  refine xext (e := Extern.BytealgIndexByte.indexByte) (by kernel_rfl) (by kernel_rfl) (by kernel_rfl) ?_
  refine ⟨_, _, Lib.run_indexByteString (P := P) ⟨s.toArray⟩ c.toNat w, ?_⟩
  simp
theorem c_SIndexByte {c : UInt8} : Ret P n_strings_IndexByte [str s, bv c] w fun r w' => r = .int .i64 (Lib.indexByte s c) ∧ w' = w := by
  refine W_strings_IndexByte ?_
  exact c_IndexByte
theorem c_slIndex {c : UInt8} : Ret P n_stringslite_Index [str s, str [c]] w fun r w' => r = .int .i64 (Lib.indexByte s c) ∧ w' = w := by
  refine W_stringslite_Index ?_
  refine xlens ?_
  refine xj (fun vs w' => vs = [.bool (decide ([c] = s))] ∧ w' = w) ?_ ?_
  · refine xifF (by simp) ?_
    exact xseq ⟨rfl, rfl⟩
  rintro vs g w1 ⟨rfl, rfl⟩
  refine xifD (fun h => ?_) fun h => ?_
  · subst h
    exact ⟨by rw [show Lib.indexByte [c] c = 0 from ixB_at (a := []) (b := []) (by simp)], rfl⟩
  · refine xifT (by simp) ?_
    refine xixstr 0 c rfl rfl ?_
    exact c_IndexByte
theorem c_sIndex {c : UInt8} : Ret P n_strings_Index [str s, str [c]] w fun r w' => r = .int .i64 (Lib.indexByte s c) ∧ w' = w := by
  refine W_strings_Index ?_
  exact c_slIndex
theorem xcutstr {l : List UInt8} {kd kd' : IntKind} {i j : Int} {K : Value → Prop} (n m : Nat) (hi : i = (n : Int)) (hj : j = (m : Int)) (h1 : n ≤ m) (h2 : m ≤ l.length) (k : K (str ((l.take m).drop n))) :
    xCutStr (str l) (some (.int kd i)) (some (.int kd' j)) K := by
  refine xcutB n m hi hj h1 (by simpa [ByteArray.size] using h2) ?_
  have : (ByteArray.mk l.toArray).extract n m = ⟨((l.take m).drop n).toArray⟩ := by
    apply ByteArray.ext
    simp [ByteArray.extract, ByteArray.copySlice, ByteArray.size, List.drop_take]
  rw [this]; exact k
theorem xcutstrL {l : List UInt8} {kd : IntKind} {i : Int} {K : Value → Prop} (n : Nat) (hi : i = (n : Int)) (h : n ≤ l.length) (k : K (str (l.drop n))) : xCutStr (str l) (some (.int kd i)) none K := by
  have hsz : (ByteArray.mk l.toArray).size = l.length := by simp [ByteArray.size]
  refine xcutL n hi (by omega) ?_
  have : (ByteArray.mk l.toArray).extract n (ByteArray.mk l.toArray).size = ⟨(l.drop n).toArray⟩ := by
    apply ByteArray.ext
    simp [ByteArray.extract, ByteArray.copySlice, ByteArray.size]
    exact List.take_of_length_le (by simp)
  rw [this]; exact k
theorem xcutstrH {l : List UInt8} {kd : IntKind} {i : Int} {K : Value → Prop} (n : Nat) (hi : i = (n : Int)) (h : n ≤ l.length) (k : K (str (l.take n))) : xCutStr (str l) none (some (.int kd i)) K := by
  have hsz : (ByteArray.mk l.toArray).size = l.length := by simp [ByteArray.size]
  refine xcutH n hi (by omega) ?_
  have : (ByteArray.mk l.toArray).extract 0 n = ⟨(l.take n).toArray⟩ := by
    apply ByteArray.ext
    simp [ByteArray.extract, ByteArray.copySlice, ByteArray.size]
  rw [this]; exact k
theorem c_Cut1 {c : UInt8} {a b : List UInt8} (h : c ∉ a) (hl : a.length + b.length ≤ 4611686018427387904) : Ret P n_strings_Cut [str (a ++ c :: b), str [c]] w fun r w' => r = .tuple #[str a, str b, .bool true] ∧ Ext No w w' := by
  refine W_strings_Cut ?_
  refine Ret.mono (R := fun r w' => r = .tuple #[str a, str b, .bool true] ∧ Ext No w w') (W_stringslite_Cut ?_) fun r w' ⟨hr, he⟩ => by subst hr; exact ⟨rfl, he⟩
  refine c_slIndex.mono ?_
  rintro r w1 ⟨rfl, rfl⟩
  rw [ixB_at h]
  refine xifT (by simp) ?_
  refine xcutstrH a.length rfl (by simp) ?_
  refine xlens ?_
  refine xi (r := ((a.length + 1 : Nat) : Int)) (by rw [wrapI (by simp; omega)]; simp) ?_
  refine xcutstrL (a.length + 1) rfl (by simp) ?_
  refine ⟨?_, (Ext.refl No w1).drew⟩
  simp
theorem c_Cut0 {c : UInt8} (h : c ∉ s) : Ret P n_strings_Cut [str s, str [c]] w fun r w' => r = .tuple #[str s, str [], .bool false] ∧ Ext No w w' := by
  refine W_strings_Cut ?_
  refine Ret.mono (R := fun r w' => r = .tuple #[str s, str [], .bool false] ∧ Ext No w w') (W_stringslite_Cut ?_) fun r w' ⟨hr, he⟩ => by subst hr; exact ⟨rfl, he⟩
  refine c_slIndex.mono ?_
  rintro r w1 ⟨rfl, rfl⟩
  rw [ixB_none h]
  exact xifF (by simp) ⟨rfl, Ext.refl _ _⟩
set_option maxRecDepth 100000 in
theorem c_Count {c : UInt8} : Ret P n_strings_Count [str s, str [c]] w fun r w' => r = .int .i64 (s.count c : Nat) ∧ w' = w := by
  refine W_strings_Count ?_
  refine xlens ?_
  refine xifF (by simp) ?_
  refine xlens ?_
  refine xifT (by simp) ?_
  refine xixstr 0 c rfl rfl ?_
  refine xext (e := Extern.BytealgCount.count) (by kernel_rfl) (by kernel_rfl) (by kernel_rfl) ?_
  refine ⟨_, _, Lib.run_countString (P := P) ⟨s.toArray⟩ c.toNat w, ?_⟩
  simp [Lib.countByte]
theorem c_CutPrefix1 {a b : List UInt8} (hl : a.length + b.length ≤ 4611686018427387904) : Ret P n_strings_CutPrefix [str (a ++ b), str a] w fun r w' => r = .tuple #[str b, .bool true] ∧ w' = w := by
  refine W_strings_CutPrefix ?_
  refine Ret.mono (R := fun r w' => r = .tuple #[str b, .bool true] ∧ w' = w) (W_stringslite_CutPrefix ?_) fun r w' ⟨hr, he⟩ => by subst hr; exact ⟨rfl, he⟩
  refine Ret.mono (R := fun r w' => r = .bool true ∧ w' = w) (W_stringslite_HasPrefix ?_) fun r w' ⟨hr, he⟩ => ?_
  · refine xj (fun vs w' => vs = [.bool true] ∧ w' = w) ?_ ?_
    · refine xlens (xlens ?_)
      refine xifT (by simp; omega) ?_
      refine xlens ?_
      refine xcutstrH a.length rfl (by simp) ?_
      rw [List.take_left]
      exact xseq ⟨by simp, rfl⟩
    rintro vs g w1 ⟨rfl, rfl⟩
    exact ⟨rfl, rfl⟩
  · subst hr; subst he
    refine xifF rfl ?_
    refine xlens ?_
    refine xcutstrL a.length rfl (by simp) ?_
    rw [List.drop_left]
    exact ⟨rfl, rfl⟩
theorem c_CutPrefix0 {a : List UInt8} (h : ¬ a <+: s) : Ret P n_strings_CutPrefix [str s, str a] w fun r w' => r = .tuple #[str s, .bool false] ∧ w' = w := by
  refine W_strings_CutPrefix ?_
  refine Ret.mono (R := fun r w' => r = .tuple #[str s, .bool false] ∧ w' = w) (W_stringslite_CutPrefix ?_) fun r w' ⟨hr, he⟩ => by subst hr; exact ⟨rfl, he⟩
  refine Ret.mono (R := fun r w' => r = .bool false ∧ w' = w) (W_stringslite_HasPrefix ?_) fun r w' ⟨hr, he⟩ => ?_
  · refine xj (fun vs w' => vs = [.bool false] ∧ w' = w) ?_ ?_
    · refine xlens (xlens ?_)
      refine xifD (fun hge => ?_) fun hge => ⟨rfl, rfl⟩
      refine xlens ?_
      refine xcutstrH a.length rfl (by omega) ?_
      refine xseq ⟨?_, rfl⟩
      rw [decide_eq_false fun e => h (by rw [← e]; exact List.take_prefix _ _)]
    rintro vs g w1 ⟨rfl, rfl⟩
    exact ⟨rfl, rfl⟩
  · subst hr; subst he
    exact xifT rfl ⟨rfl, rfl⟩
/-! ### Split -/
theorem ei_str : EI P T_s_string T_string 1 16 (.string ⟨#[]⟩) := ⟨by kernel_rfl, by kernel_rfl, by rfl, by omega⟩
/-- a slice of these strings -/
def Ss (w : World) (v : Value) (ps : List (List UInt8)) : Prop := Sl w (tyQ T_string) v 1 ps.length (ps.map str)
theorem Ss.extN {v : Value} {ps : List (List UInt8)} (h : Ss w v ps) (e : Ext No w w') : Ss w' v ps := Sl.extN h e
theorem Ss.len {v : Value} {ps : List (List UInt8)} {K : Value → Prop} (h : Ss w v ps) (k : K (.int .i64 ps.length)) : xLen v K := xLen_sl h k
theorem Ss.rd {v : Value} {ps : List (List UInt8)} {K : Value → Prop} {kd : IntKind} {i : Int} (h : Ss w v ps) (m : Nat) (hm : m < ps.length) (hi : i = (m : Int)) (k : K (str ps[m])) :
    xIxS v (.int kd i) 1 fun u => xAt u fun a => XLd w a K := Sl.rd1 h m hi hm (by simp [hm]) k
theorem Ss.drop {v : Value} {ps : List (List UInt8)} {K : Value → Prop} {kd : IntKind} {i : Int} (h : Ss w v ps) (l : Nat) (hi : i = (l : Int)) (hl : l ≤ ps.length) (k : ∀ v', Ss w v' (ps.drop l) → K v') : xCutS 1 v (some (.int kd i)) none none K :=
  Sl.cutL h l hi hl fun v' hv => k v' (by
    unfold Ss
    rw [List.length_drop, List.map_drop]
    simpa using hv)
theorem Ss.take {v : Value} {ps : List (List UInt8)} {K : Value → Prop} {kd : IntKind} {i : Int} (h : Ss w v ps) (l : Nat) (hi : i = (l : Int)) (hl : l ≤ ps.length) (k : ∀ v', Ss w v' (ps.take l) → K v') : xCutS 1 v none (some (.int kd i)) none K :=
  Sl.cutH h l hi hl fun v' hv => k v' (by
    unfold Ss
    rw [List.length_take, Nat.min_eq_left hl, List.map_take]
    simpa using hv)
theorem xst1 {b n cap m : Nat} {cs : List Value} {T : TypeId} {kd : IntKind} {i : Int} {x : Value} {K : World → Prop} (h : Blk w b cs T) (hi : i = (m : Int)) (hm : m < n) (hc : m < cs.length) (hx : x.oneCell' = true)
    (k : ∀ w1, Blk w1 b (cs.set m x) T → w1.heap.size = w.heap.size → Ext (· = b) w w1 → K w1) : xIxS (.slice (some ⟨b, 0, none⟩) n cap) (.int kd i) 1 fun u => xAt u fun a => XSt w a x K := by
  refine ⟨m, hi, hm, ?_⟩
  show XSt w ((⟨b, 0, none⟩ : Addr).add (m * 1)) x K
  rw [Addr.add_lit, Nat.mul_one, Nat.zero_add]
  exact h.st hc hx k
theorem c_Split {c : UInt8} {ps : List (List UInt8)} (h0 : ps ≠ []) (hc : ∀ p ∈ ps, c ∉ p) (hl : (joinC c ps).length ≤ 1099511627776) : Ret P n_strings_Split [str (joinC c ps), str [c]] w fun r w' => Ss w' r ps ∧ Ext No w w' := by
  refine W_strings_Split ?_
  refine Ret.mono (R := fun r w' => Ss w' r ps ∧ Ext No w w') (W_strings_genSplit ?_) fun r w' h => h
  have hn : 0 < ps.length := List.length_pos_iff.2 h0
  have hle := joinC_le (c := c) (ps := ps)
  refine xifF (by simp) ?_
  refine xseq ?_
  refine xifF (by simp) ?_
  refine xj (fun vs w' => vs = [.int .i64 (ps.length : Nat)] ∧ w' = w) ?_ ?_
  · refine xifT (by simp) ?_
    refine c_Count.mono ?_
    rintro r w1 ⟨rfl, rfl⟩
    rw [joinC_count h0 hc]
    exact xi (r := ((ps.length : Nat) : Int)) (by rw [wrapI (by omega)]; omega) ⟨rfl, rfl⟩
  rintro vs g w1 ⟨rfl, rfl⟩
  refine xlens ?_
  refine xi (r := (((joinC c ps).length + 1 : Nat) : Int)) (by rw [wrapI (by omega)]; omega) ?_
  have hmin : (if (((joinC c ps).length + 1 : Nat) : Int) < ((ps.length : Nat) : Int) then (((joinC c ps).length + 1 : Nat) : Int) else ((ps.length : Nat) : Int)) = ((ps.length : Nat) : Int) := by
    rw [if_neg (by omega)]
  show XRun P (Instr.makeSlice T_s_string (.int .i64 (if (((joinC c ps).length + 1 : Nat) : Int) < ((ps.length : Nat) : Int) then (((joinC c ps).length + 1 : Nat) : Int) else ((ps.length : Nat) : Int))) (.int .i64 (if (((joinC c ps).length + 1 : Nat) : Int) < ((ps.length : Nat) : Int) then (((joinC c ps).length + 1 : Nat) : Int) else ((ps.length : Nat) : Int)))) w1 _
  rw [hmin]
  refine make_own ei_str rfl rfl (Nat.le_refl _) (by omega) (by omega) fun b w2 hb hz hblk he => ?_
  refine xi (r := ((ps.length - 1 : Nat) : Int)) (by rw [wrapI (by omega)]; omega) ?_
  refine xj (fun vs w' => ∃ x, vs = [x, str (ps.getLast h0), .int .i64 (ps.length - 1 : Nat)] ∧ Ext No w1 w' ∧ Blk w' b ((ps.take (ps.length - 1)).map str ++ [str []]) T_string) ?_ ?_
  · refine xloop (fun n vs w' => ∃ (i : Nat) (x : Value), vs = [.int .i64 i, str (joinC c (ps.drop i)), x] ∧ i ≤ ps.length - 1 ∧ n = ps.length - 1 - i ∧ Ext No w1 w' ∧ Blk w' b ((ps.take i).map str ++ repL [str []] (ps.length - i)) T_string) (ps.length - 1) ⟨0, _, rfl, by omega, rfl, he, hblk⟩ ?_
    rintro n vs g w3 ⟨i, x, rfl, hi, rfl, he3, hb3⟩
    refine xifD (fun hlt => ?_) fun hge => ?_
    · have hil : i < ps.length := by omega
      have hd : ps.drop i = ps[i] :: ps.drop (i + 1) := List.drop_eq_getElem_cons hil
      have hne : ps.drop (i + 1) ≠ [] := by simp; omega
      have hj : joinC c (ps.drop i) = ps[i] ++ c :: joinC c (ps.drop (i + 1)) := by rw [hd, joinC_cons hne]
      have hlen : (joinC c (ps.drop i)).length ≤ (joinC c ps).length := by
        rw [joinC_length h0, joinC_length (by simp; omega)]
        have e : sumL (ps.drop i) ≤ sumL ps := by
          unfold sumL
          conv => rhs; rw [← List.take_append_drop i ps]
          rw [List.map_append, List.sum_append]
          omega
        simp; omega
      refine c_sIndex.mono ?_
      rintro r w4 ⟨rfl, rfl⟩
      have hnc : c ∉ ps[i] := hc _ (List.getElem_mem hil)
      rw [hj] at hlen ⊢
      rw [ixB_at hnc]
      refine xifF (by simp) ?_
      simp at hlen
      refine xi (r := ((ps[i].length : Nat) : Int)) (by rw [wrapI (by omega)]; omega) ?_
      refine xcutstrH ps[i].length rfl (by simp) ?_
      rw [List.take_left]
      refine xst1 hb3 rfl hil (by rw [List.length_append, repL_length]; simp; omega) rfl fun w5 hb5 hz5 he5 => ?_
      refine xlens ?_
      refine xi (r := ((ps[i].length + 1 : Nat) : Int)) (by rw [wrapI (by simp; omega)]; simp) ?_
      refine xcutstrL (ps[i].length + 1) rfl (by simp) ?_
      refine xi (r := ((i + 1 : Nat) : Int)) (by rw [wrapI (by omega)]; omega) ?_
      refine xnext (ps.length - 1 - (i + 1)) (by omega) ⟨i + 1, .int .i64 ps[i].length, ?_, by omega, rfl, he3.trans1 he5 (by omega), ?_⟩
      · simp
      · have e : ((ps.take i).map str ++ repL [str []] (ps.length - i)).set i (str ps[i]) = (ps.take (i + 1)).map str ++ repL [str []] (ps.length - (i + 1)) := by
          rw [List.set_append_right _ _ (by simp; omega)]
          have e1 : i - ((ps.take i).map str).length = 0 := by simp; omega
          rw [e1, show ps.length - i = (ps.length - (i + 1)) + 1 by omega]
          show List.map str (ps.take i) ++ str ps[i] :: repL [str []] (ps.length - (i + 1)) = _
          rw [← List.take_append_getElem hil, List.map_append, List.append_assoc]
          rfl
        rw [← e]; exact hb5
    · have : i = ps.length - 1 := by omega
      subst this
      refine ⟨x, ?_, he3, ?_⟩
      · have : ps.drop (ps.length - 1) = [ps.getLast h0] := drop_last h0
        rw [this]; rfl
      · have : ps.length - (ps.length - 1) = 1 := by omega
        rw [this] at hb3
        exact hb3
  rintro vs g w3 ⟨x, rfl, he3, hb3⟩
  refine xst1 hb3 rfl (by omega) (by simp) rfl fun w5 hb5 hz5 he5 => ?_
  refine xi (r := ((ps.length : Nat) : Int)) (by rw [wrapI (by omega)]; omega) ?_
  have e : ((ps.take (ps.length - 1)).map str ++ [str []]).set (ps.length - 1) (str (ps.getLast h0)) = ps.map str := by
    rw [List.set_append_right _ _ (by simp)]
    have e1 : ps.length - 1 - ((ps.take (ps.length - 1)).map str).length = 0 := by simp
    rw [e1]
    have := List.take_append_drop (ps.length - 1) ps
    rw [drop_last h0] at this
    conv => rhs; rw [← this]
    rw [List.map_append]
    rfl
  have hb5 : Blk w5 b (((ps.take (ps.length - 1)).map str ++ [str []]).set (ps.length - 1) (str (ps.getLast h0))) T_string := hb5
  rw [e] at hb5
  have hsl : Ss w5 (.slice (some ⟨b, 0, none⟩) ps.length ps.length) ps := by
    have := hb5.sl (o := 0) (n := ps.length) (cap := ps.length) (by simp) (Nat.le_refl _)
    rw [List.drop_zero, List.take_of_length_le (by simp)] at this
    exact this
  exact hsl.take ps.length rfl (Nat.le_refl _) fun v' hv => ⟨by rwa [List.take_length] at hv, he3.trans1 he5 (by omega)⟩
/-! ### Join -/
set_option maxRecDepth 100000 in
theorem c_copyCheck0 {b : Nat} (hblk : Blk w b [.pointer none, .slice none 0 0] T_strings_Builder) : Ret P n_strings_Builder_copyCheck [.pointer (some ⟨b, 0, none⟩)] w fun r w' => Blk w' b [.pointer (some ⟨b, 0, none⟩), .slice none 0 0] T_strings_Builder ∧ Ext (· = b) w w' ∧ w'.heap.size = w.heap.size := by
  refine W_strings_Builder_copyCheck ?_
  refine hblk.ld (o := 0) (v := .pointer none) rfl ?_
  refine xifT rfl ?_
  refine ⟨_, _, Lib.run_to_unsafe (P := P) (t := T_strings_Builder) (e := T_strings_Builder) (cells := 2) w ⟨b, 0, none⟩ (by kernel_rfl) (by kernel_rfl) (j := (P.info? T_strings_Builder).getD default) (by kernel_rfl) (by decide +kernel) hblk.shape (show (0 : Nat) < 2 by omega), ?_⟩
  refine xext (e := Extern.AbiNoEscape.same) (by kernel_rfl) (by kernel_rfl) (by kernel_rfl) ?_
  refine ⟨_, _, Lib.run_noEscape (P := P) w _, ?_⟩
  refine ⟨_, _, Lib.run_from_unsafe (P := P) (u := T_strings_Builder) (e := T_strings_Builder) (cells := 2) w ⟨b, 0, none⟩ (by kernel_rfl) (by kernel_rfl) (j := (P.info? T_strings_Builder).getD default) (by kernel_rfl) hblk.shape (by kernel_rfl), ?_⟩
  refine hblk.st1 (o := 0) (by simp) rfl rfl fun w1 hb1 hz1 he1 => ?_
  exact ⟨hb1, he1, hz1⟩
set_option maxRecDepth 100000 in
theorem c_Grow {b n : Nat} (hblk : Blk w b [.pointer none, .slice none 0 0] T_strings_Builder) (hn : n ≤ 140737488355328) : Ret P n_strings_Builder_Grow [.pointer (some ⟨b, 0, none⟩), .int .i64 n] w fun r w' => Bld w' b b [] ∧ Ext (b ≤ ·) w w' := by
  refine W_strings_Builder_Grow ?_
  refine (c_copyCheck0 hblk).mono ?_
  rintro r w1 ⟨hb1, he1, hz1⟩
  have hE1 : Ext (b ≤ ·) w w1 := he1.mono fun c _ e => by subst e; exact Nat.le_refl _
  refine xjd ?_
  refine xifF (by simp) ?_
  intro g
  refine hb1.drew.ld (o := 1) (v := .slice none 0 0) rfl ?_
  refine hb1.drew.ld (o := 1) (v := .slice none 0 0) rfl ?_
  refine xi (r := 0) (by rfl) ?_
  refine xifD (fun h => ?_) fun h => ?_
  · refine Ret.mono (R := fun r w' => Bld w' b b [] ∧ Ext (b ≤ ·) w w') (W_strings_Builder_grow ?_) fun r w' h => h
    refine hb1.drew.drew.ld (o := 1) (v := .slice none 0 0) rfl ?_
    refine xi (r := 0) (by rfl) ?_
    refine xi (r := (n : Int)) (by rw [wrapI (by omega)]; omega) ?_
    refine hb1.drew.drew.ld (o := 1) (v := .slice none 0 0) rfl ?_
    refine xLen_sl (w := w1) (sz := 1) (T := tyQ T_uint8) Sl.nil ?_
    refine xext (e := Extern.BytealgMakeNoZero.makeNoZero #[T_int] #[T_s_uint8]) (by kernel_rfl) (by kernel_rfl) (by kernel_rfl) ?_
    obtain ⟨cs, hrun, hcs1, hcs2⟩ := Lib.run_makeNoZero (P := P) w1.drew.drew #[T_int] T_s_uint8 T_uint8 ei_u8.u n (by omega)
    have hcs2 := hcs2 (by unfold maxLen; omega)
    obtain ⟨w2, hw2⟩ : ∃ w2, w2 = w1.drew.drew.drew.drew.alloc (.cells cs T_uint8) := ⟨_, rfl⟩
    have he2 : Ext No w1 w2 := by
      subst hw2
      exact ⟨rfl, rfl, rfl, by simp, fun c hc _ => by
        show (w1.heap.push _)[c]? = _
        rw [Array.getElem?_push, if_neg (by omega)]⟩
    have hg2 : w2.heap[w1.heap.size]? = some (.cells cs T_uint8 (0, 0)) := by
      subst hw2
      show (w1.heap.push _)[w1.heap.size]? = _
      simp
    refine ⟨_, _, hrun, ?_⟩
    rw [← hw2]
    have hb2 := hb1.ext he2 fun h => h
    have hbl := hb1.lt
    refine ⟨hb2.cell 1, ?_⟩
    refine xcutH 0 rfl (Nat.zero_le _) ?_
    refine hb2.ld (o := 1) (v := .slice none 0 0) rfl ?_
    have hblk2 : Blk w2 w1.heap.size cs.toList T_uint8 := ⟨by simpa using hg2⟩
    have hca : cutAddr (some ⟨w1.heap.size, 0, none⟩) 0 cs.size 1 = some ⟨w1.heap.size, 0, none⟩ := by
      unfold cutAddr
      split
      · rfl
      · rfl
    have hca' : cutAddr (some ⟨w1.drew.drew.heap.size, 0, none⟩) 0 cs.size 1 = some ⟨w1.heap.size, 0, none⟩ := hca
    rw [hca']
    show XRun P (Builtin.copy_ #[T_s_uint8, T_s_uint8] T_int #[.slice (some ⟨w1.heap.size, 0, none⟩) 0 cs.size, .slice none 0 0]) w2 _
    refine copy_row (T' := tyQ T_uint8) ei_u8 hblk2 (Sl.nil (T := tyQ T_uint8)) (by simp) (by simp) fun w3 hb3 hz3 he3 => ?_
    have he3' : Ext (b ≤ ·) w2 w3 := he3.mono fun c _ e => by subst e; show b ≤ w1.heap.size; omega
    have hb3' := hb2.ext he3 (show b ≠ w1.heap.size by omega)
    refine hb3'.st1 (o := 1) (by simp) rfl rfl fun w4 hb4 hz4 he4 => ?_
    have hE : Ext (b ≤ ·) w w4 := ((hE1.transN he2).transS he3').transS (he4.mono fun c _ e => by subst e; exact Nat.le_refl _)
    refine ⟨⟨Nat.le_refl _, ?_, _, _, hb4, .inr rfl, ?_, ?_⟩, hE⟩
    · exact Nat.le_of_lt hb4.lt
    · have hrow : Blk w4 w1.heap.size cs.toList T_uint8 := by
        have := hb3
        simp at this
        exact this.ext he4 (show w1.heap.size ≠ b by omega)
      refine Own.of (by omega) hrow (Nat.zero_le _) hcs2 (by simp) (by simp) rfl
    · intro e
      simp only [Value.ownBlock, Option.some.injEq] at e
      omega
  · refine ⟨⟨Nat.le_refl _, Nat.le_of_lt hb1.lt, _, _, hb1.drew, .inr rfl, Own.nil _ _ _ _, fun e => by cases e⟩, hE1.drew⟩
set_option maxRecDepth 100000 in
theorem c_Join {c : UInt8} {v : Value} {ps : List (List UInt8)} (h : Ss w v ps) (hl : (joinC c ps).length ≤ 70368744177664) : Ret P n_strings_Join [v, str [c]] w fun r w' => r = str (joinC c ps) ∧ Ext No w w' := by
  refine W_strings_Join ?_
  refine h.len ?_
  have hle := joinC_le (c := c) (ps := ps)
  refine xifE (fun e => ?_) fun e => ?_
  · have : ps = [] := List.eq_nil_of_length_eq_zero (by omega)
    subst this
    exact ⟨rfl, Ext.refl _ _⟩
  refine xifE (fun e => ?_) fun e1 => ?_
  · have hl1 : ps.length = 1 := by omega
    refine h.rd 0 (by omega) rfl ?_
    refine ⟨?_, Ext.refl _ _⟩
    match ps, hl1 with
    | [p], _ => rfl
  have hn : 2 ≤ ps.length := by omega
  have h0 : ps ≠ [] := by intro e; subst e; simp at hn
  have hjl := joinC_length (c := c) h0
  have htk : ∀ j, 0 < j → ps.take j ≠ [] := fun j hj e => by
    have := congrArg List.length e
    rw [List.length_take, List.length_nil] at this
    omega
  refine xj (fun vs w' => vs = [.int .i64 (ps.length - 1 : Nat)] ∧ w' = w) ?_ ?_
  · refine xlens ?_
    refine xifT (by simp) ?_
    refine xjd ?_
    refine xlens ?_
    refine h.len ?_
    refine xi (r := ((ps.length - 1 : Nat) : Int)) (by rw [wrapI (by omega)]; omega) ?_
    have hq : (9223372036854775807 : Nat) / (ps.length - 1) ≤ 9223372036854775807 := Nat.div_le_self _ _
    have hq2 : 1 < (9223372036854775807 : Nat) / (ps.length - 1) := by
      rw [Nat.lt_div_iff_mul_lt (by omega)]
      omega
    obtain ⟨q, hqe⟩ : ∃ q, q = (9223372036854775807 : Nat) / (ps.length - 1) := ⟨_, rfl⟩
    refine xquo (a := 9223372036854775807) (b := ps.length - 1) (by omega) (by rw [← hqe] at hq ⊢; exact wrapI (by omega)) ?_
    rw [← hqe] at hq2 ⊢
    refine xifF (decide_eq_false (by simp; omega)) ?_
    intro g
    refine xlens ?_
    refine h.len ?_
    refine xi (r := ((ps.length - 1 : Nat) : Int)) (by rw [wrapI (by omega)]; omega) ?_
    refine xi (r := ((ps.length - 1 : Nat) : Int)) (by rw [wrapI (by simp; omega)]; simp) ?_
    exact xi (r := ((ps.length - 1 : Nat) : Int)) (by rw [wrapI (by omega)]; omega) ⟨rfl, rfl⟩
  rintro vs g w1 ⟨rfl, rfl⟩
  refine h.len ?_
  refine xloop (fun n vs w' => ∃ (i : Nat) (x : Value), vs = [.int .i64 i, x, .int .i64 (ps.length - 1 + sumL (ps.take i) : Nat)] ∧ i ≤ ps.length ∧ n = ps.length - i ∧ w' = w1) ps.length ⟨0, undef, by simp [sumL], by omega, rfl, rfl⟩ ?_
  rintro n vs g w2 ⟨i, x, rfl, hi, rfl, rfl⟩
  refine xifD (fun hlt => ?_) fun hge => ?_
  · have hil : i < ps.length := by omega
    refine h.rd i hil rfl ?_
    have hst := sumL_take hil
    have hsl := sumL_le (ps := ps) (i := i + 1)
    refine xjd ?_
    refine xlens ?_
    refine xi (r := ((9223372036854775807 - (ps.length - 1 + sumL (ps.take i)) : Nat) : Int)) (by rw [wrapI (by omega)]; omega) ?_
    refine xifF (decide_eq_false (by omega)) ?_
    intro g
    refine xlens ?_
    refine xi (r := ((ps.length - 1 + sumL (ps.take (i + 1)) : Nat) : Int)) (by rw [wrapI (by omega)]; omega) ?_
    refine xi (r := ((i + 1 : Nat) : Int)) (by rw [wrapI (by omega)]; omega) ?_
    exact xnext (ps.length - (i + 1)) (by omega) ⟨i + 1, _, rfl, by omega, rfl, rfl⟩
  · have : i = ps.length := by omega
    subst this
    rw [List.take_length]
    refine xnew fun b w3 hb hblk hz he => ?_
    have hN : ps.length - 1 + sumL ps = (joinC c ps).length := by omega
    show Ret P n_strings_Builder_Grow [.pointer (some ⟨b, 0, none⟩), .int .i64 ((ps.length - 1 + sumL ps : Nat) : Int)] w3 _
    rw [hN]
    refine (c_Grow hblk (by omega)).mono ?_
    rintro r w4 ⟨hB4, he4⟩
    have hE4 : Ext No w2 w4 := he.trans he4 fun k hk hx => by
      have hx : b ≤ k := hx
      omega
    refine (h.extN hE4).rd 0 (by omega) rfl ?_
    have hs1 := sumL_take (ps := ps) (i := 0) (by omega)
    have hsl1 := sumL_le (ps := ps) (i := 1)
    refine (c_WriteString hB4 (by simp; simp at hs1; omega)).mono ?_
    rintro r w5 ⟨hB5, he5⟩
    have hE5 : Ext No w2 w5 := hE4.trans he5 fun k hk hx => by
      have hx : b ≤ k := hx
      omega
    refine h.drop 1 rfl (by omega) fun v' hv' => ?_
    have hlen' : (ps.drop 1).length = ps.length - 1 := by simp
    refine hv'.len ?_
    rw [hlen']
    refine xloop (fun n vs w' => ∃ (i : Nat) (x : Value), vs = [.int .i64 i, x] ∧ i ≤ ps.length - 1 ∧ n = ps.length - 1 - i ∧ Bld w' b b (joinC c (ps.take (i + 1))) ∧ Ext (b ≤ ·) w5 w') (ps.length - 1) ⟨0, _, rfl, by omega, rfl, ?_, Ext.refl _ _⟩ ?_
    · have e : ps.take 1 = [ps[0]] := by
        rw [← List.take_append_getElem (show 0 < ps.length by omega)]; rfl
      have e2 : ps.take (0 + 1) = [ps[0]] := e
      rw [e2]
      exact hB5
    rintro n vs g w6 ⟨i, x, rfl, hi, rfl, hB6, he6⟩
    have hE6 : Ext No w2 w6 := hE5.trans he6 fun k hk hx => by
      have hx : b ≤ k := hx
      omega
    refine xifD (fun hlt => ?_) fun hge => ?_
    · have hil : i + 1 < ps.length := by omega
      have hv6 : Ss w6 v' (ps.drop 1) := hv'.extN hE6
      refine hv6.rd i (by simp; omega) rfl ?_
      have hjs : joinC c (ps.take (i + 2)) = joinC c (ps.take (i + 1)) ++ c :: ps[i + 1] := by
        rw [← List.take_append_getElem hil, joinC_snoc (htk (i + 1) (by omega))]
      have hlj : (joinC c (ps.take (i + 2))).length ≤ (joinC c ps).length := by
        rw [joinC_length h0, joinC_length (htk (i + 2) (by omega))]
        have := sumL_le (ps := ps) (i := i + 2)
        simp; omega
      have hlj2 := congrArg List.length hjs
      simp at hlj2
      refine (c_WriteString hB6 (by simp; omega)).mono ?_
      rintro r w7 ⟨hB7, he7⟩
      have hge : (ps.drop 1)[i]'(by simp; omega) = ps[i + 1] := by simp [Nat.add_comm]
      rw [hge]
      refine (c_WriteString hB7 (by simp; omega)).mono ?_
      rintro r w8 ⟨hB8, he8⟩
      refine xi (r := ((i + 1 : Nat) : Int)) (by rw [wrapI (by omega)]; omega) ?_
      refine xnext (ps.length - 1 - (i + 1)) (by omega) ⟨i + 1, _, rfl, by omega, rfl, ?_, (he6.transS he7).transS he8⟩
      rw [hjs]
      simpa using hB8
    · have : i = ps.length - 1 := by omega
      subst this
      rw [show ps.length - 1 + 1 = ps.length by omega, List.take_length] at hB6
      refine (c_String hB6 (fun e => ?_)).mono ?_
      · have := congrArg List.length e
        rw [hjl, List.length_nil] at this
        omega
      · rintro r w7 ⟨rfl, he7⟩
        exact ⟨rfl, hE6.trans he7 fun k hk hx => by
          have hx : b ≤ k := hx
          omega⟩
end
end Go.Proofs.YtbfnagdpanfphaaGreatDoor
end
