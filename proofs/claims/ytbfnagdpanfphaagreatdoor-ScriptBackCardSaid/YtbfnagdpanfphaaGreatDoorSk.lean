/-  script.pairs and script.changes: what script.TellPairs and script.TellChanges wrote is read back.  -/
import Derived.Test.YtbfnagdpanfphaaGreatDoorSr
section
namespace Go.Proofs.YtbfnagdpanfphaaGreatDoor
open Go Go.RowKit X
set_option linter.unusedSimpArgs false
set_option linter.unusedVariables false
set_option linter.unusedSectionVars false
/-! ### what stands in a word -/
theorem hexD_no : ∀ d : Fin 16, hexD d.1 ≠ 44 ∧ hexD d.1 ≠ 61 ∧ hexD d.1 ≠ 62 := by decide +kernel
theorem hexK_no {k : Key} {c : UInt8} (h : c ∈ hexK k) : c ≠ 44 ∧ c ≠ 61 ∧ c ≠ 62 := by
  unfold hexK at h
  obtain ⟨d, -, hd⟩ := List.mem_flatMap.1 h
  have hl := u8_lt d
  unfold hexB at hd
  simp only [List.mem_cons, List.mem_nil_iff, or_false] at hd
  rcases hd with rfl | rfl
  · exact hexD_no ⟨d.toNat / 16, by omega⟩
  · exact hexD_no ⟨d.toNat % 16, by omega⟩
theorem keyW_no {k : Key} {c : UInt8} (h : c ∈ keyW k) : c ≠ 44 ∧ c ≠ 61 ∧ c ≠ 62 := by
  unfold keyW at h
  split at h
  · rw [List.mem_singleton.1 h]; decide
  · exact hexK_no h
theorem decK_no {n : Nat} {c : UInt8} (h : c ∈ decK n) : c ≠ 44 ∧ c ≠ 61 ∧ c ≠ 62 := by
  have := decK_dig n c h
  refine ⟨?_, ?_, ?_⟩ <;> (rintro rfl; revert this; decide)
theorem pairW_no (p : Key × Nat) : (44 : UInt8) ∉ pairW p := by
  unfold pairW
  intro h
  rcases List.mem_append.1 h with h | h
  · exact (keyW_no h).1 rfl
  · rcases List.mem_cons.1 h with h | h
    · revert h; decide
    · exact (decK_no h).1 rfl
theorem chgW_no (c : Chg) : (44 : UInt8) ∉ chgW c := by
  unfold chgW
  intro h
  split at h
  · rcases List.mem_cons.1 h with h | h
    · revert h; decide
    rcases List.mem_append.1 h with h | h
    · exact (keyW_no h).1 rfl
    rcases List.mem_cons.1 h with h | h
    · revert h; decide
    · exact (decK_no h).1 rfl
  · split at h
    · rcases List.mem_cons.1 h with h | h
      · revert h; decide
      rcases List.mem_append.1 h with h | h
      · exact (keyW_no h).1 rfl
      rcases List.mem_cons.1 h with h | h
      · revert h; decide
      · exact (decK_no h).1 rfl
    · rcases List.mem_cons.1 h with h | h
      · revert h; decide
      rcases List.mem_append.1 h with h | h
      · exact (keyW_no h).1 rfl
      rcases List.mem_cons.1 h with h | h
      · revert h; decide
      rcases List.mem_append.1 h with h | h
      · exact (decK_no h).1 rfl
      rcases List.mem_cons.1 h with h | h
      · revert h; decide
      · exact (decK_no h).1 rfl
theorem mem_joinC {c x : UInt8} : ∀ {ps : List (List UInt8)} {p : List UInt8}, p ∈ ps → x ∈ p → x ∈ joinC c ps
  | [q], p, h, hx => by rw [List.mem_singleton.1 h] at hx; exact hx
  | q :: r :: t, p, h, hx => by
    rw [joinC]
    rcases List.mem_cons.1 h with rfl | h
    · exact List.mem_append_left _ hx
    · exact List.mem_append_right _ (List.mem_cons_of_mem _ (mem_joinC h hx))
theorem chgW_eq (c : Chg) : (61 : UInt8) ∈ chgW c := by
  unfold chgW
  split
  · simp
  · split <;> simp
variable [Floor]
/-! ### worlds in which objects are written -/
/-- no bytes lie in these blocks -/
def Foul (w : World) (X : Nat → Prop) : Prop := ∀ b, X b → b < w.heap.size → Floor.n ≤ b ∧ ∀ cs fz, w.heap[b]? ≠ some (.cells cs T_uint8 fz)
section
variable {X : Nat → Prop} {w w' : World} {B : Nat} {T : TypeId} {v : Value}
theorem Bs.extF {bs : List UInt8} (h : Bs w v bs) (e : Ext X w w') (hx : Foul w X) : Bs w' v bs := Sl.ext h e fun b cs t fz hT hb hX => by
  obtain ⟨h1, h2⟩ := hx b hX (lt_of_get hb)
  rcases hT with rfl | hT
  · exact h2 _ _ hb
  · omega
theorem PC.extF {l : Kv} {cells : List Value} (h : PC w l cells) (e : Ext X w w') (hx : Foul w X) : PC w' l cells :=
  ⟨h.len, fun i p hp => let ⟨kv, h1, h2, h3⟩ := h.at_ i p hp; ⟨kv, h1, h2.extF e hx, h3⟩⟩
theorem CC.extF {l : List Chg} {cells : List Value} (h : CC w l cells) (e : Ext X w w') (hx : Foul w X) : CC w' l cells :=
  ⟨h.len, fun i p hp => let ⟨kv, h1, h2, h3⟩ := h.at_ i p hp; ⟨kv, h1, h2.extF e hx, h3⟩⟩
theorem PsO.extF {l : Kv} (h : PsO w B T v l) (e : Ext X w w') (hx : Foul w X) (hb : ∀ b, B ≤ b → ¬ X b) : PsO w' B T v l := let ⟨cells, h1, h2⟩ := h; ⟨cells, h1.ext e fun b hv => hb b (h1.ge hv).1, h2.extF e hx⟩
theorem CO.extF {l : List Chg} (h : CO w B T v l) (e : Ext X w w') (hx : Foul w X) (hb : ∀ b, B ≤ b → ¬ X b) : CO w' B T v l := let ⟨cells, h1, h2⟩ := h; ⟨cells, h1.ext e fun b hv => hb b (h1.ge hv).1, h2.extF e hx⟩
theorem PsO.app2 {l : Kv} {K : Value → World → Prop} {t ty : TypeId} {x : Value} {m : Kv} {ys : List Value} {Q : Nat → TypeId → Prop} (hT : EI P t T 2 32 (.agg #[.slice none 0 0, .int .u64 0])) (hTu : T ≠ T_uint8) (hf : Floor.n ≤ B) (hB : B ≤ w.heap.size)
    (h : PsO w B T v l) (hx : Sl w Q x 2 m.length ys) (hm : PC w m ys) (hn : l.length + m.length ≤ 1099511627776)
    (k : ∀ v' w', PsO w' B T v' (l ++ m) → Ext (B ≤ ·) w w' → v'.oneCell' = true → K v' w') : XRun P (Builtin.append_ #[t, t] ty #[v, x]) w K := by
  have hnb := h.nb' hf hTu
  obtain ⟨cells, h1, h2⟩ := h
  refine app_own hT h1 hB hx hm.one (by omega) (by omega) fun v' w' ho hE _ hb => k v' w' ⟨_, ?_, (h2.app hm).ext hE hnb⟩ (hE.up fun b hv => (h1.ge hv).1) ?_
  · rw [List.length_append]; exact ho
  · rcases ho.2 with ⟨rfl, -⟩ | ⟨g, cap, cur, rfl, -⟩ <;> rfl
theorem CO.app2 {l : List Chg} {K : Value → World → Prop} {t ty : TypeId} {x : Value} {m : List Chg} {ys : List Value} {Q : Nat → TypeId → Prop} (hT : EI P t T 4 48 chZ) (hTu : T ≠ T_uint8) (hf : Floor.n ≤ B) (hB : B ≤ w.heap.size)
    (h : CO w B T v l) (hx : Sl w Q x 4 m.length ys) (hm : CC w m ys) (hn : l.length + m.length ≤ 1099511627)
    (k : ∀ v' w', CO w' B T v' (l ++ m) → Ext (B ≤ ·) w w' → v'.oneCell' = true → K v' w') : XRun P (Builtin.append_ #[t, t] ty #[v, x]) w K := by
  have hnb := h.nb hf hTu
  obtain ⟨cells, h1, h2⟩ := h
  refine app_own hT h1 hB hx hm.one (by omega) (by omega) fun v' w' ho hE _ hb => k v' w' ⟨_, ?_, (h2.app hm).ext hE hnb⟩ (hE.up fun b hv => (h1.ge hv).1) ?_
  · rw [List.length_append]; exact ho
  · rcases ho.2 with ⟨rfl, -⟩ | ⟨g, cap, cur, rfl, -⟩ <;> rfl
end
/-! ### a function leaves -/
section
variable {F : Fence} {n : Nat} {fn : Func} {l : List Value} {w : World} {K : Value → World → Prop}
theorem leave0 (h : vcRes P l w K fn.results.toList []) : bodyPostM F n P fn (fun e w' => ∃ v, e = .returned v ∧ K v w') .ret (actD [] l) w := by
  obtain ⟨v, h1, h2⟩ := results_run h
  exact ⟨v, h1, v, rfl, h2⟩
theorem leave1 {D : Nat} (hD : w.heap[D]? = some (.deferred (some []))) (h : vcRes P l (w.putObj D (.deferred none)) K fn.results.toList []) : bodyPostM F n P fn (fun e w' => ∃ v, e = .returned v ∧ K v w') .ret (actD [{ target := .collected D, args := #[] }] l) w := by
  obtain ⟨v, h1, h2⟩ := results_run h
  exact ⟨by simp, .inl ⟨D, _, rfl, run_takeDeferred hD, v, h1, v, rfl, h2⟩⟩
set_option maxRecDepth 100000 in
theorem VR_script_pairs {l : List Value} {w : World} {K : Value → World → Prop} (h : xAt (l.getD 2 undef) fun a => XLd w a fun v => xAt (l.getD 3 undef) fun b => XLd w b fun e => K (.tuple #[v, e]) w) : vcRes P l w K ff_script_pairs.results.toList [] :=
  Eq.mp (show (xAt (l.getD 2 undef) fun a => XLd w a fun v => xAt (l.getD 3 undef) fun b => XLd w b fun e => K (.tuple #[v, e]) w) = vcRes P l w K ff_script_pairs.results.toList [] from by kernel_rfl) h
set_option maxRecDepth 100000 in
theorem VR_script_changes {l : List Value} {w : World} {K : Value → World → Prop} (h : xAt (l.getD 2 undef) fun a => XLd w a fun v => xAt (l.getD 3 undef) fun b => XLd w b fun e => K (.tuple #[v, e]) w) : vcRes P l w K ff_script_changes.results.toList [] :=
  Eq.mp (show (xAt (l.getD 2 undef) fun a => XLd w a fun v => xAt (l.getD 3 undef) fun b => XLd w b fun e => K (.tuple #[v, e]) w) = vcRes P l w K ff_script_changes.results.toList [] from by kernel_rfl) h
end
/-! ### one change -/
section
variable {w : World} {c : Chg}
theorem c_changeRest {rest : List UInt8} {s0 : UInt8} (hs : s0 = 43 ∨ s0 = 45 ∨ s0 = 126) : 0 ≤ Lib.indexByte [43, 45, 126] s0 := by
  rcases hs with rfl | rfl | rfl <;> decide
set_option maxRecDepth 100000 in
set_option maxHeartbeats 1000000 in
theorem c_change (hf : Floor.n ≤ w.heap.size) (hk : c.key.length ≤ 300) (hc : c.ok) (h0 : chgE c = 0) : Ret P n_script_change [str (chgW c)] w fun r w' => ∃ kv, r = .tuple #[.agg #[kv, .int .i64 c.kind, u64 c.was, u64 c.is], .int .i64 0] ∧ Bs w' kv c.key ∧ Ext No w w' := by
  have hkl := keyW_len hk
  have hwl := decK_len c.was hc.1
  have hil := decK_len c.is hc.2
  have hkind : c.kind = 1 ∨ c.kind = 2 ∨ c.kind = 3 := by
    unfold chgE at h0
    split at h0
    · cases h0
    · omega
  have hz1 : c.kind = 1 → c.was = 0 := fun h => by
    unfold chgE at h0
    split at h0
    · cases h0
    · split at h0
      · cases h0
      · rename_i h2
        apply Decidable.byContradiction
        exact fun h3 => h2 (.inl ⟨h, h3⟩)
  have hz2 : c.kind = 2 → c.is = 0 := fun h => by
    unfold chgE at h0
    split at h0
    · cases h0
    · split at h0
      · cases h0
      · rename_i h2
        apply Decidable.byContradiction
        exact fun h3 => h2 (.inr ⟨h, h3⟩)
  obtain ⟨s0, rest, hW, hs0⟩ : ∃ s0 rest, chgW c = s0 :: (keyW c.key ++ 61 :: rest) ∧ (c.kind = 1 ∧ s0 = 43 ∧ rest = decK c.is ∨ c.kind = 2 ∧ s0 = 45 ∧ rest = decK c.was ∨ c.kind = 3 ∧ s0 = 126 ∧ rest = decK c.was ++ 62 :: decK c.is) := by
    unfold chgW
    rcases hkind with h | h | h
    · rw [if_pos h]; exact ⟨_, _, rfl, .inl ⟨h, rfl, rfl⟩⟩
    · rw [if_neg (by omega), if_pos h]; exact ⟨_, _, rfl, .inr (.inl ⟨h, rfl, rfl⟩)⟩
    · rw [if_neg (by omega), if_neg (by omega)]; exact ⟨_, _, rfl, .inr (.inr ⟨h, rfl, rfl⟩)⟩
  have hrl : rest.length ≤ 1000 := by
    rcases hs0 with ⟨-, -, rfl⟩ | ⟨-, -, rfl⟩ | ⟨-, -, rfl⟩ <;> (try rw [List.length_append, List.length_cons]) <;> omega
  rw [hW]
  refine W_script_change ?_
  refine xnew fun rb w1 hrb hb1 hz1' he1 => ?_
  show XNew w1 _ _ _
  refine xnew fun zb w2 hzb hb2 hz2' he2 => ?_
  refine store4 hb2 (by kernel_rfl) rfl rfl rfl rfl fun w3 hb3 hz3 he3 => ?_
  have hr3 := (hb1.ext he2 fun h => h).ext he3 (by omega)
  have hE3 := (he1.transN he2).trans1 he3 (by omega)
  refine xj (fun vs w' => vs = [.bool false] ∧ w' = w3) ?_ ?_
  · refine xseq ?_
    refine xifF (decide_eq_false (by simp)) ?_
    refine xixstr 0 s0 rfl rfl ?_
    refine (show Ret P n_strings_IndexByte [str [43, 45, 126], bv s0] w3 fun r w' => r = .int .i64 (Lib.indexByte [43, 45, 126] s0) ∧ w' = w3 from W_strings_IndexByte c_IndexByte).mono ?_
    rintro r w4 ⟨rfl, rfl⟩
    refine ⟨?_, rfl⟩
    have : 0 ≤ Lib.indexByte [43, 45, 126] s0 := c_changeRest (rest := []) (by rcases hs0 with h | h | h <;> simp [h.2.1])
    rw [decide_eq_false (p := Lib.indexByte [43, 45, 126] s0 < 0) (by omega)]
  rintro vs g w4 ⟨rfl, rfl⟩
  refine xifF rfl ?_
  refine xcutstrL 1 rfl (by simp) ?_
  show Ret P n_strings_Cut [str (keyW c.key ++ 61 :: rest), _] _ _
  refine (c_Cut1 (fun h => (keyW_no h).2.1 rfl) (by omega)).mono ?_
  rintro r w5 ⟨rfl, he5⟩
  obtain ⟨wa, wb, hwab⟩ : ∃ wa wb, (c.kind = 1 ∧ wa = decK c.is ∧ wb = [] ∨ c.kind = 2 ∧ wa = decK c.was ∧ wb = [] ∨ c.kind = 3 ∧ wa = decK c.was ∧ wb = decK c.is) := by
    rcases hkind with h | h | h
    · exact ⟨_, _, .inl ⟨h, rfl, rfl⟩⟩
    · exact ⟨_, _, .inr (.inl ⟨h, rfl, rfl⟩)⟩
    · exact ⟨_, _, .inr (.inr ⟨h, rfl, rfl⟩)⟩
  refine xj (fun vs w' => vs = [str wa, str wb, .bool true] ∧ Ext No w5 w') ?_ ?_
  · refine xixstr 0 s0 rfl rfl ?_
    rcases hs0 with ⟨h, rfl, rfl⟩ | ⟨h, rfl, rfl⟩ | ⟨h, rfl, rfl⟩ <;> rcases hwab with ⟨h', rfl, rfl⟩ | ⟨h', rfl, rfl⟩ | ⟨h', rfl, rfl⟩ <;> try omega
    · exact xifF rfl ⟨rfl, Ext.refl _ _⟩
    · exact xifF rfl ⟨rfl, Ext.refl _ _⟩
    · refine xifT rfl ?_
      refine (c_Cut1 (fun h => (decK_no h).2.2 rfl) (by omega)).mono ?_
      rintro r w6 ⟨rfl, he6⟩
      exact ⟨rfl, he6⟩
  rintro vs g w6 ⟨rfl, he6⟩
  refine xj (fun vs w' => vs = [.bool false] ∧ w' = w6) (xifF rfl ⟨rfl, rfl⟩) ?_
  rintro vs g w7 ⟨rfl, rfl⟩
  refine xifF rfl ?_
  refine (c_key (by omega)).mono ?_
  rintro r w8 ⟨kv, rfl, hkv, he8⟩
  refine xifF rfl ?_
  have hE8 := ((hE3.transN he5).transN he6).transN he8
  have hr8 := ((hr3.ext he5 fun h => h).ext he6 fun h => h).ext he8 fun h => h
  rcases hwab with ⟨h', rfl, rfl⟩ | ⟨h', rfl, rfl⟩ | ⟨h', rfl, rfl⟩
  · have e : s0 = 43 := by rcases hs0 with h | h | h <;> first | exact h.2.1 | omega
    subst e
    refine (c_value hc.2).mono ?_
    rintro r w9 ⟨rfl, he9⟩
    refine xifF rfl ?_
    refine xixstr 0 43 rfl rfl ?_
    refine xifT rfl ?_
    obtain ⟨ad, cp, rfl⟩ := hkv.slice
    show XDo P (storeVar _ _ (.agg #[.slice ad c.key.length cp, .int .i64 1, .int .u64 0, u64 c.is])) _ _
    have hr9 := hr8.ext he9 fun h => h
    refine store4 hr9 (by kernel_rfl) rfl rfl rfl rfl fun w10 hb10 hz10 he10 => ?_
    refine hb10.ldA rfl ⟨.slice ad c.key.length cp, ?_, ((hkv.extN he9).ext he10 (chg_nb hr9 (by decide) (by omega))), (hE8.transN he9).trans1 he10 (by omega)⟩
    rw [hz1 h', h']; rfl
  · have e : s0 = 45 := by rcases hs0 with h | h | h <;> first | exact h.2.1 | omega
    subst e
    refine (c_value hc.1).mono ?_
    rintro r w9 ⟨rfl, he9⟩
    refine xifF rfl ?_
    refine xixstr 0 45 rfl rfl ?_
    refine xifF rfl ?_
    refine xifT rfl ?_
    obtain ⟨ad, cp, rfl⟩ := hkv.slice
    show XDo P (storeVar _ _ (.agg #[.slice ad c.key.length cp, .int .i64 2, u64 c.was, .int .u64 0])) _ _
    have hr9 := hr8.ext he9 fun h => h
    refine store4 hr9 (by kernel_rfl) rfl rfl rfl rfl fun w10 hb10 hz10 he10 => ?_
    refine hb10.ldA rfl ⟨.slice ad c.key.length cp, ?_, ((hkv.extN he9).ext he10 (chg_nb hr9 (by decide) (by omega))), (hE8.transN he9).trans1 he10 (by omega)⟩
    rw [hz2 h', h']; rfl
  · have e : s0 = 126 := by rcases hs0 with h | h | h <;> first | exact h.2.1 | omega
    subst e
    refine (c_value hc.1).mono ?_
    rintro r w9 ⟨rfl, he9⟩
    refine xifF rfl ?_
    refine xixstr 0 126 rfl rfl ?_
    refine xifF rfl ?_
    refine xifF rfl ?_
    refine (c_value hc.2).mono ?_
    rintro r w9' ⟨rfl, he9'⟩
    refine xifF rfl ?_
    obtain ⟨ad, cp, rfl⟩ := hkv.slice
    show XDo P (storeVar _ _ (.agg #[.slice ad c.key.length cp, .int .i64 3, u64 c.was, u64 c.is])) _ _
    have hr9 := (hr8.ext he9 fun h => h).ext he9' fun h => h
    refine store4 hr9 (by kernel_rfl) rfl rfl rfl rfl fun w10 hb10 hz10 he10 => ?_
    refine hb10.ldA rfl ⟨.slice ad c.key.length cp, ?_, (((hkv.extN he9).extN he9').ext he10 (chg_nb hr9 (by decide) (by omega))), ((hE8.transN he9).transN he9').trans1 he10 (by omega)⟩
    rw [h']
end
/-! ### the rows -/
/-- a frame of script.pairs or script.changes -/
structure PF (N : Nat) (l : List Value) (s : List UInt8) (rb eb lb : Nat) : Prop where
  len : l.length = N
  s : l.getD 0 undef = str s
  r : l.getD 2 undef = pt rb
  e : l.getD 3 undef = pt eb
  l : l.getD 4 undef = pt lb
section
variable {w : World} {l : Kv}
/-- the world while script.pairs runs -/
structure PW (w : World) (rb eb lb B : Nat) (l : Kv) (W : World) : Prop where
  row : ∃ vw, Blk W lb [vw] T_s_api_Pair ∧ PsO W B T_api_Pair vw l ∧ vw.oneCell' = true
  r : Blk W rb [.slice none 0 0] T_s_api_Pair
  e : Blk W eb [.int .i64 0] T_api_Errno
  w : Ext No w W
theorem PW.extF {w W W' : World} {rb eb lb B : Nat} {l : Kv} {X : Nat → Prop} (h : PW w rb eb lb B l W) (e : Ext X W W') (hx : Foul W X) (hb : ∀ b, B ≤ b → ¬ X b) (h1 : ¬ X lb) (h2 : ¬ X rb) (h3 : ¬ X eb) (h4 : ∀ b, b < w.heap.size → ¬ X b) : PW w rb eb lb B l W' := by
  obtain ⟨vw, a, b, c⟩ := h.row
  exact ⟨⟨vw, a.ext e h1, b.extF e hx hb, c⟩, h.r.ext e h2, h.e.ext e h3, h.w.trans e fun b hb hX => (h4 b hb hX).elim⟩
theorem PW.extN {w W W' : World} {rb eb lb B : Nat} {l : Kv} (h : PW w rb eb lb B l W) (e : Ext No W W') : PW w rb eb lb B l W' := by
  obtain ⟨vw, a, b, c⟩ := h.row
  exact ⟨⟨vw, a.ext e fun h => h, b.extN e, c⟩, h.r.ext e fun h => h, h.e.ext e fun h => h, h.w.transN e⟩
set_option maxRecDepth 100000 in
set_option maxHeartbeats 2000000 in
theorem c_pairs (hf : Floor.n ≤ w.heap.size) (hl : l.length ≤ 60) (hk : ∀ p ∈ l, p.1.length ≤ 300) (hv : ∀ p ∈ l, p.2 < 18446744073709551616) : Ret P n_script_pairs [str (tellPs l)] w fun r w' => ∃ v, r = .tuple #[v, .int .i64 0] ∧ Ps w' v l ∧ Ext No w w' := by
  refine ⟨(callsIn_wide (n := 9)).1 ?_⟩
  refine callsIn_of_wp_marks fn_script_pairs (body_of fn_script_pairs bd_script_pairs) trivial ?_
  rw [shape_script_pairs]
  have hact : ({ tmps := [str (tellPs l)].toArray ++ Array.replicate (ff_script_pairs.ntmps - ([str (tellPs l)].toArray).size) undef, defers := [] } : Act) = actD [] ([str (tellPs l)] ++ List.replicate 48 undef) := by
    rw [nt_script_pairs]
    simp [actD]
  rw [hact]
  refine wpIn_seq ?_
  refine vcI (freeW P) E_script_pairs_0 (n := 49) (Q := fun e l' w' => e = .normal ∧ ∃ rb eb, l'.length = 49 ∧ l'.getD 0 undef = str (tellPs l) ∧ l'.getD 2 undef = pt rb ∧ l'.getD 3 undef = pt eb ∧ Blk w' rb [.slice none 0 0] T_s_api_Pair ∧ Blk w' eb [.int .i64 0] T_api_Errno ∧ Ext No w w' ∧ w.heap.size ≤ rb ∧ rb < eb) rfl ?_ (VL_script_pairs_0 rfl ?_)
  rotate_left
  · refine xnew fun rb w1 hrb h1 hz1 he1 => ?_
    refine xnew fun eb w2 heb h2 hz2 he2 => ?_
    exact ⟨rfl, rb, eb, rfl, rfl, rfl, rfl, h1.ext he2 fun h => h, h2, he1.transN he2, by omega, by omega⟩
  rintro e l1 w1 ⟨rfl, rb, eb, hl1, h10, h12, h13, hr1, he1, hE1, hrb, heb⟩
  refine wpIn_seq ?_
  refine vcI (freeW P) E_script_pairs_1 (n := 49) (Q := fun e l' w' => e = .normal ∧ ∃ lb, PF 49 l' (tellPs l) rb eb lb ∧ Blk w' lb [.slice none 0 0] T_s_api_Pair ∧ Ext No w1 w' ∧ w1.heap.size ≤ lb) hl1 ?_ (VL_script_pairs_1 hl1 ?_)
  rotate_left
  · refine xnew fun lb w2 hlb h2 hz2 he2 => ?_
    exact ⟨rfl, lb, ⟨rfl, h10, h12, h13, rfl⟩, h2, he2, by omega⟩
  rintro e l2 w2 ⟨rfl, lb, hP2, hl2, hE12, hlb⟩
  have hE2 := hE1.transN hE12
  have hr2 := hr1.ext hE12 fun h => h
  have he2 := he1.ext hE12 fun h => h
  have hrs := hr1.lt
  have hes := he1.lt
  have hls := hl2.lt
  refine wpIn_seq ?_
  by_cases hnil : l = []
  · subst hnil
    refine vcI (freeW P) E_script_pairs_2 (n := 49) (Q := fun e l' w' => e = .ret ∧ PF 49 l' (tellPs []) rb eb lb ∧ Blk w' rb [.slice none 0 0] T_s_api_Pair ∧ Blk w' eb [.int .i64 0] T_api_Errno ∧ Ext No w w') hP2.len ?_ (VL_script_pairs_2 hP2.len ?_)
    rotate_left
    · unfold SP_script_pairs_2
      rw [hP2.s, hP2.l, hP2.r, hP2.e]
      refine xseq ?_
      refine xifT rfl ?_
      refine hl2.ld (o := 0) rfl ?_
      refine hr2.st1 (o := 0) (by simp) rfl rfl fun w3 hb3 hz3 he3 => ?_
      have he23 := he2.ext he3 (by omega)
      refine he23.st1 (o := 0) (by simp) rfl rfl fun w4 hb4 hz4 he4 => ?_
      exact ⟨rfl, ⟨rfl, rfl, rfl, rfl, rfl⟩, hb3.ext he4 (by omega), hb4, (hE2.trans1 he3 (by omega)).trans1 he4 (by omega)⟩
    rintro e l3 w3 ⟨rfl, hP3, hr3, he3, hE3⟩
    refine leave0 (VR_script_pairs ?_)
    rw [hP3.r, hP3.e]
    refine hr3.ld (o := 0) rfl ?_
    refine he3.ld (o := 0) rfl ?_
    exact ⟨_, rfl, Ps.nil _, hE3⟩
  have htl : tellPs l = joinC 44 (l.map pairW) := by unfold tellPs; rw [if_neg hnil]
  have hjl : (joinC 44 (l.map pairW)).length ≤ 60000 := by
    have := joinC_len (c := 44) (n := 700) (ps := l.map pairW) fun p hp => by
      obtain ⟨q, hq, rfl⟩ := List.mem_map.1 hp
      exact pairW_len (hk q hq) (hv q hq)
    rw [List.length_map] at this
    omega
  have hj0 : joinC 44 (l.map pairW) ≠ [45] := fun e => by
    obtain ⟨q, r, rfl⟩ := List.exists_cons_of_ne_nil hnil
    have := mem_joinC (c := 44) (x := 61) (ps := (q :: r).map pairW) (p := pairW q) (by simp) (by simp [pairW])
    rw [e] at this
    revert this; decide
  refine vcI (freeW P) E_script_pairs_2 (n := 49) (Q := fun e l' w' => e = .normal ∧ PF 49 l' (tellPs l) rb eb lb ∧ w' = w2) hP2.len ?_ (VL_script_pairs_2 hP2.len ?_)
  rotate_left
  · unfold SP_script_pairs_2
    rw [hP2.s, hP2.l, hP2.r, hP2.e]
    refine xseq ?_
    refine xifF (decide_eq_false (by rw [htl]; exact hj0)) ?_
    exact ⟨rfl, ⟨rfl, rfl, rfl, rfl, rfl⟩, rfl⟩
  rintro e l3 w3 ⟨rfl, hP3, rfl⟩
  refine wpIn_seq (wpIn_seq ?_)
  refine vcI (freeW P) E_script_pairs_3 (n := 49) (Q := fun e l' w' => e = .normal ∧ PF 49 l' (tellPs l) rb eb lb ∧ ∃ pb sb zb, l'.getD 16 undef = .func (.func n_strings_splitSeq_1) #[] #[pt pb, pt sb, pt zb] ∧ Blk w' pb [str [44]] T_string ∧ Blk w' sb [str (tellPs l)] T_string ∧ Blk w' zb [.int .i64 0] T_int ∧ pb ≠ sb ∧ Ext No w3 w' ∧ w3.heap.size ≤ sb ∧ w3.heap.size ≤ pb ∧ w3.heap.size ≤ zb) hP3.len ?_ (VL_script_pairs_3 hP3.len ?_)
  rotate_left
  · unfold SP_script_pairs_3
    rw [hP3.s]
    refine c_SplitSeq.mono ?_
    rintro r w4 ⟨pb, sb, zb, rfl, h⟩
    exact ⟨rfl, ⟨rfl, rfl, hP3.r, hP3.e, hP3.l⟩, pb, sb, zb, rfl, h⟩
  rintro e l4 w4 ⟨rfl, hP4, pb, sb, zb, h16, hpb, hsb, hzb, hps, hE34, gsb, gpb, gzb⟩
  rw [htl] at hsb
  have h4s := hE34.size
  have psz := hpb.lt
  have ssz := hsb.lt
  have zsz := hzb.lt
  refine wpIn_block ?_
  refine rf_split (c := 44) (ps := l.map pairW) (I := fun i W => PW w rb eb lb (w4.heap.size + 2) (l.take i) W) h16 hpb hsb hzb hps (by simpa using hnil) (fun p hp => by obtain ⟨q, -, rfl⟩ := List.mem_map.1 hp; exact pairW_no q) (by omega) ?_ (fun i W W' h e => h.extN e) ?_ ?_ ?_
  · exact ⟨⟨_, hl2.ext hE34 fun h => h, PsO.nil _ _ _, rfl⟩, hr2.ext hE34 fun h => h, he2.ext hE34 fun h => h, hE2.transN hE34⟩
  · rintro i W W' hI ⟨x, hx⟩ ⟨r, hr⟩ ⟨d, hd⟩ e
    refine hI.extF e ?_ ?_ ?_ ?_ ?_ ?_
    · rintro b (rfl | rfl | rfl) hb
      · exact ⟨by omega, fun cs fz h => by rw [hx.h] at h; cases h⟩
      · exact ⟨by omega, fun cs fz h => by rw [hr] at h; cases h⟩
      · exact ⟨by omega, fun cs fz h => by rw [hd] at h; cases h⟩
    all_goals (intros; omega)
  · intro lp m i W hi hI
    have hil : i < l.length := by simpa using hi
    have hmem := List.getElem_mem hil
    have hps : (l.map pairW)[i] = pairW l[i] := by simp
    rw [hps]
    refine vcI (freeR P lp) E_script_pairs_4 (n := 49) (Q := fun e l' w' => e = .normal ∧ PF 49 l' (tellPs l) rb eb lb ∧ l'.getD 5 undef = str (pairW l[i]) ∧ w' = W) (by rw [List.length_set]; exact hP4.len) ?_ (VL_script_pairs_4 (by rw [List.length_set]; exact hP4.len) ?_)
    rotate_left
    · unfold SP_script_pairs_4
      exact ⟨rfl, ⟨rfl, (setD (by omega)).trans hP4.s, (setD (by omega)).trans hP4.r, (setD (by omega)).trans hP4.e, (setD (by omega)).trans hP4.l⟩, setS (by rw [hP4.len]; omega), rfl⟩
    rintro e l5 w5 ⟨rfl, hP5, h5, rfl⟩
    refine ⟨rfl, fun W2 hI2 g1 g2 g3 g4 => ?_⟩
    obtain ⟨vw, hb, ho, hone⟩ := hI2.row
    refine vcI (freeR P lp) E_script_pairs_5 (n := 49) (Q := fun e l' W3 => e = .normal ∧ PW w rb eb lb (w4.heap.size + 2) (l.take (i + 1)) W3 ∧ Ext (fun b => b ≠ sb ∧ b ≠ pb ∧ b ≠ zb ∧ b ≠ w4.heap.size + 1 ∧ b ≠ w4.heap.size) W2 W3) hP5.len ?_ (VL_script_pairs_5 hP5.len ?_)
    · rintro e l' W3 h; exact h
    unfold SP_script_pairs_5
    rw [h5, hP5.r, hP5.e, hP5.l]
    have hkl := keyW_len (hk _ hmem)
    have hdl := decK_len l[i].2 (hv _ hmem)
    unfold pairW
    refine (c_Cut1 (fun h => (keyW_no h).2.1 rfl) (by omega)).mono ?_
    rintro r w6 ⟨rfl, he6⟩
    refine xifF rfl ?_
    refine (c_key (by have := hk _ hmem; omega)).mono ?_
    rintro r w7 ⟨kv, rfl, hkv, he7⟩
    refine xifF rfl ?_
    refine (c_value (hv _ hmem)).mono ?_
    rintro r w8 ⟨rfl, he8⟩
    refine xifF rfl ?_
    have hE8 := (he6.transN he7).transN he8
    refine (hb.ext hE8 fun h => h).ld (o := 0) rfl ?_
    have hkv8 := hkv.extN he8
    obtain ⟨ad, cp, rfl⟩ := hkv8.slice
    show XNew w8 [.slice ad l[i].1.length cp, u64 l[i].2] T_api_Pair _
    refine xnew fun xb w9 hxb hxblk hz9 he9 => ?_
    have hE9 := hE8.transN he9
    have hs9 := hE9.size
    refine PsO.app2 (m := [(l[i].1, l[i].2)]) ei_api (by decide) (by omega) (by omega) (ho.extN hE9) (hxblk.sln (n := 1) rfl) (PC.sing (hkv8.extN he9) (hv _ hmem)) (by simp; omega) fun v' w10 ho10 hE10 hone10 => ?_
    have hb10 := (hb.ext hE9 fun h => h).ext hE10 (by omega)
    refine hb10.st1 (o := 0) (by simp) hone10 rfl fun w11 hb11 hz11 he11 => ?_
    have hr11 := ((hI2.r.ext hE9 fun h => h).ext hE10 (by omega)).ext he11 (by omega)
    have he11' := ((hI2.e.ext hE9 fun h => h).ext hE10 (by omega)).ext he11 (by omega)
    have hE10' : Ext (w4.heap.size + 2 ≤ ·) W2 w10 := (hE9.mono fun b _ h => h.elim).transS hE10
    refine ⟨rfl, ⟨⟨v', hb11, ?_, hone10⟩, hr11, he11', ?_⟩, ?_⟩
    · rw [← List.take_append_getElem hil]
      exact ho10.extF he11 (fun b hX hlt => ⟨by have : b = lb := hX; omega, fun cs fz h => by have e : b = lb := hX; rw [e, hb10.h] at h; cases h⟩) fun b hB hX => by have : b = lb := hX; omega
    · exact (hI2.w.trans hE10' fun b hb' hX => by have : w4.heap.size + 2 ≤ b := hX; have := hE2.size; omega).trans1 he11 (by have := hE1.size; omega)
    · refine (hE10'.mono fun b _ hX => ?_).trans (he11.up (Y := fun b => b ≠ sb ∧ b ≠ pb ∧ b ≠ zb ∧ b ≠ w4.heap.size + 1 ∧ b ≠ w4.heap.size) fun b hX => ?_) fun b _ h => h
      · have : w4.heap.size + 2 ≤ b := hX
        refine ⟨?_, ?_, ?_, ?_, ?_⟩ <;> omega
      · have : b = lb := hX
        refine ⟨?_, ?_, ?_, ?_, ?_⟩ <;> omega
  · intro W hI hD
    rw [List.length_map, List.take_length] at hI
    obtain ⟨vw, hb, ho, hone⟩ := hI.row
    refine vcI (freeW P) E_script_pairs_6 (n := 49) (Q := fun e l' W3 => e = .ret ∧ PF 49 l' (tellPs l) rb eb lb ∧ Blk W3 rb [vw] T_s_api_Pair ∧ Blk W3 eb [.int .i64 0] T_api_Errno ∧ Ext No w W3 ∧ PsO W3 (w4.heap.size + 2) T_api_Pair vw l ∧ W3.heap[w4.heap.size]? = some (.deferred (some []))) hP4.len ?_ (VL_script_pairs_6 hP4.len ?_)
    rotate_left
    · unfold SP_script_pairs_6
      rw [hP4.r, hP4.e, hP4.l]
      refine hb.ld (o := 0) rfl ?_
      refine hI.r.st1 (o := 0) (by simp) hone rfl fun w5 hb5 hz5 he5 => ?_
      have he25 := hI.e.ext he5 (by omega)
      refine he25.st1 (o := 0) (by simp) rfl rfl fun w6 hb6 hz6 he6 => ?_
      have f1 : Foul W (· = rb) := fun b hX hlt => ⟨by have : b = rb := hX; omega, fun cs fz h => by have e : b = rb := hX; rw [e, hI.r.h] at h; cases h⟩
      have f2 : Foul w5 (· = eb) := fun b hX hlt => ⟨by have : b = eb := hX; omega, fun cs fz h => by have e : b = eb := hX; rw [e, he25.h] at h; cases h⟩
      refine ⟨rfl, ⟨rfl, hP4.s, rfl, rfl, rfl⟩, hb5.ext he6 (by omega), hb6, (hI.w.trans1 he5 (by omega)).trans1 he6 (by omega), (ho.extF he5 f1 fun b hB hX => ?_).extF he6 f2 fun b hB hX => ?_, ?_⟩
      · have : b = rb := hX; omega
      · have : b = eb := hX; omega
      · rw [he6.same _ (by have := lt_of_get hD; omega) (by omega), he5.same _ (lt_of_get hD) (by omega)]; exact hD
    rintro e l6 w6 ⟨rfl, hP6, hr6, he6, hE6, ho6, hD6⟩
    refine leave1 hD6 (VR_script_pairs ?_)
    have hEx := putObj_ext (W := w6) (l := w4.heap.size) (o := .deferred none)
    rw [hP6.r, hP6.e]
    refine (hr6.ext hEx (by omega)).ld (o := 0) rfl ?_
    refine (he6.ext hEx (by omega)).ld (o := 0) rfl ?_
    have f1 : Foul w6 (· = w4.heap.size) := fun b hX hlt => ⟨by have : b = w4.heap.size := hX; omega, fun cs fz h => by have e : b = w4.heap.size := hX; rw [e, hD6] at h; cases h⟩
    exact ⟨vw, rfl, (ho6.extF hEx f1 fun b hB hX => by have : b = w4.heap.size := hX; omega).ps (.inl rfl), hE6.trans1 hEx (by omega)⟩
end
section
variable {w : World} {l : List Chg}
/-- the world while script.changes runs -/
structure QW (w : World) (rb eb lb B : Nat) (l : List Chg) (W : World) : Prop where
  row : ∃ vw, Blk W lb [vw] T_s_delta_Change ∧ CO W B T_delta_Change vw l ∧ vw.oneCell' = true
  r : Blk W rb [.slice none 0 0] T_s_delta_Change
  e : Blk W eb [.int .i64 0] T_api_Errno
  w : Ext No w W
theorem QW.extF {w W W' : World} {rb eb lb B : Nat} {l : List Chg} {X : Nat → Prop} (h : QW w rb eb lb B l W) (e : Ext X W W') (hx : Foul W X) (hb : ∀ b, B ≤ b → ¬ X b) (h1 : ¬ X lb) (h2 : ¬ X rb) (h3 : ¬ X eb) (h4 : ∀ b, b < w.heap.size → ¬ X b) : QW w rb eb lb B l W' := by
  obtain ⟨vw, a, b, c⟩ := h.row
  exact ⟨⟨vw, a.ext e h1, b.extF e hx hb, c⟩, h.r.ext e h2, h.e.ext e h3, h.w.trans e fun b hb hX => (h4 b hb hX).elim⟩
theorem QW.extN {w W W' : World} {rb eb lb B : Nat} {l : List Chg} (h : QW w rb eb lb B l W) (e : Ext No W W') : QW w rb eb lb B l W' := by
  obtain ⟨vw, a, b, c⟩ := h.row
  exact ⟨⟨vw, a.ext e fun h => h, b.extN e, c⟩, h.r.ext e fun h => h, h.e.ext e fun h => h, h.w.transN e⟩
set_option maxRecDepth 100000 in
set_option maxHeartbeats 2000000 in
theorem c_changes (hf : Floor.n ≤ w.heap.size) (hl : l.length ≤ 60) (hk : ∀ c ∈ l, c.key.length ≤ 300) (hv : ∀ c ∈ l, c.ok) (hz : chsE l = 0) : Ret P n_script_changes [str ((tellCs l).1)] w fun r w' => ∃ v, r = .tuple #[v, .int .i64 0] ∧ Cs w' v l ∧ Ext No w w' := by
  refine ⟨(callsIn_wide (n := 9)).1 ?_⟩
  refine callsIn_of_wp_marks fn_script_changes (body_of fn_script_changes bd_script_changes) trivial ?_
  rw [shape_script_changes]
  have hact : ({ tmps := [str ((tellCs l).1)].toArray ++ Array.replicate (ff_script_changes.ntmps - ([str ((tellCs l).1)].toArray).size) undef, defers := [] } : Act) = actD [] ([str ((tellCs l).1)] ++ List.replicate 26 undef) := by
    rw [nt_script_changes]
    simp [actD]
  rw [hact]
  refine wpIn_seq ?_
  refine vcI (freeW P) E_script_changes_0 (n := 27) (Q := fun e l' w' => e = .normal ∧ ∃ rb eb, l'.length = 27 ∧ l'.getD 0 undef = str ((tellCs l).1) ∧ l'.getD 2 undef = pt rb ∧ l'.getD 3 undef = pt eb ∧ Blk w' rb [.slice none 0 0] T_s_delta_Change ∧ Blk w' eb [.int .i64 0] T_api_Errno ∧ Ext No w w' ∧ w.heap.size ≤ rb ∧ rb < eb) rfl ?_ (VL_script_changes_0 rfl ?_)
  rotate_left
  · refine xnew fun rb w1 hrb h1 hz1 he1 => ?_
    refine xnew fun eb w2 heb h2 hz2 he2 => ?_
    exact ⟨rfl, rb, eb, rfl, rfl, rfl, rfl, h1.ext he2 fun h => h, h2, he1.transN he2, by omega, by omega⟩
  rintro e l1 w1 ⟨rfl, rb, eb, hl1, h10, h12, h13, hr1, he1, hE1, hrb, heb⟩
  refine wpIn_seq ?_
  refine vcI (freeW P) E_script_changes_1 (n := 27) (Q := fun e l' w' => e = .normal ∧ ∃ lb, PF 27 l' ((tellCs l).1) rb eb lb ∧ Blk w' lb [.slice none 0 0] T_s_delta_Change ∧ Ext No w1 w' ∧ w1.heap.size ≤ lb) hl1 ?_ (VL_script_changes_1 hl1 ?_)
  rotate_left
  · refine xnew fun lb w2 hlb h2 hz2 he2 => ?_
    exact ⟨rfl, lb, ⟨rfl, h10, h12, h13, rfl⟩, h2, he2, by omega⟩
  rintro e l2 w2 ⟨rfl, lb, hP2, hl2, hE12, hlb⟩
  have hE2 := hE1.transN hE12
  have hr2 := hr1.ext hE12 fun h => h
  have he2 := he1.ext hE12 fun h => h
  have hrs := hr1.lt
  have hes := he1.lt
  have hls := hl2.lt
  refine wpIn_seq ?_
  by_cases hnil : l = []
  · subst hnil
    refine vcI (freeW P) E_script_changes_2 (n := 27) (Q := fun e l' w' => e = .ret ∧ PF 27 l' ((tellCs []).1) rb eb lb ∧ Blk w' rb [.slice none 0 0] T_s_delta_Change ∧ Blk w' eb [.int .i64 0] T_api_Errno ∧ Ext No w w') hP2.len ?_ (VL_script_changes_2 hP2.len ?_)
    rotate_left
    · unfold SP_script_changes_2
      rw [hP2.s, hP2.l, hP2.r, hP2.e]
      refine xseq ?_
      refine xifT rfl ?_
      refine hl2.ld (o := 0) rfl ?_
      refine hr2.st1 (o := 0) (by simp) rfl rfl fun w3 hb3 hz3 he3 => ?_
      have he23 := he2.ext he3 (by omega)
      refine he23.st1 (o := 0) (by simp) rfl rfl fun w4 hb4 hz4 he4 => ?_
      exact ⟨rfl, ⟨rfl, rfl, rfl, rfl, rfl⟩, hb3.ext he4 (by omega), hb4, (hE2.trans1 he3 (by omega)).trans1 he4 (by omega)⟩
    rintro e l3 w3 ⟨rfl, hP3, hr3, he3, hE3⟩
    refine leave0 (VR_script_changes ?_)
    rw [hP3.r, hP3.e]
    refine hr3.ld (o := 0) rfl ?_
    refine he3.ld (o := 0) rfl ?_
    exact ⟨_, rfl, Cs.nil _, hE3⟩
  have htl : (tellCs l).1 = joinC 44 (l.map chgW) := by unfold tellCs; rw [if_pos hz, if_neg hnil]
  have hjl : (joinC 44 (l.map chgW)).length ≤ 60000 := by
    have := joinC_len (c := 44) (n := 700) (ps := l.map chgW) fun p hp => by
      obtain ⟨q, hq, rfl⟩ := List.mem_map.1 hp
      exact chgW_len (hk q hq) (hv q hq)
    rw [List.length_map] at this
    omega
  have hj0 : joinC 44 (l.map chgW) ≠ [45] := fun e => by
    obtain ⟨q, r, rfl⟩ := List.exists_cons_of_ne_nil hnil
    have := mem_joinC (c := 44) (x := 61) (ps := (q :: r).map chgW) (p := chgW q) (by simp) (chgW_eq q)
    rw [e] at this
    revert this; decide
  refine vcI (freeW P) E_script_changes_2 (n := 27) (Q := fun e l' w' => e = .normal ∧ PF 27 l' ((tellCs l).1) rb eb lb ∧ w' = w2) hP2.len ?_ (VL_script_changes_2 hP2.len ?_)
  rotate_left
  · unfold SP_script_changes_2
    rw [hP2.s, hP2.l, hP2.r, hP2.e]
    refine xseq ?_
    refine xifF (decide_eq_false (by rw [htl]; exact hj0)) ?_
    exact ⟨rfl, ⟨rfl, rfl, rfl, rfl, rfl⟩, rfl⟩
  rintro e l3 w3 ⟨rfl, hP3, rfl⟩
  refine wpIn_seq (wpIn_seq ?_)
  refine vcI (freeW P) E_script_changes_3 (n := 27) (Q := fun e l' w' => e = .normal ∧ PF 27 l' ((tellCs l).1) rb eb lb ∧ ∃ pb sb zb, l'.getD 12 undef = .func (.func n_strings_splitSeq_1) #[] #[pt pb, pt sb, pt zb] ∧ Blk w' pb [str [44]] T_string ∧ Blk w' sb [str ((tellCs l).1)] T_string ∧ Blk w' zb [.int .i64 0] T_int ∧ pb ≠ sb ∧ Ext No w3 w' ∧ w3.heap.size ≤ sb ∧ w3.heap.size ≤ pb ∧ w3.heap.size ≤ zb) hP3.len ?_ (VL_script_changes_3 hP3.len ?_)
  rotate_left
  · unfold SP_script_changes_3
    rw [hP3.s]
    refine c_SplitSeq.mono ?_
    rintro r w4 ⟨pb, sb, zb, rfl, h⟩
    exact ⟨rfl, ⟨rfl, rfl, hP3.r, hP3.e, hP3.l⟩, pb, sb, zb, rfl, h⟩
  rintro e l4 w4 ⟨rfl, hP4, pb, sb, zb, h16, hpb, hsb, hzb, hps, hE34, gsb, gpb, gzb⟩
  rw [htl] at hsb
  have h4s := hE34.size
  have psz := hpb.lt
  have ssz := hsb.lt
  have zsz := hzb.lt
  refine wpIn_block ?_
  refine rf_split (c := 44) (ps := l.map chgW) (I := fun i W => QW w rb eb lb (w4.heap.size + 2) (l.take i) W) h16 hpb hsb hzb hps (by simpa using hnil) (fun p hp => by obtain ⟨q, -, rfl⟩ := List.mem_map.1 hp; exact chgW_no q) (by omega) ?_ (fun i W W' h e => h.extN e) ?_ ?_ ?_
  · exact ⟨⟨_, hl2.ext hE34 fun h => h, CO.nil _ _ _, rfl⟩, hr2.ext hE34 fun h => h, he2.ext hE34 fun h => h, hE2.transN hE34⟩
  · rintro i W W' hI ⟨x, hx⟩ ⟨r, hr⟩ ⟨d, hd⟩ e
    refine hI.extF e ?_ ?_ ?_ ?_ ?_ ?_
    · rintro b (rfl | rfl | rfl) hb
      · exact ⟨by omega, fun cs fz h => by rw [hx.h] at h; cases h⟩
      · exact ⟨by omega, fun cs fz h => by rw [hr] at h; cases h⟩
      · exact ⟨by omega, fun cs fz h => by rw [hd] at h; cases h⟩
    all_goals (intros; omega)
  · intro lp m i W hi hI
    have hil : i < l.length := by simpa using hi
    have hmem := List.getElem_mem hil
    have hps : (l.map chgW)[i] = chgW l[i] := by simp
    rw [hps]
    refine vcI (freeR P lp) E_script_changes_4 (n := 27) (Q := fun e l' w' => e = .normal ∧ PF 27 l' ((tellCs l).1) rb eb lb ∧ l'.getD 5 undef = str (chgW l[i]) ∧ w' = W) (by rw [List.length_set]; exact hP4.len) ?_ (VL_script_changes_4 (by rw [List.length_set]; exact hP4.len) ?_)
    rotate_left
    · unfold SP_script_changes_4
      exact ⟨rfl, ⟨rfl, (setD (by omega)).trans hP4.s, (setD (by omega)).trans hP4.r, (setD (by omega)).trans hP4.e, (setD (by omega)).trans hP4.l⟩, setS (by rw [hP4.len]; omega), rfl⟩
    rintro e l5 w5 ⟨rfl, hP5, h5, rfl⟩
    refine ⟨rfl, fun W2 hI2 g1 g2 g3 g4 => ?_⟩
    obtain ⟨vw, hb, ho, hone⟩ := hI2.row
    refine vcI (freeR P lp) E_script_changes_5 (n := 27) (Q := fun e l' W3 => e = .normal ∧ QW w rb eb lb (w4.heap.size + 2) (l.take (i + 1)) W3 ∧ Ext (fun b => b ≠ sb ∧ b ≠ pb ∧ b ≠ zb ∧ b ≠ w4.heap.size + 1 ∧ b ≠ w4.heap.size) W2 W3) hP5.len ?_ (VL_script_changes_5 hP5.len ?_)
    · rintro e l' W3 h; exact h
    unfold SP_script_changes_5
    rw [h5, hP5.r, hP5.e, hP5.l]
    refine (c_change (by have := hI2.w.size; omega) (hk _ hmem) (hv _ hmem) (chsE_zero hz _ hmem)).mono ?_
    rintro r w6 ⟨kv, rfl, hkv, he6⟩
    refine xnew fun cb w7 hcb hcb7 hz7 he7 => ?_
    have hkv7 := hkv.extN he7
    refine store4 hcb7 (by kernel_rfl) hkv.one1 rfl rfl rfl fun w8 hcb8 hz8 he8 => ?_
    refine xifF rfl ?_
    have hE8 : Ext No W2 w8 := (he6.transN he7).trans1 he8 (by have := he6.size; omega)
    refine (hb.ext hE8 fun h => h).ld (o := 0) rfl ?_
    refine hcb8.ldA rfl ?_
    have hkv8 := hkv7.ext he8 (chg_nb hcb7 (by decide) (by have := he6.size; have := hI2.w.size; omega))
    obtain ⟨ad, cp, rfl⟩ := hkv8.slice
    show XNew w8 [.slice ad l[i].key.length cp, .int .i64 l[i].kind, u64 l[i].was, u64 l[i].is] T_delta_Change _
    refine xnew fun xb w9 hxb hxblk hz9 he9 => ?_
    have hE9 := hE8.transN he9
    have hs9 := hE9.size
    refine CO.app2 (m := [l[i]]) ei_dch (by decide) (by omega) (by omega) (ho.extN hE9) (hxblk.sln (n := 1) rfl) (CC.sing (hkv8.extN he9) (hv _ hmem)) (by simp; omega) fun v' w10 ho10 hE10 hone10 => ?_
    have hb10 := (hb.ext hE9 fun h => h).ext hE10 (by omega)
    refine hb10.st1 (o := 0) (by simp) hone10 rfl fun w11 hb11 hz11 he11 => ?_
    have hr11 := ((hI2.r.ext hE9 fun h => h).ext hE10 (by omega)).ext he11 (by omega)
    have he11' := ((hI2.e.ext hE9 fun h => h).ext hE10 (by omega)).ext he11 (by omega)
    have hE10' : Ext (w4.heap.size + 2 ≤ ·) W2 w10 := (hE9.mono fun b _ h => h.elim).transS hE10
    refine ⟨rfl, ⟨⟨v', hb11, ?_, hone10⟩, hr11, he11', ?_⟩, ?_⟩
    · rw [← List.take_append_getElem hil]
      exact ho10.extF he11 (fun b hX hlt => ⟨by have : b = lb := hX; omega, fun cs fz h => by have e : b = lb := hX; rw [e, hb10.h] at h; cases h⟩) fun b hB hX => by have : b = lb := hX; omega
    · exact (hI2.w.trans hE10' fun b hb' hX => by have : w4.heap.size + 2 ≤ b := hX; have := hE2.size; omega).trans1 he11 (by have := hE1.size; omega)
    · refine (hE10'.mono fun b _ hX => ?_).trans (he11.up (Y := fun b => b ≠ sb ∧ b ≠ pb ∧ b ≠ zb ∧ b ≠ w4.heap.size + 1 ∧ b ≠ w4.heap.size) fun b hX => ?_) fun b _ h => h
      · have : w4.heap.size + 2 ≤ b := hX
        refine ⟨?_, ?_, ?_, ?_, ?_⟩ <;> omega
      · have : b = lb := hX
        refine ⟨?_, ?_, ?_, ?_, ?_⟩ <;> omega
  · intro W hI hD
    rw [List.length_map, List.take_length] at hI
    obtain ⟨vw, hb, ho, hone⟩ := hI.row
    refine vcI (freeW P) E_script_changes_6 (n := 27) (Q := fun e l' W3 => e = .ret ∧ PF 27 l' ((tellCs l).1) rb eb lb ∧ Blk W3 rb [vw] T_s_delta_Change ∧ Blk W3 eb [.int .i64 0] T_api_Errno ∧ Ext No w W3 ∧ CO W3 (w4.heap.size + 2) T_delta_Change vw l ∧ W3.heap[w4.heap.size]? = some (.deferred (some []))) hP4.len ?_ (VL_script_changes_6 hP4.len ?_)
    rotate_left
    · unfold SP_script_changes_6
      rw [hP4.r, hP4.e, hP4.l]
      refine hb.ld (o := 0) rfl ?_
      refine hI.r.st1 (o := 0) (by simp) hone rfl fun w5 hb5 hz5 he5 => ?_
      have he25 := hI.e.ext he5 (by omega)
      refine he25.st1 (o := 0) (by simp) rfl rfl fun w6 hb6 hz6 he6 => ?_
      have f1 : Foul W (· = rb) := fun b hX hlt => ⟨by have : b = rb := hX; omega, fun cs fz h => by have e : b = rb := hX; rw [e, hI.r.h] at h; cases h⟩
      have f2 : Foul w5 (· = eb) := fun b hX hlt => ⟨by have : b = eb := hX; omega, fun cs fz h => by have e : b = eb := hX; rw [e, he25.h] at h; cases h⟩
      refine ⟨rfl, ⟨rfl, hP4.s, rfl, rfl, rfl⟩, hb5.ext he6 (by omega), hb6, (hI.w.trans1 he5 (by omega)).trans1 he6 (by omega), (ho.extF he5 f1 fun b hB hX => ?_).extF he6 f2 fun b hB hX => ?_, ?_⟩
      · have : b = rb := hX; omega
      · have : b = eb := hX; omega
      · rw [he6.same _ (by have := lt_of_get hD; omega) (by omega), he5.same _ (lt_of_get hD) (by omega)]; exact hD
    rintro e l6 w6 ⟨rfl, hP6, hr6, he6, hE6, ho6, hD6⟩
    refine leave1 hD6 (VR_script_changes ?_)
    have hEx := putObj_ext (W := w6) (l := w4.heap.size) (o := .deferred none)
    rw [hP6.r, hP6.e]
    refine (hr6.ext hEx (by omega)).ld (o := 0) rfl ?_
    refine (he6.ext hEx (by omega)).ld (o := 0) rfl ?_
    have f1 : Foul w6 (· = w4.heap.size) := fun b hX hlt => ⟨by have : b = w4.heap.size := hX; omega, fun cs fz h => by have e : b = w4.heap.size := hX; rw [e, hD6] at h; cases h⟩
    exact ⟨vw, rfl, (ho6.extF hEx f1 fun b hB hX => by have : b = w4.heap.size := hX; omega).cs (.inl rfl), hE6.trans1 hEx (by omega)⟩
end
end Go.Proofs.YtbfnagdpanfphaaGreatDoor
end
