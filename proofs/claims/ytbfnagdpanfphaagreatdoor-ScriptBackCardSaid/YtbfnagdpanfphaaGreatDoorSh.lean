/-  scripts: a line is parsed; lines; what is alive; what is too much.  -/
import Derived.Test.YtbfnagdpanfphaaGreatDoorSg
section
namespace Go.Proofs.YtbfnagdpanfphaaGreatDoor
open Go Go.RowKit X
set_option linter.unusedSimpArgs false
set_option linter.unusedVariables false
set_option linter.unusedSectionVars false
/-! ### no blank stands in a word -/
def Hi (l : List UInt8) : Prop := ∀ c ∈ l, 33 ≤ c.toNat
theorem hi_app {l m : List UInt8} (h : Hi l) (k : Hi m) : Hi (l ++ m) := fun c hc => (List.mem_append.1 hc).elim (h c) (k c)
theorem hi_cons {c : UInt8} {l : List UInt8} (h : 33 ≤ c.toNat) (k : Hi l) : Hi (c :: l) := fun d hd => (List.mem_cons.1 hd).elim (fun e => e ▸ h) (k d)
theorem hi_nil : Hi [] := fun c hc => by cases hc
theorem hi_dec (n : Nat) : Hi (decK n) := fun c hc => by have := decK_dig n c hc; omega
theorem hexD_hi : ∀ d : Fin 16, 48 ≤ (hexD d.1).toNat := by decide +kernel
theorem hexK_hi {k : Key} {c : UInt8} (h : c ∈ hexK k) : 48 ≤ c.toNat := by
  unfold hexK at h
  obtain ⟨d, -, hd⟩ := List.mem_flatMap.1 h
  have hl := u8_lt d
  unfold hexB at hd
  simp only [List.mem_cons, List.mem_nil_iff, or_false] at hd
  rcases hd with rfl | rfl
  · exact hexD_hi ⟨d.toNat / 16, by omega⟩
  · exact hexD_hi ⟨d.toNat % 16, by omega⟩
theorem hi_key (k : Key) : Hi (keyW k) := by
  unfold keyW
  split
  · exact hi_cons (by decide) hi_nil
  · exact fun c hc => by have := hexK_hi hc; omega
theorem hi_num (n : Int) : Hi (numK n) := by
  unfold numK
  split
  · exact hi_cons (by decide) (hi_dec _)
  · exact hi_dec _
theorem hi_pair (p : Key × Nat) : Hi (pairW p) := hi_app (hi_key _) (hi_cons (by decide) (hi_dec _))
theorem hi_chg (c : Chg) : Hi (chgW c) := by
  unfold chgW
  split
  · exact hi_cons (by decide) (hi_app (hi_key _) (hi_cons (by decide) (hi_dec _)))
  · split
    · exact hi_cons (by decide) (hi_app (hi_key _) (hi_cons (by decide) (hi_dec _)))
    · exact hi_cons (by decide) (hi_app (hi_key _) (hi_cons (by decide) (hi_app (hi_dec _) (hi_cons (by decide) (hi_dec _)))))
theorem hi_join {c : UInt8} (hc : 33 ≤ c.toNat) : ∀ {ps : List (List UInt8)}, (∀ p ∈ ps, Hi p) → Hi (joinC c ps)
  | [], _ => hi_nil
  | [p], h => h p (by simp)
  | p :: q :: r, h => hi_app (h p (by simp)) (hi_cons hc (hi_join hc (ps := q :: r) fun x hx => h x (List.mem_cons_of_mem _ hx)))
theorem hi_ps (l : Kv) : Hi (tellPs l) := by
  unfold tellPs
  split
  · exact hi_cons (by decide) hi_nil
  · exact hi_join (by decide) fun p hp => by obtain ⟨q, -, rfl⟩ := List.mem_map.1 hp; exact hi_pair q
theorem hi_cs (l : List Chg) : Hi (tellCs l).1 := by
  unfold tellCs
  split
  · split
    · exact hi_cons (by decide) hi_nil
    · exact hi_join (by decide) fun p hp => by obtain ⟨q, -, rfl⟩ := List.mem_map.1 hp; exact hi_chg q
  · exact hi_nil
theorem hi_tellN (n : Int) : Hi (tellN n).1 := by
  unfold tellN
  split
  · exact hi_nil
  · exact hi_num n
theorem hi_tellK (k : Key) : Hi (tellK k).1 := by
  unfold tellK
  split
  · exact hi_nil
  · exact hi_key k
theorem hi_word (o : OpV) (s : UInt8) : Hi (tellW o s).1 := by
  unfold tellW
  repeat' split
  all_goals first | exact hi_tellN _ | exact hi_tellK _ | exact hi_cons (by decide) hi_nil | exact hi_dec _ | exact hi_ps _ | exact hi_cs _ | skip
  · exact hi_cons (by decide) (hi_cons (by decide) (hi_cons (by decide) (hi_cons (by decide) hi_nil)))
  · exact hi_cons (by decide) (hi_cons (by decide) hi_nil)
theorem names_hi : ∀ i : Fin 32, ∀ c ∈ namesL.getD i.1 [], 33 ≤ c.toNat := by decide +kernel
theorem hi_name (n : Int) : Hi (nameK n) := by
  cases e : inK n
  · rw [nameK_nil.2 e]; exact hi_nil
  · obtain ⟨i, rfl⟩ := inK_fin e
    rw [nameK_at]; exact names_hi i
theorem hi_not {l : List UInt8} (h : Hi l) {c : UInt8} (hc : c.toNat < 33) : c ∉ l := fun hm => by have := h c hm; omega
theorem keyW_star {k : Key} : keyW k ≠ [42] := by
  unfold keyW
  split
  · simp
  · intro e
    have := congrArg List.length e
    rw [hexK_length] at this
    simp at this
    omega
theorem tellN_ok {n : Int} (h : (tellN n).2 = 0) : (-999999999 ≤ n ∧ n ≤ 999999999) ∧ (tellN n).1 = numK n := by
  unfold tellN at h ⊢
  split at h
  · cases h
  · rename_i h1
    rw [if_neg h1]
    exact ⟨by omega, rfl⟩
theorem tellK_ok {k : Key} (h : (tellK k).2 = 0) : k.length ≤ 65535 ∧ (tellK k).1 = keyW k := by
  unfold tellK at h ⊢
  split at h
  · cases h
  · rename_i h1
    rw [if_neg h1]
    exact ⟨by omega, rfl⟩
variable [Floor]
/-- what the words of pairs and of changes are read back as -/
def PairsC (o : OpV) : Prop := ∀ w : World, Floor.n ≤ w.heap.size → Ret P n_script_pairs [str (tellPs o.prs)] w fun r w' => ∃ v, r = .tuple #[v, .int .i64 0] ∧ Ps w' v o.prs ∧ Ext No w w'
def ChangesC (o : OpV) : Prop := ∀ w : World, Floor.n ≤ w.heap.size → Ret P n_script_changes [str (tellCs o.chg).1] w fun r w' => ∃ v, r = .tuple #[v, .int .i64 0] ∧ Cs w' v o.chg ∧ Ext No w w'
section
variable {w w' : World} {o : OpV} {cs cs' : List Value} {s : UInt8} {l : List UInt8} {b : Nat}
theorem c_find (j : Fin 32) : Ret P n_script_find [str (namesL.getD j.1 [])] w fun r w' => r = .int .i64 ((j.1 + 1 : Nat) : Int) ∧ Ext No w w' := by
  refine W_script_find ?_
  refine c_forms.mono ?_
  rintro r w1 ⟨b, rfl, hblk, he⟩
  have hj := j.2
  refine xloop (fun n vs w' => ∃ (i : Nat) (x y : Value), vs = [.int .i64 i, x, y] ∧ i ≤ j.1 ∧ n = 32 - i ∧ Ext No w w') 32 ⟨0, _, _, rfl, by omega, rfl, he⟩ ?_
  rintro n vs g w2 ⟨i, x, y, rfl, hi, rfl, he2⟩
  refine xifT (decide_eq_true (by omega)) ?_
  refine xi (r := ((i + 1 : Nat) : Int)) (by rw [wrapI (by omega)]; omega) ?_
  refine c_Name.mono ?_
  rintro r w3 ⟨rfl, he3⟩
  rw [nameK_at ⟨i, by omega⟩]
  refine xseq ?_
  refine xifD (fun h => ?_) fun h => ?_
  · have := names_inj ⟨i, by omega⟩ j h
    refine xi (r := ((i + 1 : Nat) : Int)) (by rw [wrapI (by omega)]; omega) ⟨?_, he2.transN he3⟩
    rw [← this]
  · refine xi (r := ((i + 1 : Nat) : Int)) (by rw [wrapI (by omega)]; omega) ?_
    refine xnext (32 - (i + 1)) (by omega) ⟨i + 1, _, _, rfl, ?_, rfl, he2.transN he3⟩
    rcases Nat.lt_or_ge i j.1 with h1 | h1
    · omega
    · have : i = j.1 := by omega
      subst this
      exact absurd rfl h
set_option maxRecDepth 100000 in
theorem c_word (hf : Floor.n ≤ b) (hw : Floor.n ≤ w.heap.size) (hb : Blk w b cs' T_artmap_Op) (ho : OpC w (bareP o l) cs') (hN : o.Near) (hs : s ∈ SG) (h0 : (tellW o s).2 = 0) (hP : s = 112 → PairsC o) (hC : s = 99 → ChangesC o) :
    Ret P n_script_word [.pointer (some ⟨b, 0, none⟩), .int .i32 s.toNat, str (tellW o s).1] w fun r w' => ∃ cs2, r = .int .i64 0 ∧ Blk w' b cs2 T_artmap_Op ∧ OpC w' (bareP o (l ++ [s])) cs2 ∧ Ext (· = b) w w' := by
  obtain ⟨kv, tv, pv, cv, bv', rfl, h1, h2, h3, h4, h5⟩ := ho
  refine W_script_word ?_
  refine xj (fun vs w' => ∃ cs2 x0 x2 x3 x4 x5 x6 x7 x8 x9, vs = [x0, .int .i64 0, x2, x3, x4, x5, x6, x7, x8, x9] ∧ Blk w' b cs2 T_artmap_Op ∧ OpC w' (bareP o (l ++ [s])) cs2 ∧ Ext (· = b) w w') ?_ ?_
  · have hop : OpC w (bareP o l) _ := ⟨kv, tv, pv, cv, bv', rfl, h1, h2, h3, h4, h5⟩
    have up : ∀ {w1 : World}, Ext No w w1 → ∀ {w2 : World}, Ext (· = b) w1 w2 → Ext (· = b) w w2 := fun {w1} e1 {w2} e2 => (e1.mono fun _ _ h => h.elim).transS e2
    simp only [SG, List.mem_cons, List.mem_nil_iff, or_false] at hs
    rcases hs with rfl | rfl | rfl | rfl | rfl | rfl | rfl | rfl | rfl | rfl
    · obtain ⟨a1, a2⟩ := tellN_ok (n := o.a) h0
      refine xifT rfl ?_
      show Ret P n_script_number [str (tellN o.a).1] w _
      rw [a2]
      refine (c_number a1).mono ?_
      rintro r w1 ⟨rfl, he1⟩
      have hb1 := hb.ext he1 fun h => h
      refine hb1.st1 (o := 1) (by simp) rfl rfl fun w2 hb2 hz2 he2 => ?_
      refine ⟨_, _, _, _, _, _, _, _, _, _, rfl, hb2, ?_, up he1 he2⟩
      rw [bareP_97]
      exact OpC.ext1 ⟨kv, tv, pv, cv, bv', rfl, h1.extN he1, h2.extN he1, h3.extN he1, h4.extN he1, h5.extN he1⟩ he2 hb1 hf
    · obtain ⟨a1, a2⟩ := tellN_ok (n := o.b) h0
      refine xifF rfl (xifT rfl ?_)
      show Ret P n_script_number [str (tellN o.b).1] w _
      rw [a2]
      refine (c_number a1).mono ?_
      rintro r w1 ⟨rfl, he1⟩
      have hb1 := hb.ext he1 fun h => h
      refine hb1.st1 (o := 2) (by simp) rfl rfl fun w2 hb2 hz2 he2 => ?_
      refine ⟨_, _, _, _, _, _, _, _, _, _, rfl, hb2, ?_, up he1 he2⟩
      rw [bareP_98]
      exact OpC.ext1 ⟨kv, tv, pv, cv, bv', rfl, h1.extN he1, h2.extN he1, h3.extN he1, h4.extN he1, h5.extN he1⟩ he2 hb1 hf
    · obtain ⟨a1, a2⟩ := tellN_ok (n := o.n) h0
      refine xifF rfl (xifF rfl (xifT rfl ?_))
      show Ret P n_script_number [str (tellN o.n).1] w _
      rw [a2]
      refine (c_number a1).mono ?_
      rintro r w1 ⟨rfl, he1⟩
      have hb1 := hb.ext he1 fun h => h
      refine hb1.st1 (o := 7) (by simp) rfl rfl fun w2 hb2 hz2 he2 => ?_
      refine ⟨_, _, _, _, _, _, _, _, _, _, rfl, hb2, ?_, up he1 he2⟩
      rw [bareP_110]
      exact OpC.ext1 ⟨kv, tv, pv, cv, bv', rfl, h1.extN he1, h2.extN he1, h3.extN he1, h4.extN he1, h5.extN he1⟩ he2 hb1 hf
    · obtain ⟨a1, a2⟩ := tellK_ok (k := o.key) h0
      refine xifF rfl (xifF rfl (xifF rfl (xifT rfl ?_)))
      show Ret P n_script_key [str (tellK o.key).1] w _
      rw [a2]
      refine (c_key a1).mono ?_
      rintro r w1 ⟨rv, rfl, hr, he1⟩
      have hb1 := hb.ext he1 fun h => h
      refine hb1.st1 (o := 3) (by simp) hr.one1 rfl fun w2 hb2 hz2 he2 => ?_
      refine ⟨_, _, _, _, _, _, _, _, _, _, rfl, hb2, ?_, up he1 he2⟩
      rw [bareP_107]
      exact OpC.ext1 ⟨rv, tv, pv, cv, bv', rfl, hr, h2.extN he1, h3.extN he1, h4.extN he1, h5.extN he1⟩ he2 hb1 hf
    · refine xifF rfl (xifF rfl (xifF rfl (xifF rfl (xifT rfl ?_))))
      have e116 := bareP_116 o l
      have ht : tellW o 116 = if o.opn then (([42] : List UInt8), 0) else tellK o.to := rfl
      rw [ht] at h0 ⊢
      cases eo : o.opn
      · rw [eo] at h0 e116
        obtain ⟨a1, a2⟩ := tellK_ok (k := o.to) h0
        rw [if_neg (by decide), a2]
        refine xseq ?_
        rw [decide_eq_false keyW_star]
        refine hb.st1 (o := 5) (by simp) rfl rfl fun w2 hb2 hz2 he2 => ?_
        refine hb2.ld (o := 5) (v := .bool false) rfl ?_
        refine xifT rfl ?_
        refine (c_key a1).mono ?_
        rintro r w3 ⟨rv, rfl, hr, he3⟩
        have hop2 := (hop.ext1 he2 hb hf).extN he3
        obtain ⟨kv3, tv3, pv3, cv3, bv3, hc3, f1, f2, f3, f4, f5⟩ := hop2
        simp only [List.cons.injEq, and_true, true_and] at hc3
        obtain ⟨rfl, rfl, rfl, rfl, rfl⟩ := hc3
        have hb3 := hb2.ext he3 fun h => h
        refine hb3.st1 (o := 4) (by simp) hr.one1 rfl fun w4 hb4 hz4 he4 => ?_
        refine ⟨_, _, _, _, _, _, _, _, _, _, rfl, hb4, ?_, (he2.transN he3).transS he4⟩
        rw [e116]
        exact OpC.ext1 ⟨_, rv, _, _, _, rfl, f1, hr, f3, f4, f5⟩ he4 hb3 hf
      · rw [eo] at e116
        rw [if_pos rfl]
        refine xseq ?_
        rw [decide_eq_true rfl]
        refine hb.st1 (o := 5) (by simp) rfl rfl fun w2 hb2 hz2 he2 => ?_
        refine hb2.ld (o := 5) (v := .bool true) rfl ?_
        refine xifF rfl ?_
        refine ⟨_, _, _, _, _, _, _, _, _, _, rfl, hb2, ?_, he2⟩
        rw [e116]
        exact OpC.ext1 ⟨kv, tv, pv, cv, bv', rfl, h1, h2, h3, h4, h5⟩ he2 hb hf
    · refine xifF rfl (xifF rfl (xifF rfl (xifF rfl (xifF rfl (xifT rfl ?_)))))
      show Ret P n_script_value [str (decK o.val)] w _
      refine (c_value hN.val).mono ?_
      rintro r w1 ⟨rfl, he1⟩
      have hb1 := hb.ext he1 fun h => h
      refine hb1.st1 (o := 6) (by simp) rfl rfl fun w2 hb2 hz2 he2 => ?_
      refine ⟨_, _, _, _, _, _, _, _, _, _, rfl, hb2, ?_, up he1 he2⟩
      rw [bareP_118]
      exact OpC.ext1 ⟨kv, tv, pv, cv, bv', rfl, h1.extN he1, h2.extN he1, h3.extN he1, h4.extN he1, h5.extN he1⟩ he2 hb1 hf
    · refine xifF rfl (xifF rfl (xifF rfl (xifF rfl (xifF rfl (xifF rfl (xifT rfl ?_))))))
      show Ret P n_script_way [str (if o.falls then [100, 111, 119, 110] else [117, 112])] w _
      refine (c_way o.falls).mono ?_
      rintro r w1 ⟨rfl, rfl⟩
      refine hb.st1 (o := 8) (by simp) rfl rfl fun w2 hb2 hz2 he2 => ?_
      refine ⟨_, _, _, _, _, _, _, _, _, _, rfl, hb2, ?_, he2⟩
      rw [bareP_102]
      exact OpC.ext1 ⟨kv, tv, pv, cv, bv', rfl, h1, h2, h3, h4, h5⟩ he2 hb hf
    · refine xifF rfl (xifF rfl (xifF rfl (xifF rfl (xifF rfl (xifF rfl (xifF rfl (xifT rfl ?_)))))))
      show Ret P n_script_pairs [str (tellPs o.prs)] w _
      refine (hP rfl w hw).mono ?_
      rintro r w1 ⟨rv, rfl, hr, he1⟩
      have hb1 := hb.ext he1 fun h => h
      refine hb1.st1 (o := 9) (by simp) hr.one1 rfl fun w2 hb2 hz2 he2 => ?_
      refine ⟨_, _, _, _, _, _, _, _, _, _, rfl, hb2, ?_, up he1 he2⟩
      rw [bareP_112]
      exact OpC.ext1 ⟨kv, tv, rv, cv, bv', rfl, h1.extN he1, h2.extN he1, hr, h4.extN he1, h5.extN he1⟩ he2 hb1 hf
    · refine xifF rfl (xifF rfl (xifF rfl (xifF rfl (xifF rfl (xifF rfl (xifF rfl (xifF rfl (xifT rfl ?_))))))))
      show Ret P n_script_changes [str (tellCs o.chg).1] w _
      refine (hC rfl w hw).mono ?_
      rintro r w1 ⟨rv, rfl, hr, he1⟩
      have hb1 := hb.ext he1 fun h => h
      refine hb1.st1 (o := 10) (by simp) hr.one1 rfl fun w2 hb2 hz2 he2 => ?_
      refine ⟨_, _, _, _, _, _, _, _, _, _, rfl, hb2, ?_, up he1 he2⟩
      rw [bareP_99]
      exact OpC.ext1 ⟨kv, tv, pv, rv, bv', rfl, h1.extN he1, h2.extN he1, h3.extN he1, hr, h5.extN he1⟩ he2 hb1 hf
    · obtain ⟨a1, a2⟩ := tellK_ok (k := o.bytes) h0
      refine xifF rfl (xifF rfl (xifF rfl (xifF rfl (xifF rfl (xifF rfl (xifF rfl (xifF rfl (xifF rfl ?_))))))))
      show Ret P n_script_key [str (tellK o.bytes).1] w _
      rw [a2]
      refine (c_key a1).mono ?_
      rintro r w1 ⟨rv, rfl, hr, he1⟩
      have hb1 := hb.ext he1 fun h => h
      refine hb1.st1 (o := 11) (by simp) hr.one1 rfl fun w2 hb2 hz2 he2 => ?_
      refine ⟨_, _, _, _, _, _, _, _, _, _, rfl, hb2, ?_, up he1 he2⟩
      rw [bareP_120]
      exact OpC.ext1 ⟨kv, tv, pv, cv, rv, rfl, h1.extN he1, h2.extN he1, h3.extN he1, h4.extN he1, hr⟩ he2 hb1 hf
  · rintro vs g w1 ⟨cs2, x0, x2, x3, x4, x5, x6, x7, x8, x9, rfl, hb2, ho2, he2⟩
    exact ⟨cs2, rfl, hb2, ho2, he2⟩
theorem Ss.ext1 {v : Value} {ps : List (List UInt8)} {cs0 : List Value} {T : TypeId} (h : Ss w v ps) (e : Ext (· = b) w w') (hb : Blk w b cs0 T) (hT : T ≠ T_string) : Ss w' v ps := Sl.ext1 h e fun c hc _ => by
  have hc : c = b := hc
  subst hc
  exact ⟨cs0, T, hb, hT⟩
set_option maxRecDepth 100000 in
theorem c_Parse (hf : Floor.n ≤ w.heap.size) (hN : o.Near) (h0 : nameK o.do_ ≠ []) (hz : ∀ c ∈ signsK o.do_, (tellW o c).2 = 0) (hP : 112 ∈ signsK o.do_ → PairsC o) (hC : 99 ∈ signsK o.do_ → ChangesC o) :
    Ret P n_script_Parse [str (lineK o)] w fun r w' => ∃ cs', r = .tuple #[.agg cs'.toArray, .int .i64 0] ∧ OpC w' (bareK o) cs' ∧ Ext No w w' := by
  obtain ⟨i0, hi0⟩ : ∃ i : Fin 32, o.do_ = ((i.1 + 1 : Nat) : Int) := by
    cases e : inK o.do_
    · exact absurd (nameK_nil.2 e) h0
    · exact inK_fin e
  have hll := lineK_len hN
  obtain ⟨ps, hps⟩ : ∃ ps : List (List UInt8), ps = nameK o.do_ :: (signsK o.do_).map fun s => (tellW o s).1 := ⟨_, rfl⟩
  have hline : lineK o = joinC 32 ps := by rw [hps]; rfl
  have hnb : ∀ p ∈ ps, (32 : UInt8) ∉ p := by
    intro p hp
    rw [hps] at hp
    rcases List.mem_cons.1 hp with rfl | hp
    · exact hi_not (hi_name _) (by decide)
    · obtain ⟨s, -, rfl⟩ := List.mem_map.1 hp
      exact hi_not (hi_word o s) (by decide)
  refine W_script_Parse ?_
  refine xnew fun zb w1 hzb hzblk hz1 he1 => ?_
  rw [hline] at hll ⊢
  refine (c_Split (by rw [hps]; simp) hnb (by omega)).mono ?_
  rintro v w2 ⟨hv, he2⟩
  have hE2 := he1.transN he2
  have hzb2 : Blk w2 zb zOp T_artmap_Op := hzblk.ext he2 fun h => h
  have hpl : ps.length = (signsK o.do_).length + 1 := by rw [hps]; simp
  have hp0 : ps[0]'(by omega) = nameK o.do_ := by subst hps; rfl
  refine hv.rd 0 (by omega) rfl ?_
  rw [hp0]
  have hfind := c_find (w := w2) i0
  rw [← nameK_at, ← hi0] at hfind
  refine hfind.mono ?_
  rintro r w3 ⟨rfl, he3⟩
  have hE3 := hE2.transN he3
  have hzb3 := hzb2.ext he3 fun h => h
  show XNew w3 zOp T_artmap_Op _
  refine xnew fun xb w5 hxb hxblk hz5 he5 => ?_
  have hE5 := hE3.transN he5
  have hzb5 := hzb3.ext he5 fun h => h
  show XDo P (storeVar T_artmap_Op ⟨xb, 0, none⟩ (.agg (List.toArray [.int .i64 o.do_, .int .i64 0, .int .i64 0, .slice none 0 0, .slice none 0 0, .bool false, .int .u64 0, .int .i64 0, .bool false, .slice none 0 0, .slice none 0 0, .slice none 0 0]))) w5 _
  refine store12 hxblk rfl (by kernel_rfl) rfl (one_do o.do_) fun w6 hx6 hz6 he6 => ?_
  have hs1 := he1.size
  have hs3 := hE3.size
  have hzx : zb ≠ xb := by have := hzb3.lt; omega
  have hwx : w.heap.size ≤ xb := by omega
  have hwz : w.heap.size ≤ zb := by omega
  have hxf : Floor.n ≤ xb := Nat.le_trans hf hwx
  have hE6 := hE5.trans1 he6 hwx
  have hzb6 := hzb5.ext he6 hzx
  have hv6 : Ss w6 v ps := (((hv.extN he3).extN he5)).ext1 he6 hxblk (by decide)
  refine hx6.ld (o := 0) (v := .int .i64 o.do_) rfl ?_
  refine xifF (by rw [hi0]; simp; omega) ?_
  refine hx6.ld (o := 0) (v := .int .i64 o.do_) rfl ?_
  refine c_form.mono ?_
  rintro r w7 ⟨rfl, he7⟩
  have hE7 := hE6.transN he7
  refine (hv6.extN he7).drop 1 rfl (by omega) fun v1 hv1 => ?_
  refine xrange fun ib w8 hib hz8 hit he8 => ?_
  have hE8 := hE7.transN he8
  have hx8 := (hx6.ext he7 fun h => h).ext he8 fun h => h
  have hzb8 := (hzb6.ext he7 fun h => h).ext he8 fun h => h
  have hxi : xb ≠ ib := by have := (hx6.ext he7 fun h => h).lt; omega
  have hzi : zb ≠ ib := by have := (hzb6.ext he7 fun h => h).lt; omega
  have hwi : w.heap.size ≤ ib := by have := hE7.size; omega
  have hlen := signsK_len o.do_
  refine xloop (fun n vs w' => ∃ (i : Nat) (x0 vw x2 x3 : Value) (cs' : List Value), vs = [x0, vw, x2, x3] ∧ i ≤ (signsK o.do_).length ∧ n = (signsK o.do_).length - i ∧ It w' ib (signsK o.do_) i ∧ Ss w' vw ((ps.drop 1).drop i) ∧ Blk w' zb zOp T_artmap_Op ∧ Blk w' xb cs' T_artmap_Op ∧ OpC w' (bareP o ((signsK o.do_).take i)) cs' ∧ Ext No w w') (signsK o.do_).length
    ⟨0, _, v1, _, _, _, rfl, by omega, rfl, hit, hv1.extN he8, hzb8, hx8, ⟨_, _, _, _, _, rfl, Bs.nil _, Bs.nil _, Ps.nil _, Cs.nil _, Bs.nil _⟩, hE8⟩ ?_
  rintro n vs g w9 ⟨i, x0, vw, x2, x3, cs', rfl, hi, rfl, hit9, hv9, hzb9, hx9, ho9, hE9⟩
  by_cases hil : i < (signsK o.do_).length
  · obtain ⟨hs128, hsg⟩ := signsK_small (List.getElem_mem hil)
    have htk : (signsK o.do_).take (i + 1) = (signsK o.do_).take i ++ [(signsK o.do_)[i]] := (List.take_append_getElem hil).symm
    refine xnextA hit9 hil hs128 fun w10 hit10 hz10 he10 => ?_
    refine xifT rfl ?_
    have hv10 : Ss w10 vw ((ps.drop 1).drop i) := Sl.extI hv9 he10 hit9
    have hx10 := hx9.ext he10 hxi
    have hzb10 := hzb9.ext he10 hzi
    have ho10 := ho9.extI he10 hit9
    have hE10 := hE9.trans1 he10 hwi
    have hdl : ((ps.drop 1).drop i).length = (signsK o.do_).length - i := by simp; omega
    refine hv10.len ?_
    refine xifF (by simp; omega) ?_
    refine hv10.rd 0 (by omega) rfl ?_
    have hwd : ((ps.drop 1).drop i)[0]'(by omega) = (tellW o (signsK o.do_)[i]).1 := by
      subst hps
      simp
    rw [hwd]
    refine (c_word hxf (by have := hE10.size; omega) hx10 ho10 hN hsg (hz _ (List.getElem_mem hil)) (fun e => hP (e ▸ List.getElem_mem hil)) (fun e => hC (e ▸ List.getElem_mem hil))).mono ?_
    rintro r w11 ⟨cs2, rfl, hx11, ho11, he11⟩
    refine xifF rfl ?_
    have hv11 : Ss w11 vw ((ps.drop 1).drop i) := hv10.ext1 he11 hx10 (by decide)
    refine hv11.drop 1 rfl (by omega) fun v2 hv2 => ?_
    rw [List.drop_drop, Nat.add_comm] at hv2
    refine xnext ((signsK o.do_).length - (i + 1)) (by omega) ⟨i + 1, _, v2, _, _, cs2, rfl, by omega, rfl, hit10.ext he11 (fun e => hxi e.symm), ?_, hzb10.ext he11 hzx, hx11, by rw [htk]; exact ho11, hE10.trans1 he11 hwx⟩
    rw [Nat.add_comm 1 i] at hv2
    exact hv2
  · have : i = (signsK o.do_).length := by omega
    subst this
    refine xnextE hit9 (Nat.le_refl _) ?_
    refine xifF rfl ?_
    have hdl : ((ps.drop 1).drop (signsK o.do_).length).length = 0 := by simp; omega
    refine hv9.len ?_
    rw [hdl]
    refine xifF rfl ?_
    rw [List.take_length] at ho9
    refine hx9.ldA ho9.len ?_
    refine store12 hzb9 rfl (by kernel_rfl) ho9.len ho9.one fun w10 hz10 _ he10 => ?_
    refine hz10.ldA ho9.len ?_
    have e : bareK o = bareP o (signsK o.do_) := by unfold bareK bareP; dsimp only; rw [if_neg h0]
    refine ⟨_, rfl, ?_, hE9.trans1 he10 hwz⟩
    rw [e]
    exact ho9.ext1 he10 hzb9 (Nat.le_trans hf hwz)
/-! ### lines -/
theorem c_Lines {ps : List (List UInt8)} (h0 : ps ≠ []) (hc : ∀ p ∈ ps, (10 : UInt8) ∉ p) (hl : (joinC 10 ps).length ≤ 10000000) : Ret P n_script_Lines [str (joinC 10 ps)] w fun r w' => Ss w' r (if ps.getLast h0 = [] then ps.take (ps.length - 1) else ps) ∧ Ext No w w' := by
  refine W_script_Lines ?_
  refine (c_Split h0 hc (by omega)).mono ?_
  rintro v w1 ⟨hv, he⟩
  have hn : 0 < ps.length := List.length_pos_iff.2 h0
  have hjl := joinC_le (c := 10) (ps := ps)
  have hlast : ps[ps.length - 1]'(by omega) = ps.getLast h0 := (List.getLast_eq_getElem h0).symm
  refine xj (fun vs w' => ∃ r, vs = [r] ∧ Ss w' r (if ps.getLast h0 = [] then ps.take (ps.length - 1) else ps) ∧ w' = w1) ?_ ?_
  · refine hv.len ?_
    refine xi (r := ((ps.length - 1 : Nat) : Int)) (by rw [wrapI (by omega)]; omega) ?_
    refine hv.rd (ps.length - 1) (by omega) rfl ?_
    rw [hlast]
    refine xseq ?_
    refine xifD (fun h => ?_) fun h => ⟨v, rfl, by rw [if_neg h]; exact hv, rfl⟩
    refine hv.len ?_
    refine xi (r := ((ps.length - 1 : Nat) : Int)) (by rw [wrapI (by omega)]; omega) ?_
    exact hv.take (ps.length - 1) rfl (by omega) fun v' hv' => ⟨v', rfl, by rw [if_pos h]; exact hv', rfl⟩
  rintro vs g w2 ⟨r, rfl, hr, rfl⟩
  exact ⟨hr, he⟩
/-! ### alive -/
def oA : OpV := ⟨3, 1, 0, [1, 2], [], false, 5, 0, false, [], [], []⟩
theorem oA_line : lineK oA = [112, 117, 116, 32, 49, 32, 48, 49, 48, 50, 32, 53] := by decide +kernel
theorem oA_text : textK oA = ([112, 117, 116, 32, 49, 32, 48, 49, 48, 50, 32, 53], 0) := by decide +kernel
theorem oA_bare : bareK oA = oA := by
  have h1 : nameK oA.do_ ≠ [] := by decide +kernel
  have h2 : signsK oA.do_ = [97, 107, 118] := by decide +kernel
  unfold bareK
  dsimp only
  rw [if_neg h1, h2]
  rfl
theorem oA_near : oA.Near := ⟨by decide, by decide, by decide, by decide, by decide, by decide, by decide, by decide, by decide, by decide, by simp [oA], by simp [oA], by simp [oA], by simp [oA], by simp [oA]⟩
theorem name32 : nameK 32 = [99, 111, 117, 110, 116] := by decide +kernel
set_option maxRecDepth 100000 in
theorem c_alive36 (ht : Tab w) (hf : Floor.n ≤ w.heap.size) : Ret P n_law36_alive [] w fun r w' => r = .bool true ∧ Ext No w w' := by
  refine W_law36_alive ?_
  have hp := c_Parse (w := w) hf oA_near (by decide +kernel) (by decide +kernel) (fun h => absurd h (by decide +kernel)) (fun h => absurd h (by decide +kernel))
  rw [oA_line, oA_bare] at hp
  refine hp.mono ?_
  rintro r w1 ⟨cs1, rfl, ho1, he1⟩
  refine xnew fun b w2 hb hblk hz2 he2 => ?_
  refine store12 hblk rfl (by kernel_rfl) ho1.len ho1.one fun w3 hb3 hz3 he3 => ?_
  have hs1 := he1.size
  have hbf : Floor.n ≤ b := by omega
  have hE3 : Ext No w w3 := (he1.transN he2).trans1 he3 (by omega)
  have ho3 := (ho1.extN he2).ext1 he3 hblk hbf
  refine hb3.ldA ho1.len ?_
  refine (c_sText (ht.extN hE3) ho3 oA_near).mono ?_
  rintro r w4 ⟨rfl, he4⟩
  have hE4 := hE3.transN he4
  have hb4 := hb3.ext he4 fun h => h
  have ho4 := ho3.extN he4
  rw [oA_text]
  refine xj (fun vs w' => vs = [.bool true] ∧ Ext No w w') ?_ ?_
  · have ho5 := ho4
    obtain ⟨kv, tv, pv, cv, bv', hcs, h1, h2, h3, h4, h5⟩ := ho5
    refine hb4.ld (o := 0) (v := .int .i64 3) (by rw [hcs]; rfl) ?_
    refine xifT rfl ?_
    refine hb4.ld (o := 1) (v := .int .i64 1) (by rw [hcs]; rfl) ?_
    refine xifT rfl ?_
    refine hb4.ld (o := 3) (v := kv) (by rw [hcs]; rfl) ?_
    refine h1.len ?_
    refine xifT rfl ?_
    refine hb4.ld (o := 6) (v := u64 5) (by rw [hcs]; rfl) ?_
    refine xifT rfl ?_
    refine xifT rfl ?_
    refine xseq ?_
    refine xifT (decide_eq_true rfl) ?_
    refine xifT rfl ?_
    refine c_Name.mono ?_
    rintro r w5 ⟨rfl, he5⟩
    rw [name32]
    refine xseq ?_
    refine xifT (decide_eq_true rfl) ?_
    have hls := c_Lines (w := w5) (ps := [[97], [98], []]) (by simp) (by decide) (by decide)
    refine hls.mono ?_
    rintro r w6 ⟨hr, he6⟩
    have hr : Ss w6 r [[97], [98]] := hr
    refine hr.len ?_
    refine xifT rfl ?_
    have hb6 := (hb4.ext he5 fun h => h).ext he6 fun h => h
    have hE6 := (hE4.transN he5).transN he6
    refine hb6.ldA ho1.len ?_
    refine (c_sBare (by have := hE6.size; omega) ((ho4.extN he5).extN he6) oA_near).mono ?_
    rintro r w7 ⟨cs7, rfl, ho7, he7⟩
    obtain ⟨kv7, tv7, pv7, cv7, bv7, hcs7, -⟩ := ho7
    rw [hcs7, oA_bare]
    exact ⟨rfl, hE6.transN he7⟩
  · rintro vs g w5 ⟨rfl, he5⟩
    exact ⟨rfl, he5⟩
/-! ### too much -/
structure OpV.Little (o : OpV) : Prop where
  key : o.key.length ≤ 66000
  to : o.to.length ≤ 66000
  bytes : o.bytes.length ≤ 66000
  prs : o.prs.length ≤ 60
  chg : o.chg.length ≤ 60
  pk : ∀ p ∈ o.prs, p.1.length ≤ 300
  ck : ∀ c ∈ o.chg, c.key.length ≤ 300
set_option maxRecDepth 100000 in
theorem c_far36 (ho : OpC w o cs) : Ret P n_law36_far [.agg cs.toArray] w fun r w' => (r = .bool true ∨ r = .bool false ∧ o.Little) ∧ Ext No w w' := by
  obtain ⟨kv, tv, pv, cv, bv', rfl, h1, h2, h3, h4, h5⟩ := ho
  obtain ⟨a1, c1, rfl⟩ := h1.slice
  obtain ⟨a2, c2, rfl⟩ := h2.slice
  obtain ⟨a5, c5, rfl⟩ := h5.slice
  refine W_law36_far ?_
  show XNew w [.int .i64 o.do_, .int .i64 o.a, .int .i64 o.b, .slice a1 o.key.length c1, .slice a2 o.to.length c2, .bool o.opn, u64 o.val, .int .i64 o.n, .bool o.falls, pv, cv, .slice a5 o.bytes.length c5] T_ref35_Op _
  refine xnew fun ab w1 hab hb1 hz1 he1 => ?_
  refine hb1.ld (o := 3) rfl ?_
  refine hb1.ld (o := 4) rfl ?_
  refine hb1.ld (o := 11) rfl ?_
  show XNew w1 [.slice a1 o.key.length c1, .slice a2 o.to.length c2, .slice a5 o.bytes.length c5] T_s_uint8 _
  refine xnew fun kb w2 hkb hk2 hz2 he2 => ?_
  have hE2 := he1.transN he2
  have hb2 := hb1.ext he2 fun h => h
  have hsl : Sl w2 (tyQ T_s_uint8) (.slice (some ⟨kb, 0, none⟩) 3 3) 1 3 [.slice a1 o.key.length c1, .slice a2 o.to.length c2, .slice a5 o.bytes.length c5] := hk2.sln (n := 3) rfl
  refine xLen_sl hsl ?_
  refine xloop (fun n vs w' => ∃ (i : Nat) (x y : Value), vs = [.int .i64 i, x, y] ∧ i ≤ 3 ∧ n = 3 - i ∧ (∀ j k, j < i → [o.key, o.to, o.bytes][j]? = some k → k.length ≤ 66000) ∧ w' = w2) 3 ⟨0, _, _, rfl, by omega, rfl, fun j k h => by omega, rfl⟩ ?_
  rintro n vs g w3 ⟨i, x, y, rfl, hi, rfl, hk, rfl⟩
  refine xifD (fun hlt => ?_) fun hge => ?_
  · obtain ⟨v, k, hv, hkk, hvk⟩ : ∃ (v : Value) (k : Key), ([.slice a1 o.key.length c1, .slice a2 o.to.length c2, .slice a5 o.bytes.length c5] : List Value)[i]? = some v ∧ [o.key, o.to, o.bytes][i]? = some k ∧ Bs w3 v k := by
      have : i = 0 ∨ i = 1 ∨ i = 2 := by omega
      rcases this with rfl | rfl | rfl
      · exact ⟨_, _, rfl, rfl, h1.extN hE2⟩
      · exact ⟨_, _, rfl, rfl, h2.extN hE2⟩
      · exact ⟨_, _, rfl, rfl, h5.extN hE2⟩
    refine hsl.rd1 i rfl (by omega) hv ?_
    refine xj (fun vs w' => vs = [.bool (decide (300 < k.length ∧ k.length ≤ 65535 ∨ 66000 < k.length))] ∧ w' = w3) ?_ ?_
    · refine hvk.len ?_
      refine xifD (fun c1 => ?_) fun c1 => ?_
      · refine hvk.len ?_
        refine xifD (fun c2 => ⟨?_, rfl⟩) fun c2 => ?_
        · rw [decide_eq_true (p := 300 < k.length ∧ k.length ≤ 65535 ∨ 66000 < k.length) (by omega)]
        · refine hvk.len ⟨?_, rfl⟩
          by_cases c3 : 66000 < k.length
          · rw [decide_eq_true (p := 300 < k.length ∧ k.length ≤ 65535 ∨ 66000 < k.length) (by omega), decide_eq_true (by omega)]
          · rw [decide_eq_false (p := 300 < k.length ∧ k.length ≤ 65535 ∨ 66000 < k.length) (by omega), decide_eq_false (by omega)]
      · refine hvk.len ⟨?_, rfl⟩
        rw [decide_eq_false (p := 300 < k.length ∧ k.length ≤ 65535 ∨ 66000 < k.length) (by omega), decide_eq_false (by omega)]
    rintro vs g w4 ⟨rfl, rfl⟩
    refine xifD (fun h => ⟨.inl rfl, hE2⟩) fun h => ?_
    refine xi (r := ((i + 1 : Nat) : Int)) (by rw [wrapI (by omega)]; omega) ?_
    refine xnext (3 - (i + 1)) (by omega) ⟨i + 1, _, _, rfl, by omega, rfl, fun j k' hj hk' => ?_, rfl⟩
    rcases Nat.lt_or_ge j i with hj1 | hj1
    · exact hk j k' hj1 hk'
    · have : j = i := by omega
      subst this
      rw [hkk] at hk'
      rw [← Option.some.inj hk']
      omega
  · have : i = 3 := by omega
    subst this
    have l1 := hk 0 _ (by omega) rfl
    have l2 := hk 1 _ (by omega) rfl
    have l3 := hk 2 _ (by omega) rfl
    refine xj (fun vs w' => vs = [.bool (decide (60 < o.prs.length ∨ 60 < o.chg.length))] ∧ w' = w3) ?_ ?_
    · refine hb2.ld (o := 9) (v := pv) rfl ?_
      refine (h3.extN hE2).len ?_
      refine xifD (fun c1 => ⟨?_, rfl⟩) fun c1 => ?_
      · rw [decide_eq_true (p := 60 < o.prs.length ∨ 60 < o.chg.length) (by omega)]
      · refine hb2.ld (o := 10) (v := cv) rfl ?_
        refine (h4.extN hE2).len ⟨?_, rfl⟩
        by_cases c2 : 60 < o.chg.length
        · rw [decide_eq_true (p := 60 < o.prs.length ∨ 60 < o.chg.length) (by omega), decide_eq_true (by omega)]
        · rw [decide_eq_false (p := 60 < o.prs.length ∨ 60 < o.chg.length) (by omega), decide_eq_false (by omega)]
    rintro vs g w4 ⟨rfl, rfl⟩
    refine xifD (fun h => ⟨.inl rfl, hE2⟩) fun hm => ?_
    refine hb2.ld (o := 9) (v := pv) rfl ?_
    refine (h3.extN hE2).len ?_
    refine xloop (fun n vs w' => ∃ (i : Nat) (x : Value), vs = [.int .i64 i, x] ∧ i ≤ o.prs.length ∧ n = o.prs.length - i ∧ (∀ p ∈ o.prs.take i, p.1.length ≤ 300) ∧ Ext No w4 w') o.prs.length ⟨0, _, rfl, by omega, rfl, by simp, Ext.refl _ _⟩ ?_
    rintro n vs g w5 ⟨i, x, rfl, hi, rfl, hp, he5⟩
    have hE5 := hE2.transN he5
    refine xifD (fun hlt => ?_) fun hge => ?_
    · have hil : i < o.prs.length := by omega
      refine (h3.extN hE5).var i rfl hil (T := T_ref01_Pair) (by kernel_rfl) fun pb w6 kv hb6 he6 hsz hkv => ?_
      refine hb6.ld (o := 0) (v := kv) rfl ?_
      refine hkv.len ?_
      refine xifD (fun h => ⟨.inl rfl, hE5.transN he6⟩) fun h => ?_
      refine xi (r := ((i + 1 : Nat) : Int)) (by rw [wrapI (by omega)]; omega) ?_
      refine xnext (o.prs.length - (i + 1)) (by omega) ⟨i + 1, _, rfl, by omega, rfl, fun p hp2 => ?_, he5.transN he6⟩
      rw [← List.take_append_getElem hil] at hp2
      rcases List.mem_append.1 hp2 with hp2 | hp2
      · exact hp p hp2
      · rw [List.mem_singleton.1 hp2]; omega
    · have : i = o.prs.length := by omega
      subst this
      rw [List.take_length] at hp
      refine (hb2.ext he5 fun h => h).ld (o := 10) (v := cv) rfl ?_
      refine (h4.extN hE5).len ?_
      refine xloop (fun n vs w' => ∃ (i : Nat) (x : Value), vs = [.int .i64 i, x] ∧ i ≤ o.chg.length ∧ n = o.chg.length - i ∧ (∀ p ∈ o.chg.take i, p.key.length ≤ 300) ∧ Ext No w5 w') o.chg.length ⟨0, _, rfl, by omega, rfl, by simp, Ext.refl _ _⟩ ?_
      rintro n vs g w6 ⟨i, x, rfl, hi, rfl, hq, he6⟩
      have hE6 := hE5.transN he6
      refine xifD (fun hlt => ?_) fun hge => ?_
      · have hil : i < o.chg.length := by omega
        refine (h4.extN hE6).var i rfl hil (T := T_ref29_Change) (by kernel_rfl) fun pb w7 kv hb7 he7 hsz hkv => ?_
        refine hb7.ld (o := 0) (v := kv) rfl ?_
        refine hkv.len ?_
        refine xifD (fun h => ⟨.inl rfl, hE6.transN he7⟩) fun h => ?_
        refine xi (r := ((i + 1 : Nat) : Int)) (by rw [wrapI (by omega)]; omega) ?_
        refine xnext (o.chg.length - (i + 1)) (by omega) ⟨i + 1, _, rfl, by omega, rfl, fun p hp2 => ?_, he6.transN he7⟩
        rw [← List.take_append_getElem hil] at hp2
        rcases List.mem_append.1 hp2 with hp2 | hp2
        · exact hq p hp2
        · rw [List.mem_singleton.1 hp2]; omega
      · have : i = o.chg.length := by omega
        subst this
        rw [List.take_length] at hq
        exact ⟨.inr ⟨rfl, ⟨l1, l2, l3, by omega, by omega, hp, hq⟩⟩, hE6⟩
/-! ### the law -/
set_option maxRecDepth 100000 in
theorem l_ScriptTexts (ht : Tab w) (hf : Floor.n ≤ w.heap.size) (ho : OpC w o cs) (hN : o.Little → o.Near) : Ret P n_law36_ScriptTexts [.agg cs.toArray] w fun r w' => r = .bool true ∧ Ext No w w' := by
  refine W_law36_ScriptTexts ?_
  show XNew w cs T_ref35_Op _
  refine xnew fun b w1 hb hblk hz1 he1 => ?_
  refine hblk.ldA ho.len ?_
  refine (c_far36 (ho.extN he1)).mono ?_
  rintro r w2 ⟨hr, he2⟩
  have hE2 := he1.transN he2
  have hb2 := hblk.ext he2 fun h => h
  rcases hr with rfl | ⟨rfl, hl⟩
  · refine xifT rfl ?_
    refine (c_alive36 (ht.extN hE2) (Nat.le_trans hf hE2.size)).mono ?_
    rintro r w3 ⟨rfl, he3⟩
    exact ⟨rfl, hE2.transN he3⟩
  have hN := hN hl
  refine xifF rfl ?_
  refine hb2.ldA ho.len ?_
  refine (c_op36 (Nat.le_trans hf hE2.size) (ho.extN hE2) hN).mono ?_
  rintro r w3 ⟨cs3, rfl, ho3, he3⟩
  have hE3 := hE2.transN he3
  refine (c_sText (ht.extN hE3) ho3 hN).mono ?_
  rintro r w4 ⟨rfl, he4⟩
  have hE4 := hE3.transN he4
  have hb4 := (hb2.ext he3 fun h => h).ext he4 fun h => h
  refine xtup (v := str (textK o).1) rfl (xtup (v := .int .i64 ((textK o).2 : Nat)) rfl ?_)
  refine hb4.ldA ho.len ?_
  refine (c_rText36 (ho.extN hE4) hN).mono ?_
  rintro r w5 ⟨rfl, he5⟩
  have hE5 := hE4.transN he5
  have hb5 := hb4.ext he5 fun h => h
  refine xtup (v := str (textK o).1) rfl (xtup (v := .int .i64 ((textK o).2 : Nat)) rfl ?_)
  refine xj (fun vs w' => vs = [.bool true] ∧ Ext No w w') ?_ ?_
  · refine xseq ?_
    refine xifT (decide_eq_true rfl) ?_
    refine xifT (by simp) ?_
    have keep : ∀ {w' : World}, Ext No w5.drew w' → xKeepN w' (.pointer (some ⟨b, 0, none⟩)) (.agg cs.toArray) := fun {w'} e => by
      have hb' := hb5.drew.ext e fun h => h
      show ∀ i, i < cs.toArray.size → w'.cell? ((⟨b, 0, none⟩ : Addr).add i) = cs.toArray[i]?
      intro i hi
      rw [Addr.add_lit, hb'.cell]
      simp
    refine hb5.drew.ldA ho.len ?_
    refine hb5.drew.ldA ho.len ?_
    have hE5d := hE5.drew
    refine (c_op36 (Nat.le_trans hf hE5d.size) (ho.extN hE5d) hN).mono ?_
    rintro r w6 ⟨cs6, rfl, ho6, he6⟩
    refine ⟨keep he6, ?_⟩
    have hE6 := hE5d.transN he6
    refine (c_sBare (Nat.le_trans hf hE6.size) ho6 hN).mono ?_
    rintro r w7 ⟨cs7, rfl, ho7, he7⟩
    refine ⟨keep (he6.transN he7), ?_⟩
    have hE7 := hE6.transN he7
    refine (c_plainly36 (Nat.le_trans hf hE7.size) ho7 hN.bare).mono ?_
    rintro r w8 ⟨cs8, rfl, ho8, he8⟩
    refine ⟨keep ((he6.transN he7).transN he8), ?_⟩
    have hE8 := hE7.transN he8
    refine (c_rBare36 (Nat.le_trans hf hE8.size) (ho.extN hE8)).mono ?_
    rintro r w9 ⟨cs9, rfl, ho9, he9⟩
    have hE9 := hE8.transN he9
    refine (c_rSame36 (ho8.extN he9) ho9 hN.bare).mono ?_
    rintro r w10 ⟨rfl, he10⟩
    have hE10 := hE9.transN he10
    refine xifT rfl ?_
    refine (c_alive36 (ht.extN hE10) (Nat.le_trans hf hE10.size)).mono ?_
    rintro r w11 ⟨rfl, he11⟩
    exact ⟨rfl, hE10.transN he11⟩
  · rintro vs g w6 ⟨rfl, he6⟩
    exact ⟨rfl, he6⟩
end
end Go.Proofs.YtbfnagdpanfphaaGreatDoor
end
