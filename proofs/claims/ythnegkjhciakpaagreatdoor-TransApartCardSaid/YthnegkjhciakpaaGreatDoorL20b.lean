/-  law20: transients: TransSame.  -/
import Derived.Test.YthnegkjhciakpaaGreatDoorL20
namespace Go.Proofs.YthnegkjhciakpaaGreatDoor
open Go Go.RowKit X
set_option linter.unusedSimpArgs false
set_option linter.unusedVariables false
set_option linter.unusedSectionVars false
/-- zero bytes put behind a row without room -/
theorem app_zeros_full [Floor] {w : World} {g n : Nat} {q : Key} {ty : TypeId} {K : Value → World → Prop} (hg : Blk w g (q.map bv) T_uint8) (h0 : 0 < n) (hn : n ≤ 1000000) (hq : q.length ≤ 1000000) (hfl : Floor.n ≤ w.heap.size)
    (k : ∀ v' w', Bs w' v' (q ++ List.replicate n 0) → Ext No w w' → K v' w') : XRun P (Builtin.append_ #[T_s_uint8, T_int] ty #[.slice (some ⟨g, 0, none⟩) q.length q.length, .int .i64 n]) w K := by
  obtain ⟨i, hi1, hi2, hi3, hi4⟩ := ei_u8.parts
  have hge := grownCap_ge w (q.length + n) q.length T_uint8
  have hcm : grownCap w (q.length + n) q.length T_uint8 ≤ maxLen := grownCap_le_maxLen w (q.length + n) q.length T_uint8 (by unfold maxLen; omega)
  have hr : (Builtin.append_ #[T_s_uint8, T_int] ty #[.slice (some ⟨g, 0, none⟩) q.length q.length, .int .i64 n]).run P w =
      .ok (.slice (some ⟨w.heap.size, 0, none⟩) (q.length + n) (grownCap w (q.length + n) q.length T_uint8))
        (w.drew.alloc (.cells ((q.map bv).toArray ++ Builtin.zeroCells (Value.int .u8 0).cells n ++ Builtin.zeroCells (Value.int .u8 0).cells (grownCap w (q.length + n) q.length T_uint8 - (q.length + n))) T_uint8)) := by
    have hw : IntKind.i64.wrap (n : Int) = n := by rw [IntKind.wrap_i64]; omega
    have hneg : ¬ ((n : Int) < 0) := by omega
    have hn0 : n ≠ 0 := by omega
    have hns : ¬ (n * i.size = 0) := Nat.mul_ne_zero hn0 (by omega)
    have h48i : ¬ (281474976710656 < (n : Int) * (i.bytes : Int)) := by rw [hi4]; omega
    have hnc : ¬ (q.length + n ≤ q.length) := by omega
    have h63' : ¬ (9223372036854775807 < ((q.length : Int) + (n : Int))) := by omega
    have h48' : ¬ (281474976710656 < Builtin.nextslicecap (q.length + n) q.length * i.bytes) := by
      have := nextslicecap_le (need := q.length + n) (old := q.length) (by omega)
      rw [hi4]; omega
    have hfo := run_firstCells_some (P := P) w.drew i.size q.length ⟨g, 0, none⟩ q.length q.length (q.map bv) (by rw [hi3]; simp) (fun j v hv => by
      rw [Addr.add_lit]
      show w.cell? _ = _
      rw [hg.cell, Nat.zero_add]
      exact hv)
    simp [Builtin.append_, run_underlying ei_u8.u, run_underlying intU, sizeOf, typeInfo, zeroValue, hi1, hi2, asInt, asIntOf, hw, hn0, hneg, hns, h63', h48', h48i, hnc, Question.forced, hfo, newRow, grownCap]
  have hz : ∀ m j, j < m → (Builtin.zeroCells (Value.int .u8 0).cells m)[j]? = some (Value.int .u8 0) := fun m j hj => by
    unfold Builtin.zeroCells
    simp [Value.cells, hj]
    rw [Nat.mod_one]
    rfl
  refine ⟨_, _, hr, k _ _ ?_ ⟨rfl, rfl, rfl, by simp, fun k hk _ => heap_alloc_old w.drew _ hk⟩⟩
  have hlen : (q ++ List.replicate n (0 : UInt8)).length = q.length + n := by simp
  have hzn : ∀ m, (Builtin.zeroCells (Value.int .u8 0).cells m).size = m := fun m => by rw [size_zeroCells]; simp [Value.cells]
  show Sl _ _ _ 1 (q ++ List.replicate n 0).length _
  rw [hlen]
  refine ⟨_, _, rfl, by simp, hge, .inr ⟨w.heap.size, 0, _, _, _, rfl, .inl rfl, heap_alloc_new w.drew _, ?_, fun j hj => ?_⟩⟩
  · simp only [Array.size_append, List.size_toArray, hzn, List.length_map]
    omega
  · rw [Nat.mul_one] at hj
    rw [Nat.zero_add, Array.getElem?_append_left (by simp only [Array.size_append, List.size_toArray, hzn, List.length_map]; omega), List.map_append]
    by_cases h : j < q.length
    · rw [Array.getElem?_append_left (by simpa using h), List.getElem?_append_left (by simpa using h)]
      simp
    · rw [Array.getElem?_append_right (by simpa using Nat.le_of_not_lt h), List.getElem?_append_right (by simpa using Nat.le_of_not_lt h), List.size_toArray, List.length_map, hz n (j - q.length) (by omega), List.map_replicate, List.getElem?_replicate, if_pos (by omega)]
      rfl
variable [Floor]
namespace law20
/-- what puts make of pairs -/
def putL (m pl : Kv) : Kv := pl.foldl (fun s p => insK s p.1 p.2) m
theorem putL_snoc (m pl : Kv) (p : Key × Nat) : putL m (pl ++ [p]) = insK (putL m pl) p.1 p.2 := by unfold putL; rw [List.foldl_append]; rfl
theorem putL_take {m pl : Kv} {i : Nat} (h : i < pl.length) : putL m (pl.take (i + 1)) = insK (putL m (pl.take i)) pl[i].1 pl[i].2 := by
  rw [← List.take_append_getElem h, putL_snoc]
abbrev longK : Key := [1, 2, 3] ++ List.replicate 301 0
theorem longK_len : longK.length = 304 := by
  show (([1, 2, 3] : Key) ++ List.replicate 301 0).length = 304
  rw [List.length_append, List.length_replicate]
  rfl
section
variable {w : World} {v vp : Value} {l pl : Kv}
set_option maxHeartbeats 1000000 in
theorem l_TransSame (hw : Lw w) (hl : Ps w v l) (hp : Ps w vp pl) : Ret P n_law20_TransSame [v, vp] w fun r w' => r = .bool true ∧ Ext No w w' := by
  refine W_law20_TransSame ?_
  refine xj (fun vs w' => ∃ b, vs = [.bool b] ∧ Ext No w w' ∧ (b = false → (l.length ≤ 100 ∧ ∀ p ∈ l, p.1.length ≤ 300) ∧ (pl.length ≤ 40 ∧ ∀ p ∈ pl, p.1.length ≤ 300))) ?_ ?_
  · refine (c_far (m := 100) hl (by omega)).mono ?_
    rintro r w1 ⟨b, rfl, he1, hb⟩
    cases b with
    | true => exact xifT rfl ⟨true, rfl, he1, fun h => by cases h⟩
    | false =>
      refine xifF rfl ?_
      refine (c_far (m := 40) (hp.extN he1) (by omega)).mono ?_
      rintro r w2 ⟨b, rfl, he2, hb2⟩
      exact ⟨b, rfl, he1.transN he2, fun h => ⟨hb rfl, hb2 h⟩⟩
  rintro vs g w1 ⟨b, rfl, he1, hb⟩
  have hw1 := hw.extN he1
  cases b with
  | true =>
    refine xifT rfl ?_
    refine (c_alive hw1).mono ?_
    rintro r w2 ⟨rfl, he2⟩
    exact ⟨rfl, he1.transN he2⟩
  | false =>
    refine xifF rfl ?_
    obtain ⟨⟨l1, l3⟩, p4, p3⟩ := hb rfl
    have hpr : Pr (sortK l) := Pr.sort (by omega) fun p h => by have := l3 p h; omega
    have hm1 : (sortK l).length ≤ 100 := Nat.le_trans (sortK_length l) l1
    have hnk : look (sortK l) longK = none := look_none.2 fun q hq e => by
      have h1 := l3 q (sortK_mem hq)
      have e' : q.1 = longK := e
      rw [e', longK_len] at h1
      omega
    refine (c_WNew (B := w1.heap.size) hw1 (Nat.le_refl _) hw1.fl).mono ?_
    rintro _ w2 ⟨rfl, hI2, he2⟩
    refine (c_rSort (hl.extN (he1.transN he2)) (by omega) (fun p h => by have := l3 p h; omega)).mono ?_
    rintro vl w3 ⟨hso, he3⟩
    have hps := hso.ps he3 (.inr rfl)
    generalize sortK l = m at hpr hso hps hm1 hnk
    refine (c_pairs hps (by omega)).mono ?_
    rintro va w4 ⟨hva, he4⟩
    have he24 := he3.transN he4
    refine (c_From (hI2.extN he24) hva hpr (by omega)).mono ?_
    rintro _ w5 ⟨v0, t0, rfl, -, -, hI5, -, hE5⟩
    have hv5 : updV (fun _ => none) v0 (t0, m) v0 = some (t0, m) := updV_same _ _ _
    generalize updV (fun _ => none) v0 (t0, m) = V at hI5 hv5
    have hE25 : VE w1.heap.size w2 w5 := (VE.no he24).trans hE5
    refine (c_Edit (TI.of hI5) hv5 (by omega)).mono ?_
    rintro _ w6 ⟨tb, rfl, htb, hT6, hE6⟩
    have hr6 := updM_same (fun _ => none) tb ⟨0 + 1 + 1, v0, t0, m⟩
    generalize updM (fun _ => none) tb ⟨0 + 1 + 1, v0, t0, m⟩ = M6 at hT6 hr6
    refine (c_Edit hT6 hv5 (by omega)).mono ?_
    rintro _ w7 ⟨ib, rfl, hib, hT7, hE7⟩
    have hne : ib ≠ tb := fun e => by have := (hT6.tr tb _ hr6).blk.lt; omega
    have hi7 := updM_same M6 ib ⟨0 + 1 + 1 + 1, v0, t0, m⟩
    have hr7 : updM M6 ib ⟨0 + 1 + 1 + 1, v0, t0, m⟩ tb = some ⟨0 + 1 + 1, v0, t0, m⟩ := (updM_other (Ne.symm hne)).trans hr6
    generalize updM M6 ib ⟨0 + 1 + 1 + 1, v0, t0, m⟩ = M7 at hT7 hi7 hr7
    have hE27 := (hE25.trans hE6).trans hE7
    have hp2 := hp.extN (he1.transN he2)
    have hl2 := hl.extN (he1.transN he2)
    refine xj (fun vs w' => vs = [.bool false] ∧ w7 = w') ?_ ?_
    · refine xpeq_vb ?_
      refine xifF rfl ?_
      refine xpeq_vb ?_
      refine xifF rfl ?_
      refine xifF rfl ?_
      exact ⟨rfl, rfl⟩
    rintro vs g w8 ⟨rfl, rfl⟩
    refine xifF rfl ?_
    refine hp2.len ?_
    refine xloop (fun n vs w' => ∃ (i vx n' : Nat) (tx t1 : T) (V' : Nat → Option (T × Kv)) (M' : Nat → Option TrR), vs = [.int .i64 i, rp vx] ∧ n = pl.length - i ∧ i ≤ pl.length ∧ TI w1.heap.size w' w1.heap.size n' (0 + 1 + 1 + 1 + i) V' M' (fun _ => False) ∧
        V' vx = some (tx, putL m (pl.take i)) ∧ V' v0 = some (t0, m) ∧ M' tb = some ⟨0 + 1 + 1, v0, t1, putL m (pl.take i)⟩ ∧ M' ib = some ⟨0 + 1 + 1 + 1, v0, t0, m⟩ ∧ VE w1.heap.size w2 w' ∧ (putL m (pl.take i)).length ≤ 100 + i) pl.length
      ⟨0, v0, _, t0, t0, V, M7, rfl, rfl, by omega, hT7, hv5, hv5, hr7, hi7, hE27, by simpa [putL] using hm1⟩ ?_
    rintro n vs g w8 ⟨i, vx, n', tx, t1, V', M', rfl, rfl, hi, hT8, hvx, hv0, hr8, hi8, hE8, hln⟩
    unfold S_law20_TransSame_l2
    refine xifD (fun hlt => ?_) fun hge => ?_
    · have hil : i < pl.length := by omega
      have hpk := p3 _ (List.getElem_mem hil)
      have hp8 := hE8.ps hp2
      have hx8 := hp8.get hil
      refine hp8.rd i rfl hil fun kv hkv => ?_
      refine xnew fun b w9 hb9 hbl hz9 he9 => ?_
      refine xstoreVar hbl (by kernel_rfl) (by simp) ?_ fun w10 hb10 hz10 he10 => ?_
      · intro u hu
        simp only [List.mem_cons, List.mem_nil_iff, or_false] at hu
        rcases hu with rfl | rfl
        · exact hkv.one1
        · rfl
      have hb10 : Blk w10 b [kv, u64 pl[i].2] T_ref01_Pair := by simpa using hb10
      have hE10 : Ext No w8 w10 := he9.trans1 he10 (by omega)
      refine hb10.ld (o := 0) (v := kv) rfl ?_
      refine hb10.ld (o := 1) (v := u64 pl[i].2) rfl ?_
      refine (c_TPut (hT8.extN hE10) hr8 (hkv.extN hE10) (by omega) hx8 (by show (putL m (pl.take i)).length < _; omega)).mono ?_
      rintro _ w11 ⟨rfl, hE11, t2, n2, hT11, -⟩
      have hr11 := updM_same M' tb ⟨0 + 1 + 1, v0, t2, insK (putL m (pl.take i)) pl[i].1 pl[i].2⟩
      have hi11 : updM M' tb ⟨0 + 1 + 1, v0, t2, insK (putL m (pl.take i)) pl[i].1 pl[i].2⟩ ib = some ⟨0 + 1 + 1 + 1, v0, t0, m⟩ := (updM_other hne).trans hi8
      generalize updM M' tb ⟨0 + 1 + 1, v0, t2, insK (putL m (pl.take i)) pl[i].1 pl[i].2⟩ = M11 at hT11 hr11 hi11
      have hb11 := hE11.blk hb10 nvty_pair
      refine hb11.ld (o := 0) (v := kv) rfl ?_
      refine hb11.ld (o := 1) (v := u64 pl[i].2) rfl ?_
      have hk11 := hE11.bs (hkv.extN hE10)
      refine (c_VPutT hT11 hvx hk11 (by omega) hx8 (by omega) (by omega)).mono ?_
      rintro _ w12 ⟨hE12, vx2, tx2, n3, V2, rfl, hT12, hvx2, hkeep⟩
      refine xi (r := ((i + 1 : Nat) : Int)) (by rw [wrapI (by omega)]; omega) ?_
      refine xnext (pl.length - (i + 1)) (by omega) ⟨i + 1, vx2, n3, tx2, t2, V2, M11, rfl, rfl, by omega, hT12, by rw [putL_take hil]; exact hvx2, hkeep _ _ hv0, by rw [putL_take hil]; exact hr11, hi11, ((hE8.transN hE10).trans hE11).trans hE12, ?_⟩
      rw [putL_take hil]
      have := insK_length (putL m (pl.take i)) pl[i].1 pl[i].2
      omega
    · have : i = pl.length := by omega
      subst this
      rw [List.take_length] at hvx hr8
      generalize putL m pl = L at hvx hr8
      refine hl2.len ?_
      refine xloop (fun n vs w' => ∃ (i n' : Nat) (M' : Nat → Option TrR), vs = [.int .i64 i] ∧ n = l.length - i ∧ i ≤ l.length ∧ TI w1.heap.size w' w1.heap.size n' (0 + 1 + 1 + 1 + pl.length) V' M' (fun _ => False) ∧
          M' tb = some ⟨0 + 1 + 1, v0, t1, L⟩ ∧ M' ib = some ⟨0 + 1 + 1 + 1, v0, t0, m⟩ ∧ VE w1.heap.size w2 w') l.length
        ⟨0, n', M', rfl, rfl, by omega, hT8, hr8, hi8, hE8⟩ ?_
      rintro n vs g w9 ⟨i, n9, M9, rfl, rfl, hi, hT9, hr9, hi9, hE9⟩
      unfold S_law20_TransSame_l1
      refine xifD (fun hlt => ?_) fun hge => ?_
      · have hil : i < l.length := by omega
        have hpk := l3 _ (List.getElem_mem hil)
        have hl9 := hE9.ps hl2
        refine hl9.rd i rfl hil fun kv hkv => ?_
        refine xnew fun b w10 hb10 hbl hz10 he10 => ?_
        refine xstoreVar hbl (by kernel_rfl) (by simp) ?_ fun w11 hb11 hz11 he11 => ?_
        · intro u hu
          simp only [List.mem_cons, List.mem_nil_iff, or_false] at hu
          rcases hu with rfl | rfl
          · exact hkv.one1
          · rfl
        have hb11 : Blk w11 b [kv, u64 l[i].2] T_ref01_Pair := by simpa using hb11
        have hE11 : Ext No w9 w11 := he10.trans1 he11 (by omega)
        show XNew w11 ([1, 2, 3].map bv) T_uint8 _
        refine xnew fun c w12 hc hcl hz12 he12 => ?_
        have hT12 := (hT9.extN hE11).extN he12
        refine app_zeros_full (q := [1, 2, 3]) (n := 301) hcl (by omega) (by omega) (by simp) hT12.vi.lw.fl fun v' w13 hk13 he13 => ?_
        have hT13 := hT12.extN he13
        refine (c_TDel hT13 hi9 hk13 (by rw [longK_len]; omega)).mono ?_
        rintro _ w14 ⟨rfl, hE14, t', n14, hT14, -, hsame⟩
        obtain ⟨rfl, rfl⟩ := hsame hnk
        rw [dropK_none hpr.rises hnk] at hT14
        have hr14 : updM M9 ib ⟨0 + 1 + 1 + 1, v0, t', m⟩ tb = some ⟨0 + 1 + 1, v0, t1, L⟩ := (updM_other (Ne.symm hne)).trans hr9
        have hi14 := updM_same M9 ib ⟨0 + 1 + 1 + 1, v0, t', m⟩
        generalize updM M9 ib ⟨0 + 1 + 1 + 1, v0, t', m⟩ = M14 at hT14 hr14 hi14
        have hb14 := hE14.blk (((hb11.ext he12 fun h => h).ext he13 fun h => h)) nvty_pair
        refine hb14.ld (o := 0) (v := kv) rfl ?_
        have hE913 := (hE11.transN he12).transN he13
        refine (c_TGet hT14 hi14 (hE14.bs (hkv.extN hE913)) (by omega)).mono ?_
        rintro _ w15 ⟨rfl, he15⟩
        refine xi (r := ((i + 1 : Nat) : Int)) (by rw [wrapI (by omega)]; omega) ?_
        exact xnext (l.length - (i + 1)) (by omega) ⟨i + 1, _, M14, rfl, rfl, by omega, hT14.extN he15, hr14, hi14, ((hE9.transN hE913).trans hE14).transN he15⟩
      · refine (c_TFreezeE hT9 hr9).mono ?_
        rintro _ w10 ⟨hE10, vy, V10, ty, rfl, hT10, hvy, hk10, -, -⟩
        have hi10 : delM M9 tb ib = some ⟨0 + 1 + 1 + 1, v0, t0, m⟩ := (delM_other hne).trans hi9
        refine (c_TFreezeE hT10 hi10).mono ?_
        rintro _ w11 ⟨hE11, vz, V11, tz, rfl, hT11, hvz, hk11, hsame, -⟩
        obtain rfl := hsame t0 m (hk10 _ _ hv0) rfl
        have hvx11 := hk11 _ _ (hk10 _ _ hvx)
        have hvy11 := hk11 _ _ hvy
        have hE := (hE9.trans hE10).trans hE11
        refine xj (fun vs w' => vs = [.bool true] ∧ Ext No w w') ?_ ?_
        · refine xifT rfl ?_
          refine xifT rfl ?_
          refine (c_VShape hT11.vi hvx11).mono ?_
          rintro _ w12 ⟨rfl, he12⟩
          refine (c_VShape (hT11.vi.extN he12) hvy11).mono ?_
          rintro _ w13 ⟨rfl, he13⟩
          have he1113 := he12.transN he13
          have hI13 := hT11.vi.extN he1113
          refine xseq ?_
          refine xifT (decide_eq_true (by rw [(hI13.ver _ _ _ hvx11).ct.shapes (hI13.ver _ _ _ hvy11).ct rfl])) ?_
          refine (c_VLen hI13 hvx11).mono ?_
          rintro _ w14 ⟨rfl, hI14, hE14⟩
          refine (c_VLen hI14 hvy11).mono ?_
          rintro _ w15 ⟨rfl, hI15, hE15⟩
          refine xifT (by simp) ?_
          refine xpeq_rp ?_
          refine xifT rfl ?_
          refine (c_alive hI15.lw).mono ?_
          rintro _ w16 ⟨rfl, he16⟩
          exact ⟨rfl, ((((hE.transN he1113).trans hE14).trans hE15).transN he16).start (he1.transN he2) (by have := he1.size; omega)⟩
        · rintro vs g w12 ⟨rfl, he⟩
          exact ⟨rfl, he⟩
end
end law20
end Go.Proofs.YthnegkjhciakpaaGreatDoor
