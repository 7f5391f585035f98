/-  law20: transients: TransApart.  -/
import Derived.Test.YthnegkjhciakpaaGreatDoorL20b
namespace Go.Proofs.YthnegkjhciakpaaGreatDoor
open Go Go.RowKit X
set_option linter.unusedSimpArgs false
set_option linter.unusedVariables false
set_option linter.unusedSectionVars false
variable [Floor]
section
variable {B : Nat} {w w1 : World} {wb n j b0 : Nat} {cs : List Value} {Ty : TypeId} {V : Nat → Option (T × Kv)} {M : Nat → Option TrR} {F : Nat → Prop}
theorem nb_one (hb : Blk w b0 cs Ty) (hfl : Floor.n ≤ b0) (hT : Ty ≠ T_uint8) : NB w (· = b0) := fun b hb' _ => by
  have e : b = b0 := hb'
  subst e
  exact ⟨hfl, _, _, hb, hT⟩
/-- a block of the law's own is written -/
theorem VI.one (h : VI B w wb n j V) (hb : Blk w b0 cs Ty) (hfl : Floor.n ≤ b0) (hT : Ty ≠ T_uint8) (hT1 : T_tree_World ≠ Ty) (hT2 : T_tree_Version ≠ Ty) (ho : Oth Ty) (e : Ext (· = b0) w w1) : VI B w1 wb n j V := by
  have hnt : ∀ {t' : T}, Tree w t' → ∀ b', t'.All b' → ¬ b' = b0 := fun ht b' hb' e' => by subst e'; exact ht.not hb ho hb'
  refine ⟨h.lw.ext e fun b hb => by have e : b = b0 := hb; subst e; exact hfl, h.fl, h.mt.ext e fun b hb' he => ?_, h.ge, fun vb t l hv => ?_⟩
  · have e1 : wb = b := hb'
    have e2 : b = b0 := he
    subst e1; subst e2
    exact hT1 (h.wblk.inj hb).2
  · have hV := h.ver vb t l hv
    obtain ⟨d, c, b, h1, -⟩ := hV.blk
    exact hV.ext e (nb_one hb hfl hT) (fun e' => by have e' : vb = b0 := e'; subst e'; exact hT2 (h1.inj hb).2) (hnt hV.ct.tree) (Nat.le_refl _)
theorem TI.one (h : TI B w wb n j V M F) (hb : Blk w b0 cs Ty) (hfl : Floor.n ≤ b0) (hT : Ty ≠ T_uint8) (hT0 : T_trans_Trans ≠ Ty) (hT1 : T_tree_World ≠ Ty) (hT2 : T_tree_Version ≠ Ty) (ho : Oth Ty) (e : Ext (· = b0) w w1) : TI B w1 wb n j V M F :=
  h.other hb hT0 ho (nb_one hb hfl hT) e (h.vi.one hb hfl hT hT1 hT2 ho e) (Nat.le_refl _)
end
namespace law20
def delL (m pl : Kv) : Kv := pl.foldl (fun s p => dropK p.1 s) m
theorem delL_snoc (m pl : Kv) (p : Key × Nat) : delL m (pl ++ [p]) = dropK p.1 (delL m pl) := by unfold delL; rw [List.foldl_append]; rfl
theorem delL_take {m pl : Kv} {i : Nat} (h : i < pl.length) : delL m (pl.take (i + 1)) = dropK pl[i].1 (delL m (pl.take i)) := by
  rw [← List.take_append_getElem h, delL_snoc]
theorem take_over {α : Type} {l : List α} {i : Nat} (h : l.length ≤ i) : l.take (i + 1) = l.take i := by rw [List.take_of_length_le h, List.take_of_length_le (by omega)]
theorem nvty_a4 : ¬ VTy T_a4_string := by unfold VTy KT; decide
theorem oth_a4 : Oth T_a4_string := by unfold Oth; decide
section
variable {w : World} {v va vb : Value} {l la lb : Kv}
set_option maxHeartbeats 2000000 in
theorem l_TransApart (hw : Lw w) (hl : Ps w v l) (ha : Ps w va la) (hb : Ps w vb lb) : Ret P n_law20_TransApart [v, va, vb] w fun r w' => r = .bool true ∧ Ext No w w' := by
  refine W_law20_TransApart ?_
  refine xj (fun vs w' => ∃ b, vs = [.bool b] ∧ Ext No w w' ∧ (b = false → (l.length ≤ 100 ∧ ∀ p ∈ l, p.1.length ≤ 300) ∧ (la.length ≤ 40 ∧ ∀ p ∈ la, p.1.length ≤ 300) ∧ (lb.length ≤ 40 ∧ ∀ p ∈ lb, p.1.length ≤ 300))) ?_ ?_
  · refine (c_far (m := 100) hl (by omega)).mono ?_
    rintro r w1 ⟨b, rfl, he1, hb0⟩
    cases b with
    | true => exact xifT rfl ⟨true, rfl, he1, fun h => by cases h⟩
    | false =>
      refine xifF rfl ?_
      refine (c_far (m := 40) (ha.extN he1) (by omega)).mono ?_
      rintro r w2 ⟨b, rfl, he2, hb2⟩
      cases b with
      | true => exact xifT rfl ⟨true, rfl, he1.transN he2, fun h => by cases h⟩
      | false =>
        refine xifF rfl ?_
        refine (c_far (m := 40) (hb.extN (he1.transN he2)) (by omega)).mono ?_
        rintro r w3 ⟨b, rfl, he3, hb3⟩
        exact ⟨b, rfl, (he1.transN he2).transN he3, fun h => ⟨hb0 rfl, hb2 rfl, hb3 h⟩⟩
  rintro vs g w1 ⟨b, rfl, he1, hbb⟩
  have hw1 := hw.extN he1
  cases b with
  | true =>
    refine xifT rfl ?_
    refine (c_alive hw1).mono ?_
    rintro r w2 ⟨rfl, he2⟩
    exact ⟨rfl, he1.transN he2⟩
  | false =>
    refine xifF rfl ?_
    obtain ⟨⟨l1, l3⟩, ⟨a4, a3⟩, b4, b3⟩ := hbb rfl
    have hpr : Pr (sortK l) := Pr.sort (by omega) fun p h => by have := l3 p h; omega
    have hm1 : (sortK l).length ≤ 100 := Nat.le_trans (sortK_length l) l1
    have ha1 := ha.extN he1
    have hb1 := hb.extN he1
    refine (c_WNew (B := w1.heap.size) hw1 (Nat.le_refl _) hw1.fl).mono ?_
    rintro _ w2 ⟨rfl, hI2, he2⟩
    refine (c_rSort (hl.extN (he1.transN he2)) (by omega) (fun p h => by have := l3 p h; omega)).mono ?_
    rintro vl w3 ⟨hso, he3⟩
    have hps := hso.ps he3 (.inr rfl)
    generalize sortK l = m at hpr hso hps hm1
    refine (c_pairs hps (by omega)).mono ?_
    rintro vq w4 ⟨hva, he4⟩
    have he24 := he3.transN he4
    refine (c_From (hI2.extN he24) hva hpr (by omega)).mono ?_
    rintro _ w5 ⟨v0, t0, rfl, -, -, hI5, -, hE5⟩
    have hv5 : updV (fun _ => none) v0 (t0, m) v0 = some (t0, m) := updV_same _ _ _
    generalize updV (fun _ => none) v0 (t0, m) = V at hI5 hv5
    have hS5 : Ext No w1 w5 := hE5.start (he2.transN he24) (Nat.le_refl _)
    refine (c_VShape hI5 hv5).mono ?_
    rintro _ w6 ⟨rfl, he6⟩
    refine xnew fun eb w7 heb hblk7 hz7 he7 => ?_
    have hS7 := (hS5.transN he6).transN he7
    have hT7 := (TI.of hI5).extN (he6.transN he7)
    have heb1 : w1.heap.size ≤ eb := by have := (hS5.transN he6).size; omega
    have hebf : Floor.n ≤ eb := Nat.le_trans hw1.fl heb1
    have hblk7 : Blk w7 eb [str [], str [], str [], str []] T_a4_string := hblk7
    refine xloop (fun n vs w' => ∃ (b n' j' : Nat) (V' : Nat → Option (T × Kv)) (M' : Nat → Option TrR) (F' : Nat → Prop) (c0 c1 c2 c3 : Value) (x1 x2 x3 x4 x5 x6 x7 x8 x9 x10 x11 x12 : Value), vs = [.int .i64 b, x1, x2, x3, x4, x5, x6, x7, x8, x9, x10, x11, x12] ∧ n = 2 - b ∧ b ≤ 2 ∧
        TI w1.heap.size w' w1.heap.size n' j' V' M' F' ∧ j' ≤ 1 + 2 * b ∧ V' v0 = some (t0, m) ∧ Blk w' eb [c0, c1, c2, c3] T_a4_string ∧ (1 ≤ b → c0 = str (canL (putL m la)).shape ∧ c1 = str (canL (delL m lb)).shape) ∧ (2 ≤ b → c2 = str (canL (putL m la)).shape ∧ c3 = str (canL (delL m lb)).shape) ∧ Ext No w1 w') 2
      ⟨0, _, _, V, _, _, _, _, _, _, _, _, _, _, _, _, _, _, _, _, _, _, rfl, rfl, by omega, hT7, by omega, hv5, hblk7, fun h => absurd h (by omega), fun h => absurd h (by omega), hS7⟩ ?_
    rintro n vs g w8 ⟨b, n', j', V', M', F', c0, c1, c2, c3, x1, x2, x3, x4, x5, x6, x7, x8, x9, x10, x11, x12, rfl, rfl, hb2, hT8, hj8, hv8, hblk8, hc01, hc23, hS8⟩
    unfold S_law20_TransApart_l3
    refine xifD (fun hlt => ?_) fun hge => ?_
    · refine (c_Edit hT8 hv8 (by omega)).mono ?_
      rintro _ w9 ⟨tb, rfl, htb, hT9, hE9⟩
      have hr9 := updM_same M' tb ⟨j' + 1, v0, t0, m⟩
      generalize updM M' tb ⟨j' + 1, v0, t0, m⟩ = M9 at hT9 hr9
      refine (c_Edit hT9 hv8 (by omega)).mono ?_
      rintro _ w10 ⟨ub, rfl, hub, hT10, hE10⟩
      have hne : ub ≠ tb := fun e => by have := (hT9.tr tb _ hr9).blk.lt; omega
      have hu10 := updM_same M9 ub ⟨j' + 1 + 1, v0, t0, m⟩
      have hr10 : updM M9 ub ⟨j' + 1 + 1, v0, t0, m⟩ tb = some ⟨j' + 1, v0, t0, m⟩ := (updM_other (Ne.symm hne)).trans hr9
      generalize updM M9 ub ⟨j' + 1 + 1, v0, t0, m⟩ = M10 at hT10 hu10 hr10
      have hE810 := hE9.trans hE10
      have hS10 : Ext No w1 w10 := hE810.start hS8 (Nat.le_refl _)
      have hblk10 := hE810.blk hblk8 nvty_a4
      refine xj (fun vs w' => vs = [.bool false] ∧ Ext No w10 w') ?_ ?_
      · refine xpeq_vb ?_
        refine xifF rfl ?_
        refine xpeq_vb ?_
        refine xifF rfl ?_
        refine xifF rfl ?_
        refine xifF rfl ?_
        refine (c_TOwner hT10 hr10).mono ?_
        rintro _ w11 ⟨rfl, he11⟩
        refine (c_TOwner (hT10.extN he11) hu10).mono ?_
        rintro _ w12 ⟨rfl, he12⟩
        refine ⟨?_, he11.transN he12⟩
        have : ((((j' + 1 : Nat) : Int)) == ((j' + 1 + 1 : Nat) : Int)) = false := beq_eq_false_iff_ne.2 (by omega)
        show [Value.bool ((((j' + 1 : Nat) : Int)) == ((j' + 1 + 1 : Nat) : Int))] = _
        rw [this]
      rintro vs g w11 ⟨rfl, he11⟩
      refine xifF rfl ?_
      have hT11 := hT10.extN he11
      have hS11 := hS10.transN he11
      have hblk11 := hblk10.ext he11 fun h => h
      refine ha1.len ?_
      refine hb1.len ?_
      have hmax : (if ((la.length : Nat) : Int) < ((lb.length : Nat) : Int) then ((lb.length : Nat) : Int) else ((la.length : Nat) : Int)) = ((max la.length lb.length : Nat) : Int) := by
        split <;> omega
      show XLoop _ w11 (S_law20_TransApart_l2 va vb ⟨eb, 0, none⟩ _ _ _ _ _ _ _ (.int .i64 (if ((la.length : Nat) : Int) < ((lb.length : Nat) : Int) then ((lb.length : Nat) : Int) else ((la.length : Nat) : Int))))
      rw [hmax]
      refine xloop (fun n vs w' => ∃ (i n' : Nat) (t1 t2 : T) (M' : Nat → Option TrR) (x : Value), vs = [.int .i64 i, x] ∧ n = max la.length lb.length - i ∧ i ≤ max la.length lb.length ∧ TI w1.heap.size w' w1.heap.size n' (j' + 1 + 1) V' M' F' ∧
          M' tb = some ⟨j' + 1, v0, t1, putL m (la.take i)⟩ ∧ M' ub = some ⟨j' + 1 + 1, v0, t2, if b = 1 then delL m (lb.take i) else m⟩ ∧ (putL m (la.take i)).length ≤ 100 + i ∧ Blk w' eb [c0, c1, c2, c3] T_a4_string ∧ Ext No w1 w') (max la.length lb.length)
        ⟨0, _, t0, t0, M10, _, rfl, rfl, by omega, hT11, by simpa [putL] using hr10, by simpa [delL] using hu10, by simpa [putL] using hm1, hblk11, hS11⟩ ?_
      rintro n vs g w12 ⟨i, n12, t1, t2, M12, x, rfl, rfl, hi, hT12, hr12, hu12, hln12, hblk12, hS12⟩
      unfold S_law20_TransApart_l2
      refine xifD (fun hlt2 => ?_) fun hge2 => ?_
      · have hilt : i < max la.length lb.length := by omega
        refine xj (fun vs w' => vs = [.int .i64 i] ∧ ∃ (n' : Nat) (t1 t2 : T) (M' : Nat → Option TrR), TI w1.heap.size w' w1.heap.size n' (j' + 1 + 1) V' M' F' ∧ M' tb = some ⟨j' + 1, v0, t1, putL m (la.take (i + 1))⟩ ∧ M' ub = some ⟨j' + 1 + 1, v0, t2, if b = 1 then delL m (lb.take (i + 1)) else m⟩ ∧ (putL m (la.take (i + 1))).length ≤ 100 + (i + 1) ∧ Blk w' eb [c0, c1, c2, c3] T_a4_string ∧ Ext No w1 w') ?_ ?_
        · refine xj (fun vs w' => ∃ (n' : Nat) (t1 : T) (M' : Nat → Option TrR), TI w1.heap.size w' w1.heap.size n' (j' + 1 + 1) V' M' F' ∧ M' tb = some ⟨j' + 1, v0, t1, putL m (la.take (i + 1))⟩ ∧ M' ub = some ⟨j' + 1 + 1, v0, t2, if b = 1 then delL m (lb.take i) else m⟩ ∧ (putL m (la.take (i + 1))).length ≤ 100 + (i + 1) ∧ Blk w' eb [c0, c1, c2, c3] T_a4_string ∧ Ext No w1 w') ?_ ?_
          · refine ha1.len ?_
            refine xifD (fun h => ?_) fun h => ?_
            · have hil : i < la.length := by omega
              have hpk := a3 _ (List.getElem_mem hil)
              have hd := Ext.drew (Ext.refl No w12)
              have ha12 := ha1.extN (hS12.transN hd)
              refine ha12.key i rfl hil fun kv hkv => ?_
              refine ha12.val i rfl hil ?_
              refine (c_TPut (hT12.extN hd) hr12 hkv (by omega) (ha12.get hil) (by show (putL m (la.take i)).length < _; omega)).mono ?_
              rintro _ w13 ⟨rfl, hE13, t3, n13, hT13, -⟩
              have := insK_length (putL m (la.take i)) la[i].1 la[i].2
              refine ⟨n13, t3, _, hT13, by rw [putL_take hil]; exact updM_same _ _ _, (updM_other hne).trans hu12, by rw [putL_take hil]; omega, hE13.blk hblk12.drew nvty_a4, hE13.start (hS12.transN hd) (Nat.le_refl _)⟩
            · rw [take_over (by omega)]
              exact ⟨n12, t1, M12, hT12, hr12, hu12, by omega, hblk12, hS12⟩
          rintro vs g w13 ⟨n13, t3, M13, hT13, hr13, hu13, hln13, hblk13, hS13⟩
          refine xj (fun vs w' => ∃ q : Bool, vs = [.bool q] ∧ w13 = w' ∧ (q = true ↔ i < lb.length ∧ b = 1)) ?_ ?_
          · refine hb1.len ?_
            refine xifD (fun h => ?_) fun h => ⟨false, rfl, rfl, by constructor; (intro h; cases h); (rintro ⟨h1, -⟩; omega)⟩
            refine ⟨_, rfl, rfl, ?_⟩
            rw [beq_iff_eq]
            constructor
            · intro h2; exact ⟨by omega, by omega⟩
            · rintro ⟨-, h2⟩; omega
          rintro vs g w14 ⟨q, rfl, rfl, hq⟩
          cases q with
          | true =>
            obtain ⟨hil, hb1'⟩ := hq.1 rfl
            have hpk := b3 _ (List.getElem_mem hil)
            refine xifT rfl ?_
            refine (hb1.extN hS13).key i rfl hil fun kv hkv => ?_
            refine (c_TDel hT13 hu13 hkv (by omega)).mono ?_
            rintro _ w15 ⟨rfl, hE15, t4, n15, hT15, -, -⟩
            refine ⟨rfl, n15, t3, t4, _, hT15, (updM_other (Ne.symm hne)).trans hr13, ?_, hln13, hE15.blk hblk13 nvty_a4, hE15.start hS13 (Nat.le_refl _)⟩
            rw [updM_same]
            show some (TrR.mk (j' + 1 + 1) v0 t4 (dropK lb[i].1 (if b = 1 then delL m (lb.take i) else m))) = _
            rw [if_pos hb1', if_pos hb1', delL_take hil]
          | false =>
            refine xifF rfl ⟨rfl, n13, t3, t2, M13, hT13, hr13, ?_, hln13, hblk13, hS13⟩
            rw [hu13]
            by_cases hb1' : b = 1
            · rw [if_pos hb1', if_pos hb1', take_over (by
                rcases Nat.lt_or_ge i lb.length with h | h
                · have := hq.2 ⟨h, hb1'⟩; cases this
                · exact h)]
            · rw [if_neg hb1', if_neg hb1']
        rintro vs g w13 ⟨rfl, n13, t3, t4, M13, hT13, hr13, hu13, hln13, hblk13, hS13⟩
        refine xi (r := ((i + 1 : Nat) : Int)) (by rw [wrapI (by omega)]; omega) ?_
        exact xnext (max la.length lb.length - (i + 1)) (by omega) ⟨i + 1, n13, t3, t4, M13, _, rfl, rfl, by omega, hT13, hr13, hu13, hln13, hblk13, hS13⟩
      · have him : i = max la.length lb.length := by omega
        subst him
        rw [List.take_of_length_le (by omega)] at hr12 hln12 hu12
        refine hb1.len ?_
        refine xloop (fun n vs w' => ∃ (i n' : Nat) (t2 : T) (M' : Nat → Option TrR) (x : Value), vs = [.int .i64 i, x] ∧ n = lb.length - i ∧ i ≤ lb.length ∧ TI w1.heap.size w' w1.heap.size n' (j' + 1 + 1) V' M' F' ∧
            M' tb = some ⟨j' + 1, v0, t1, putL m la⟩ ∧ M' ub = some ⟨j' + 1 + 1, v0, t2, if b = 1 then delL m lb else delL m (lb.take i)⟩ ∧ Blk w' eb [c0, c1, c2, c3] T_a4_string ∧ Ext No w1 w') lb.length
          ⟨0, n12, t2, M12, _, rfl, rfl, by omega, hT12, hr12, by simpa [delL] using hu12, hblk12, hS12⟩ ?_
        rintro n vs g w13 ⟨i, n13, t3, M13, x', rfl, rfl, hi3, hT13, hr13, hu13, hblk13, hS13⟩
        unfold S_law20_TransApart_l1
        refine xifD (fun hlt3 => ?_) fun hge3 => ?_
        · have hil : i < lb.length := by omega
          have hpk := b3 _ (List.getElem_mem hil)
          refine xj (fun vs w' => vs = [.int .i64 i] ∧ ∃ (n' : Nat) (t2 : T) (M' : Nat → Option TrR), TI w1.heap.size w' w1.heap.size n' (j' + 1 + 1) V' M' F' ∧ M' tb = some ⟨j' + 1, v0, t1, putL m la⟩ ∧ M' ub = some ⟨j' + 1 + 1, v0, t2, if b = 1 then delL m lb else delL m (lb.take (i + 1))⟩ ∧ Blk w' eb [c0, c1, c2, c3] T_a4_string ∧ Ext No w1 w') ?_ ?_
          · refine xifE (fun h => ?_) fun h => ?_
            · have hb0 : ¬ b = 1 := by omega
              refine (hb1.extN hS13).key i rfl hil fun kv hkv => ?_
              refine (c_TDel hT13 hu13 hkv (by omega)).mono ?_
              rintro _ w15 ⟨rfl, hE15, t4, n15, hT15, -, -⟩
              refine ⟨rfl, n15, t4, _, hT15, (updM_other (Ne.symm hne)).trans hr13, ?_, hE15.blk hblk13 nvty_a4, hE15.start hS13 (Nat.le_refl _)⟩
              rw [updM_same]
              show some (TrR.mk (j' + 1 + 1) v0 t4 (dropK lb[i].1 (if b = 1 then delL m lb else delL m (lb.take i)))) = _
              rw [if_neg hb0, if_neg hb0, delL_take hil]
            · have hb0 : b = 1 := by omega
              refine ⟨rfl, n13, t3, M13, hT13, hr13, ?_, hblk13, hS13⟩
              rw [hu13, if_pos hb0, if_pos hb0]
          rintro vs g w14 ⟨rfl, n14, t4, M14, hT14, hr14, hu14, hblk14, hS14⟩
          refine xi (r := ((i + 1 : Nat) : Int)) (by rw [wrapI (by omega)]; omega) ?_
          exact xnext (lb.length - (i + 1)) (by omega) ⟨i + 1, n14, t4, M14, _, rfl, rfl, by omega, hT14, hr14, hu14, hblk14, hS14⟩
        · have him : i = lb.length := by omega
          subst him
          rw [List.take_length] at hu13
          have hu13 : M13 ub = some ⟨j' + 1 + 1, v0, t3, delL m lb⟩ := by rw [hu13]; split <;> rfl
          refine (c_TFreezeE hT13 hr13).mono ?_
          rintro _ w14 ⟨hE14, vx, V14, tx, rfl, hT14, hvx, hk14, -, -⟩
          have hu14 : delM M13 tb ub = some ⟨j' + 1 + 1, v0, t3, delL m lb⟩ := (delM_other hne).trans hu13
          refine (c_TFreezeE hT14 hu14).mono ?_
          rintro _ w15 ⟨hE15, vy, V15, ty, rfl, hT15, hvy, hk15, -, -⟩
          have hvx15 := hk15 _ _ hvx
          have hE1315 := hE14.trans hE15
          have hS15 : Ext No w1 w15 := hE1315.start hS13 (Nat.le_refl _)
          have hblk15 := hE1315.blk hblk13 nvty_a4
          refine xi (r := ((2 * b : Nat) : Int)) (by rw [wrapI (by omega)]; omega) ?_
          refine xi (r := ((2 * b : Nat) : Int)) (by rw [wrapI (by omega)]; omega) ?_
          refine xi (r := ((2 * b + 1 : Nat) : Int)) (by rw [wrapI (by omega)]; omega) ?_
          have hd := Ext.drew (Ext.refl No w15)
          have hT15d := hT15.extN hd
          refine (c_VShape hT15d.vi hvx15).mono ?_
          rintro _ w16 ⟨rfl, he16⟩
          refine xixA (2 * b) rfl (by omega) ?_
          have hT16 := hT15d.extN he16
          refine (c_VShape hT16.vi hvy).mono ?_
          rintro _ w17 ⟨rfl, he17⟩
          have hT17 := hT16.extN he17
          have hVx := hT17.vi.ver _ _ _ hvx15
          have hVy := hT17.vi.ver _ _ _ hvy
          have hcx : tx.er = canL (putL m la) := hVx.ct.can.closed hVx.pr.rises
          have hcy : ty.er = canL (delL m lb) := hVy.ct.can.closed hVy.pr.rises
          rw [hcx, hcy]
          have hS17 := (((hS15.transN hd).transN he16)).transN he17
          have hblk17 : Blk w17 eb [c0, c1, c2, c3] T_a4_string := ((hblk15.drew.ext he16 fun h => h).ext he17 fun h => h)
          refine hblk17.st (o := 0 + 2 * b) (by simp; omega) rfl fun w18 hb18 hz18 he18 => ?_
          have hT18 := hT17.one hblk17 hebf (by decide) (by decide) (by decide) (by decide) oth_a4 he18
          have hS18 := hS17.trans1 he18 heb1
          refine xixA (2 * b + 1) rfl (by omega) ?_
          refine hb18.st (o := 0 + (2 * b + 1)) (by simp; omega) rfl fun w19 hb19 hz19 he19 => ?_
          have hT19 := hT18.one hb18 hebf (by decide) (by decide) (by decide) (by decide) oth_a4 he19
          have hS19 := hS18.trans1 he19 heb1
          refine xi (r := ((b + 1 : Nat) : Int)) (by rw [wrapI (by omega)]; omega) ?_
          have hb01 : b = 0 ∨ b = 1 := by omega
          rcases hb01 with rfl | rfl
          · exact xnext (2 - (0 + 1)) (by omega) ⟨0 + 1, _, _, V15, _, _, _, _, c2, c3, _, _, _, _, _, _, _, _, _, _, _, _, rfl, rfl, by omega, hT19, by omega, hk15 _ _ (hk14 _ _ hv8), hb19, fun _ => ⟨rfl, rfl⟩, fun h => absurd h (by omega), hS19⟩
          · obtain ⟨e0, e1⟩ := hc01 (by omega)
            exact xnext (2 - (1 + 1)) (by omega) ⟨1 + 1, _, _, V15, _, _, c0, c1, _, _, _, _, _, _, _, _, _, _, _, _, _, _, rfl, rfl, by omega, hT19, by omega, hk15 _ _ (hk14 _ _ hv8), hb19, fun _ => ⟨e0, e1⟩, fun _ => ⟨rfl, rfl⟩, hS19⟩
    · have hb2' : b = 2 := by omega
      subst hb2'
      obtain ⟨rfl, rfl⟩ := hc01 (by omega)
      obtain ⟨rfl, rfl⟩ := hc23 (by omega)
      refine xj (fun vs w' => vs = [.bool true] ∧ Ext No w w') ?_ ?_
      · refine xixA 0 rfl (by omega) ?_
        refine hblk8.ld (o := 0) rfl ?_
        refine xixA 2 rfl (by omega) ?_
        refine hblk8.ld (o := 2) rfl ?_
        refine xseq ?_
        refine xifT (decide_eq_true rfl) ?_
        refine xixA 1 rfl (by omega) ?_
        refine hblk8.ld (o := 1) rfl ?_
        refine xixA 3 rfl (by omega) ?_
        refine hblk8.ld (o := 3) rfl ?_
        refine xseq ?_
        refine xifT (decide_eq_true rfl) ?_
        refine (c_VShape hT8.vi hv8).mono ?_
        rintro _ w9 ⟨rfl, he9⟩
        refine xseq ?_
        refine xifT (decide_eq_true rfl) ?_
        refine (c_alive (hT8.vi.extN he9).lw).mono ?_
        rintro _ w10 ⟨rfl, he10⟩
        exact ⟨rfl, ((he1.transN hS8).transN he9).transN he10⟩
      · rintro vs g w9 ⟨rfl, he⟩
        exact ⟨rfl, he⟩
end
end law20
end Go.Proofs.YthnegkjhciakpaaGreatDoor
