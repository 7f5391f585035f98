/-  law19: TreeMade.  -/
import Derived.Test.YtbleadagnpckbaaGreatDoorL19
namespace Go.Proofs.YtbleadagnpckbaaGreatDoor
open Go Go.RowKit X
set_option linter.unusedSimpArgs false
set_option linter.unusedVariables false
set_option linter.unusedSectionVars false
variable [Floor]
section
variable {B : Nat} {w w1 : World} {wb n j vb : Nat} {t : T} {l : Kv} {V : Nat → Option (T × Kv)}
/-- the part under nothing is the version itself -/
theorem c_VSub0 (h : VI B w wb n j V) (hv : V vb = some (t, l)) (hj : j + 1 < 18446744073709551616) :
    Ret P n_tree_Version_Sub [rp vb, .slice none 0 0] w fun r w' => r = .tuple #[rp vb, .int .i64 0] ∧ VI B w' wb n (j + 1) V ∧ VE B w w' := by
  have hV := h.ver vb t l hv
  obtain ⟨d, c, b, hb, -⟩ := hV.blk
  refine W_tree_Version_Sub ?_
  refine (c_VOk hb).mono ?_
  rintro _ w1 ⟨rfl, rfl⟩
  refine xifF rfl ?_
  refine hb.drew.ld (v := t.v) rfl ?_
  refine hb.drew.ld (v := rp wb) rfl ?_
  refine hb.drew.ld (v := rp wb) rfl ?_
  have hd := h.drew
  refine (c_WOwner hd.mt hj).mono ?_
  rintro _ w2 ⟨rfl, hm2, he2⟩
  have hI2 := hd.step he2 hm2 (by omega)
  have hE2 : VE B w1 w2 := (VE.no (Ext.drew (Ext.refl No w1))).trans (hd.stepE he2)
  have hV2 := hI2.ver vb t l hv
  have hne : vb ≠ wb := fun e => by subst e; exact absurd (hb.inj h.wblk).2 (by decide)
  have hb2 := hb.drew.ext he2 hne
  refine ⟨xkeepV hb2 rfl, xkeepV hb2 rfl, ?_⟩
  refine (c_WMeter (j := j + 1)).mono ?_
  rintro _ w3 ⟨rfl, rfl⟩
  refine ⟨xkeepV hb2 rfl, ?_⟩
  refine (c_Sub (o := j + 1) (mt := some (wmt wb (j + 1))) (n := n) (p := []) hV2.ct.tree hm2 (by omega) (Bs.nil _) (by simp) hV2.ct.can (hV2.ct.long hV.pr)).mono ?_
  rintro _ w4 ⟨t', n', rfl, hS, -, hsame⟩
  obtain ⟨rfl, rfl⟩ := hsame fun k _ => List.nil_prefix
  have he4 : Ext (· = wb) w3 w4 := hS.ext.mono fun b _ hb => (show wb = b from hb).symm
  have hI4 := hI2.step he4 hS.cnt (Nat.le_refl _)
  have hE4 := hE2.trans (hI2.stepE he4)
  have hV4 := hI4.ver vb t' l hv
  refine (hI4.now (x := .int .i64 0) hv hV4.ct hV.pr hV4.own).mono ?_
  rintro _ w5 ⟨vb', rfl, hc⟩
  rcases hc with ⟨rfl, -, -, rfl⟩ | ⟨hptr, -⟩
  · exact ⟨rfl, hI4, hE4⟩
  · exact absurd rfl hptr
end
namespace law19
section
variable {w : World} {v kv : Value} {l : Kv} {k : Key} {x : Nat}
theorem l_TreeMade (hw : Lw w) (hl : Ps w v l) (hk : Bs w kv k) (hx : x < 18446744073709551616) : Ret P n_law19_TreeMade [v, .agg #[kv, u64 x]] w fun r w' => r = .bool true ∧ Ext No w w' := by
  refine W_law19_TreeMade ?_
  refine xnew fun pb w0 hpb hblk hz he0 => ?_
  have hblk : Blk w0 pb [kv, u64 x] T_ref01_Pair := hblk
  have hw0 := hw.extN he0
  have hl0 := hl.extN he0
  refine xj (fun vs w' => ∃ b, vs = [.bool b] ∧ Ext No w0 w' ∧ (b = false → (l.length ≤ 150 ∧ ∀ x ∈ l, x.1.length ≤ 300) ∧ k.length ≤ 600)) ?_ ?_
  · refine (c_far (m := 150) hl0 (by omega)).mono ?_
    rintro r w1 ⟨b, rfl, he, hb⟩
    have hblk1 := hblk.ext he fun h => h
    cases b with
    | false =>
      refine xifF rfl ?_
      refine hblk1.ld (v := kv) rfl ?_
      refine hk.len ?_
      exact ⟨_, rfl, he, fun h => ⟨hb rfl, by have := of_decide_eq_false h; omega⟩⟩
    | true => exact xifT rfl ⟨true, rfl, he, fun h => by cases h⟩
  rintro vs g w1 ⟨b, rfl, he1, hb⟩
  have hw1 := hw0.extN he1
  have hblk1 := hblk.ext he1 fun h => h
  have hE1 := he0.transN he1
  cases b with
  | true =>
    refine xifT rfl ?_
    refine (c_alive hw1).mono ?_
    rintro r w2 ⟨rfl, he2⟩
    exact ⟨rfl, hE1.transN he2⟩
  | false =>
    refine xifF rfl ?_
    obtain ⟨⟨hl150, hk300⟩, hkk⟩ := hb rfl
    have hpr : Pr (sortK l) := Pr.sort (by omega) fun p h => by have := hk300 p h; omega
    have hm150 : (sortK l).length ≤ 150 := Nat.le_trans (sortK_length l) hl150
    refine (c_WNew (B := w1.heap.size) hw1 (Nat.le_refl _) hw1.fl).mono ?_
    rintro _ w2 ⟨rfl, hI2, he2⟩
    refine (c_rSort (hl.extN (hE1.transN he2)) (by omega) (fun p h => by have := hk300 p h; omega)).mono ?_
    rintro vl w3 ⟨hso, he3⟩
    have hps := hso.ps he3 (.inr rfl)
    generalize sortK l = m at hpr hso hps hm150
    refine (c_pairs hps (by omega)).mono ?_
    rintro va w4 ⟨hva, he4⟩
    have he34 := he3.transN he4
    refine (c_From (hI2.extN he34) hva hpr (by omega)).mono ?_
    rintro _ w5 ⟨v0, t0, rfl, -, -, hI5, -, hE5⟩
    have hv5 : updV (fun _ => none) v0 (t0, m) v0 = some (t0, m) := updV_same _ _ _
    generalize updV (fun _ => none) v0 (t0, m) = V at hI5 hv5
    generalize hnn : 0 + t0.er.size = n5 at hI5
    have hE25 : VE w1.heap.size w2 w5 := (VE.no he34).trans hE5
    have hV0 := hI5.ver _ _ _ hv5
    have hlong := hV0.ct.long hpr
    have hdeep := E.deep_long t0.er
    have hsteps := E.steps_deep t0.er k
    have hsize := hV0.ct.can.size hpr.rises
    have hpbw : pb < w1.heap.size := by have := hblk1.lt; omega
    have hblk5 : ∀ {u : World}, VE w1.heap.size w2 u → Blk u pb [kv, u64 x] T_ref01_Pair := fun {u} h => by
      obtain ⟨Y, e, -, hY⟩ := h.out
      exact (hblk1.ext he2 fun h => h).ext e fun hb => by have := hY _ hb; omega
    have hk2 : Bs w2 kv k := hk.extN (hE1.transN he2)
    refine xifF rfl ?_
    refine (c_WMade hI5 (by omega)).mono ?_
    rintro _ w6 ⟨rfl, rfl⟩
    refine (c_VRoot hI5 hv5).mono ?_
    rintro _ w7 ⟨rfl, rfl⟩
    refine (c_Depth t0 hV0.ct.tree (by omega)).mono ?_
    rintro _ w8 ⟨rfl, he8⟩
    have hI8 := hI5.extN he8
    have hE8 := hE25.transN he8
    refine (hblk5 hE8).ld (v := kv) rfl ?_
    refine (c_VGet hI8 hv5 (hE8.bs hk2) (by omega)).mono ?_
    rintro _ w9 ⟨rfl, he9⟩
    have hI9 := hI8.extN he9
    have hE9 := hE8.transN he9
    refine (hblk5 hE9).ld (v := kv) rfl ?_
    refine (hblk5 hE9).ld (v := u64 x) rfl ?_
    refine (c_VPut hI9 hv5 (hE9.bs hk2) (by omega) hx (by omega) (by omega)).mono ?_
    rintro _ w10 ⟨hE10', v1, rfl, hput⟩
    have hE10 := hE9.trans hE10'
    obtain ⟨n10, V10, hI10, hv10, hv100, hle10, hsame10⟩ : ∃ n10 V10, VI w1.heap.size w10 w1.heap.size n10 (0 + 1 + 1) V10 ∧ V10 v0 = some (t0, m) ∧ (∃ t1 l1, V10 v1 = some (t1, l1) ∧ Pr l1 ∧ l1.length < 100000 ∧ look l1 k = some x) ∧ n10 ≤ n5 + t0.er.steps k + 2 ∧ (look m k = some x → v1 = v0 ∧ n10 = n5) := by
      rcases hput with ⟨h1, rfl, h2⟩ | ⟨h1, h2, h3, t1, n1, h4, h5, -⟩
      · exact ⟨n5, V, h2, hv5, ⟨t0, m, hv5, hpr, by omega, h1⟩, by omega, fun _ => ⟨rfl, rfl⟩⟩
      · have hne : v0 ≠ v1 := fun e => by subst e; rw [hv5] at h2; cases h2
        exact ⟨n1, _, h4, (updV_other hne).trans hv5, ⟨t1, _, updV_same _ _ _, hpr.ins (by omega) (by omega), by have := insK_length m k x; omega, by rw [insK_look hpr.rises, if_pos rfl]⟩, h5, fun h => absurd h h1⟩
    obtain ⟨t1, l1, hv11, hpr1, hl1, hlk1⟩ := hv100
    refine xj (fun vs w' => vs = [.bool false] ∧ w10 = w') ?_ ?_
    · refine xifF rfl ?_
      refine (c_WMade hI10 (by omega)).mono ?_
      rintro _ w11 ⟨rfl, rfl⟩
      refine xi (r := (n10 : Int) - n5) (by rw [wrapI (by omega)]) ?_
      refine xi (r := ((t0.er.deep + 2 : Nat) : Int)) (by rw [wrapI (by omega)]; omega) ?_
      refine xifF (by simp; omega) ?_
      cases hg : look m k with
      | none => exact xifF rfl ⟨rfl, rfl⟩
      | some y =>
        refine xifT rfl ?_
        refine (hblk5 hE10).ld (v := u64 x) rfl ?_
        refine xifE (fun e => ?_) fun e => ⟨rfl, rfl⟩
        have e : y = x := by have : ((y : Nat) : Int) = (x : Int) := e; omega
        subst e
        obtain ⟨rfl, rfl⟩ := hsame10 hg
        refine xpne_rp ?_
        refine xifF rfl ?_
        refine (c_WMade hI10 (by omega)).mono ?_
        rintro _ w12 ⟨rfl, rfl⟩
        exact ⟨by simp, rfl⟩
    rintro vs g w11 ⟨rfl, rfl⟩
    refine xifF rfl ?_
    refine (c_WMade hI10 (by omega)).mono ?_
    rintro _ w11 ⟨rfl, rfl⟩
    refine (hblk5 hE10).ld (v := kv) rfl ?_
    refine (c_VDel hI10 hv10 (hE10.bs hk2) (by omega) (by omega)).mono ?_
    rintro _ w12 ⟨hE12', v2, rfl, hdel⟩
    have hE12 := hE10.trans hE12'
    obtain ⟨n12, V12, hI12, hv12, hv121, hle12, hsame12⟩ : ∃ n12 V12, VI w1.heap.size w12 w1.heap.size n12 (0 + 1 + 1 + 1) V12 ∧ V12 v0 = some (t0, m) ∧ V12 v1 = some (t1, l1) ∧ n12 ≤ n10 + t0.er.steps k ∧ (look m k = none → v2 = v0 ∧ n12 = n10) := by
      rcases hdel with ⟨h1, rfl, h2⟩ | ⟨h1, h2, h3, t2, n2, h4, h5, -⟩
      · exact ⟨n10, V10, h2, hv10, hv11, by omega, fun _ => ⟨rfl, rfl⟩⟩
      · have hne : v0 ≠ v2 := fun e => by subst e; rw [hv10] at h2; cases h2
        have hne1 : v1 ≠ v2 := fun e => by subst e; rw [hv11] at h2; cases h2
        exact ⟨n2, _, h4, (updV_other hne).trans hv10, (updV_other hne1).trans hv11, h5, fun h => absurd h h1⟩
    refine xj (fun vs w' => vs = [.bool false] ∧ w12 = w') ?_ ?_
    · refine xifF rfl ?_
      refine xifF (by cases (look m k) <;> rfl) ?_
      refine (c_WMade hI12 (by omega)).mono ?_
      rintro _ w13 ⟨rfl, rfl⟩
      refine xi (r := (n12 : Int) - n10) (by rw [wrapI (by omega)]) ?_
      refine xi (r := ((t0.er.deep + 2 : Nat) : Int)) (by rw [wrapI (by omega)]; omega) ?_
      refine xifF (by simp; omega) ?_
      cases hg : look m k with
      | some y => exact xifF rfl ⟨rfl, rfl⟩
      | none =>
        refine xifT rfl ?_
        obtain ⟨rfl, rfl⟩ := hsame12 hg
        refine xpne_rp ?_
        refine xifF rfl ?_
        refine (c_WMade hI12 (by omega)).mono ?_
        rintro _ w14 ⟨rfl, rfl⟩
        exact ⟨by simp, rfl⟩
    rintro vs g w13 ⟨rfl, rfl⟩
    refine xifF rfl ?_
    refine (c_WMade hI12 (by omega)).mono ?_
    rintro _ w13 ⟨rfl, rfl⟩
    refine (hblk5 hE12).ld (v := kv) rfl ?_
    refine (hblk5 hE12).ld (v := u64 x) rfl ?_
    refine (c_VPut hI12 hv121 (hE12.bs hk2) (by omega) hx (by omega) hl1).mono ?_
    rintro _ w14 ⟨hE14', v3, rfl, ⟨-, rfl, hI14⟩ | ⟨h1, -⟩⟩
    · have hE14 := hE12.trans hE14'
      refine (c_VSub0 hI14 hv12 (by omega)).mono ?_
      rintro _ w15 ⟨rfl, hI15, hE15'⟩
      have hE15 := hE14.trans hE15'
      refine xj (fun vs w' => vs = [.bool true] ∧ Ext No w w') ?_ ?_
      · refine xifT rfl ?_
        refine xpeq_rp ?_
        refine xifT rfl ?_
        refine xifT rfl ?_
        refine xpeq_rp ?_
        refine xifT rfl ?_
        refine (c_WMade hI15 (by omega)).mono ?_
        rintro _ w16 ⟨rfl, rfl⟩
        refine xifT (by simp) ?_
        refine (c_alive hI15.lw).mono ?_
        rintro r w17 ⟨rfl, he17⟩
        exact ⟨rfl, (hE15.start (hE1.transN he2) (by have := hE1.size; omega)).transN he17⟩
      · rintro vs g w16 ⟨rfl, he⟩
        exact ⟨rfl, he⟩
    · exact absurd hlk1 h1
end
end law19
end Go.Proofs.YtbleadagnpckbaaGreatDoor
