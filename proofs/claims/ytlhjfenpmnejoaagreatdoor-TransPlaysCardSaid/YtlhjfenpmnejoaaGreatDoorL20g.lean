/-  law20: TransPlays: writing, a step, looking.  -/
import Derived.Test.YtlhjfenpmnejoaaGreatDoorL20f
namespace Go.Proofs.YtlhjfenpmnejoaaGreatDoor
open Go Go.RowKit X
set_option linter.unusedSimpArgs false
set_option linter.unusedVariables false
set_option linter.unusedSectionVars false
variable [Floor]
namespace law20
/-- what a write leaves -/
def wrK (d : Nat) (k : Key) (x : Nat) (y : RT) : RT := if y.2 then y else (if d % 6 = 2 then dropK k y.1 else insK y.1 k x, false)
section
variable {B : Nat} {w w' : World} {wb n j xb : Nat} {V : Nat → Option (T × Kv)} {M : Nat → Option TrR} {F : Nat → Prop} {vbs : List Nat} {ls : List Kv} {tbs : List Nat} {ms : List RT} {k : Key} {kv : Value} {d i jj x : Nat}
theorem xif_mod {a b : Nat} {A C : Prop} (ha : a = b → A) (hb : a ≠ b → C) : xIf (.bool (((a : Nat) : Int) == ((b : Nat) : Int))) A C :=
  xifE (fun h => ha (by omega)) fun h => hb (by omega)
set_option maxHeartbeats 1000000 in
/-- one is written to -/
theorem c_write (h : WI B w wb n j V M F xb vbs ls tbs ms) (q : Nat) (hq : q < ms.length) (hk : Bs w kv k) (hkl : k.length ≤ 65535) (hx : x < 18446744073709551616) (hl : ms[q].1.length ≤ 50000) (hks : ∀ p ∈ ms[q].1, p.1.length ≤ 65535) :
    Ret P n_law20_world_write [rp xb, .int .i64 q, .agg #[.int .u8 d, .int .u16 i, .int .u16 jj, kv, u64 x]] w fun r w' => r = .bool true ∧ FrW B w w' ∧ ∃ n' M', WI B w' wb n' j V M' F xb vbs ls tbs (ms.set q (wrK d k x ms[q])) := by
  obtain ⟨vv, vp, vt, vw, hM⟩ := h.mw
  have hqt : q < tbs.length := by rw [h.lt]; exact hq
  have hlt := h.lt
  obtain ⟨hF, hR⟩ := h.tr q _ _ (List.getElem?_eq_getElem hqt) (List.getElem?_eq_getElem hq)
  have fin : ∀ {w1 w' : World} {n1 : Nat} {M1 : Nat → Option TrR} {y' : RT}, TI B w1 wb n1 j V M1 F → FrT B w1 w' → FrW B w w1 → (∀ b, b ≠ tbs[q] → M1 b = M b) → (y'.2 = true → F tbs[q]) → (y'.2 = false → ∃ r, M1 tbs[q] = some r ∧ r.l = y'.1) → (∃ vv vp vt vw, MW w' B xb vv vp vt vw vv vp vt vw vbs ls tbs (ms.set q y')) → FrW B w w' ∧ WI B w' wb n1 j V M1 F xb vbs ls tbs (ms.set q y') := by
    intro w1 w' n1 M1 y' hT f f0 hM' h1 h2 hmw
    refine ⟨f0.trans f.fr, f.ti hT, hmw, h.ver, fun m tb y g1 g2 => ?_, h.nod, h.lv, by simp [hlt], h.pos⟩
    rw [List.getElem?_set] at g2
    split at g2
    · rename_i e
      subst e
      cases g2
      rw [List.getElem?_eq_getElem hqt] at g1
      cases g1
      exact ⟨h1, h2⟩
    · rename_i hne
      obtain ⟨g3, g4⟩ := h.tr m tb y g1 g2
      have hne2 : tb ≠ tbs[q] := fun e => hne (nodup_ix h.nod (by rw [List.getElem?_eq_getElem hqt, e]) g1)
      exact ⟨g3, fun h => by rw [hM' tb hne2]; exact g4 h⟩
  refine W_law20_world_write ?_
  obtain ⟨kad, kcap, rfl⟩ := hk.slice
  generalize hkv : Value.slice kad k.length kcap = kv at hk
  show XNew w [.int .u8 d, .int .u16 i, .int .u16 jj, kv, u64 x] T_law20_Step _
  refine xnew fun a w1 ha hb1 hz1 he1 => ?_
  refine hb1.ld (o := 0) (v := .int .u8 d) rfl ?_
  refine xrem (a := d) (b := 6) (by omega) ?_
  have hd1 := Ext.drew (Ext.refl No w1)
  have he1d := he1.transN hd1
  have hM1 := hM.extN he1d
  have hT1 := h.ti.extN he1d
  have hk1 := hk.extN he1d
  have hb1d := hb1.drew
  refine xif_mod (b := 2) (fun h6 => ?_) fun h6 => ?_
  · refine hM1.blk.ld (o := 2) rfl ?_
    refine hM1.t.sl.rd1 q rfl hqt (x := rp tbs[q]) (by simp [hqt]) ?_
    refine hb1d.ld (o := 3) (v := kv) rfl ?_
    have hdel : Ret P n_trans_Trans_Del [rp tbs[q], kv] w1.drew fun v w' => VE B w1.drew w' ∧ ∃ n' M', v = .tuple #[.bool (if ms[q].2 then false else (look ms[q].1 k).isSome), .int .i64 (if ms[q].2 then 11 else 0)] ∧ TI B w' wb n' j V M' F ∧ (∀ b, b ≠ tbs[q] → M' b = M b) ∧ (ms[q].2 = false → ∃ r, M' tbs[q] = some r ∧ r.l = dropK k ms[q].1) := by
      cases hb : ms[q].2 with
      | true =>
        refine (c_TDelF hT1 (hF hb)).mono ?_
        rintro _ w2 ⟨rfl, rfl⟩
        exact ⟨VE.refl _, n, M, rfl, hT1, fun _ _ => rfl, fun h => by cases h⟩
      | false =>
        obtain ⟨r, hr, hrl⟩ := hR hb
        refine (c_TDel hT1 hr hk1 hkl).mono ?_
        rintro _ w2 ⟨rfl, hE, t', n', hT, -, -⟩
        exact ⟨hE, n', _, by rw [hrl]; rfl, hT, fun b hne => updM_other hne, fun _ => ⟨_, updM_same _ _ _, by rw [hrl]⟩⟩
    refine hdel.mono ?_
    rintro _ w2 ⟨hE2, n2, M2, rfl, hT2, hM2', hr2⟩
    have hd2 := Ext.drew (Ext.refl No w2)
    have hM2 := (hM1.ve hE2).extN hd2
    have hb2 := (hE2.blk hb1d (by unfold VTy KT; decide)).drew
    have hk2 := (hE2.bs hk1).extN hd2
    have hT2d := hT2.extN hd2
    have f2 : FrW B w w2.drew := (FrW.no he1d).trans ((FrW.ve hE2).trans (FrW.no hd2))
    refine hM2.blk.ld (o := 3) rfl ?_
    refine hM2.q.rdK q rfl hq fun p xv hxv hkeep => ?_
    refine hb2.ld (o := 3) (v := kv) rfl ?_
    have hw : wrK d k x ms[q] = (if ms[q].2 then ms[q].1 else dropK k ms[q].1, ms[q].2) := by
      unfold wrK
      cases hb : ms[q].2 with
      | true => rw [if_pos rfl]; exact Prod.ext rfl hb
      | false => rw [if_neg (by simp), if_pos h6]; rfl
    have tail : ∀ {w3 w4 : World} {a : Nat} {x' : Value}, MW w3 B xb vv vp vt vw vv vp vt vw vbs ls tbs ms → FrT B w2.drew w3 → Blk w3 a [x', .bool ms[q].2] T_ref20_Trans → Ps w3 x' (if ms[q].2 then ms[q].1 else dropK k ms[q].1) → ∀ {K : World → Prop}, (∀ w', FrW B w w' ∧ WI B w' wb n2 j V M2 F xb vbs ls tbs (ms.set q (wrK d k x ms[q])) → K w') →
        XLd w3.drew ((⟨xb, 0, none⟩ : Addr).add 3) fun v => XLdN w3.drew ⟨a, 0, none⟩ 2 fun y => xIxS v (.int .i64 q) 2 fun u => xAt u fun a => XDo P (storeVar T_ref20_Trans a y) w3.drew K := by
      intro w3 w4 a x' hM3 f3 hb3 hx3 K kk
      refine hM3.setL hb3 q rfl hq hx3 fun w5 hM5 f5 => kk w5 ?_
      rw [hw]
      refine fin hT2d (f3.trans f5) f2 hM2' (fun h => hF h) (fun h => ?_) ⟨_, _, _, _, hM5⟩
      obtain ⟨r, hr, hrl⟩ := hr2 h
      exact ⟨r, hr, by rw [hrl]; show _ = (if ms[q].2 = true then _ else _); rw [h]; rfl⟩
    refine ⟨?_, ?_⟩
    · refine (c_r20Del hxv hk2 (by omega) hks hT2d.vi.lw.fl).mono ?_
      rintro _ w3 ⟨x', rfl, hx3, he3⟩
      refine loc_rt hx3 fun a4 w4 hb4 he4 => ?_
      have he34 := he3.transN he4
      refine tail (w4 := w4) (hM2.extN he34) (FrT.no he34) hb4 (hx3.extN he4) fun w5 hfin => ?_
      refine xj (fun vs w' => vs = [.bool true] ∧ w5 = w') ?_ ?_
      · refine xifT (by simp) ?_
        exact ⟨by simp, rfl⟩
      rintro vs g w6 ⟨rfl, rfl⟩
      exact ⟨rfl, hfin.1, n2, M2, hfin.2⟩
    · refine xnew fun a3 w3 ha3 hb3 hz3 he3 => ?_
      refine ⟨xkeepV (hb2.ext he3 fun h => h) rfl, hkeep _ he3, xkeepV (hM2.extN he3).blk rfl, ?_⟩
      refine (c_r20Del (hxv.extN he3) (hk2.extN he3) (by omega) hks (hT2d.extN he3).vi.lw.fl).mono ?_
      rintro _ w4 ⟨x', rfl, hx4, he4⟩
      refine xstoreVar (vs := [x', .bool ms[q].2]) (hb3.ext he4 fun h => h) (by kernel_rfl) (by simp) (fun u hu => by simp only [List.mem_cons, List.mem_nil_iff, or_false] at hu; exact hu.elim (fun e => e ▸ hx4.one1) fun e => e ▸ rfl) fun w5 hb5 hz5 he5 => ?_
      have hb5 : Blk w5 a3 [x', .bool ms[q].2] T_ref20_Trans := by simpa using hb5
      have he25 : Ext No w2.drew w5 := (he3.transN he4).trans1 he5 (by omega)
      have hfl4 : Floor.n ≤ w2.drew.heap.size := hT2d.vi.lw.fl
      have hO5 : OW w2.drew.heap.size T_ref20_Trans w4 w5 := .inr ⟨a3, _, by omega, hb3.ext he4 fun h => h, he5⟩
      refine tail (w4 := w5) (hM2.extN he25) (FrT.no he25) hb5 (hO5.ps hfl4 (by decide) (by decide) (by decide) hx4) fun w6 hfin => ?_
      refine xj (fun vs w' => vs = [.bool true] ∧ w6 = w') ?_ ?_
      · refine xifT (by simp) ?_
        exact ⟨by simp, rfl⟩
      rintro vs g w7 ⟨rfl, rfl⟩
      exact ⟨rfl, hfin.1, n2, M2, hfin.2⟩
  · refine hM1.blk.ld (o := 2) rfl ?_
    refine hM1.t.sl.rd1 q rfl hqt (x := rp tbs[q]) (by simp [hqt]) ?_
    refine hb1d.ld (o := 3) (v := kv) rfl ?_
    refine hb1d.ld (o := 4) (v := u64 x) rfl ?_
    have hput : Ret P n_trans_Trans_Put [rp tbs[q], kv, .int .u64 x] w1.drew fun v w' => VE B w1.drew w' ∧ ∃ n' M', v = .int .i64 (if ms[q].2 then 11 else 0) ∧ TI B w' wb n' j V M' F ∧ (∀ b, b ≠ tbs[q] → M' b = M b) ∧ (ms[q].2 = false → ∃ r, M' tbs[q] = some r ∧ r.l = insK ms[q].1 k x) := by
      cases hb : ms[q].2 with
      | true =>
        refine (c_TPutF hT1 (hF hb)).mono ?_
        rintro _ w2 ⟨rfl, rfl⟩
        exact ⟨VE.refl _, n, M, rfl, hT1, fun _ _ => rfl, fun h => by cases h⟩
      | false =>
        obtain ⟨r, hr, hrl⟩ := hR hb
        refine (c_TPut hT1 hr hk1 hkl hx (by rw [hrl]; omega)).mono ?_
        rintro _ w2 ⟨rfl, hE, t', n', hT, -⟩
        exact ⟨hE, n', _, rfl, hT, fun b hne => updM_other hne, fun _ => ⟨_, updM_same _ _ _, by rw [hrl]⟩⟩
    have hrise : ms[q].2 = false → Rises ms[q].1 := fun hb => by
      obtain ⟨r, hr, hrl⟩ := hR hb
      rw [← hrl]
      exact (h.ti.tr _ _ hr).pr.rises
    refine hput.mono ?_
    rintro _ w2 ⟨hE2, n2, M2, rfl, hT2, hM2', hr2⟩
    have hd2 := Ext.drew (Ext.refl No w2)
    have hM2 := (hM1.ve hE2).extN hd2
    have hb2 := (hE2.blk hb1d (by unfold VTy KT; decide)).drew
    have hk2 := (hE2.bs hk1).extN hd2
    have hT2d := hT2.extN hd2
    have f2 : FrW B w w2.drew := (FrW.no he1d).trans ((FrW.ve hE2).trans (FrW.no hd2))
    refine hM2.blk.ld (o := 3) rfl ?_
    refine hM2.q.rdK q rfl hq fun p xv hxv hkeep => ?_
    refine hb2.ld (o := 3) (v := kv) rfl ?_
    refine hb2.ld (o := 4) (v := u64 x) rfl ?_
    have hw : wrK d k x ms[q] = (if ms[q].2 then ms[q].1 else insK ms[q].1 k x, ms[q].2) := by
      unfold wrK
      cases hb : ms[q].2 with
      | true => rw [if_pos rfl]; exact Prod.ext rfl hb
      | false => rw [if_neg (by simp), if_neg h6]; rfl
    have tail : ∀ {w3 w4 : World} {a : Nat} {x' : Value}, MW w3 B xb vv vp vt vw vv vp vt vw vbs ls tbs ms → FrT B w2.drew w3 → Blk w3 a [x', .bool ms[q].2] T_ref20_Trans → Ps w3 x' (if ms[q].2 then ms[q].1 else insK ms[q].1 k x) → ∀ {K : World → Prop}, (∀ w', FrW B w w' ∧ WI B w' wb n2 j V M2 F xb vbs ls tbs (ms.set q (wrK d k x ms[q])) → K w') →
        XLd w3.drew ((⟨xb, 0, none⟩ : Addr).add 3) fun v => XLdN w3.drew ⟨a, 0, none⟩ 2 fun y => xIxS v (.int .i64 q) 2 fun u => xAt u fun a => XDo P (storeVar T_ref20_Trans a y) w3.drew K := by
      intro w3 w4 a x' hM3 f3 hb3 hx3 K kk
      refine hM3.setL hb3 q rfl hq hx3 fun w5 hM5 f5 => kk w5 ?_
      rw [hw]
      refine fin hT2d (f3.trans f5) f2 hM2' (fun h => hF h) (fun h => ?_) ⟨_, _, _, _, hM5⟩
      obtain ⟨r, hr, hrl⟩ := hr2 h
      exact ⟨r, hr, by rw [hrl]; show _ = (if ms[q].2 = true then _ else _); rw [h]; rfl⟩
    have rput : ∀ {w3 : World}, Ext No w2.drew w3 → Ret P n_ref20_Put [.agg #[xv, .bool ms[q].2], kv, .int .u64 x] w3 fun r w' => ∃ x', r = .tuple #[.agg #[x', .bool ms[q].2], .int .i64 (if ms[q].2 then 11 else 0)] ∧ Ps w' x' (if ms[q].2 then ms[q].1 else insK ms[q].1 k x) ∧ Ext No w3 w' := by
      intro w3 e
      exact c_r20Put (hxv.extN e) hrise (hk2.extN e) hx (by omega) hks hkl (hT2d.extN e).vi.lw.fl
    refine ⟨?_, ?_⟩
    · refine (rput (Ext.refl _ _)).mono ?_
      rintro _ w3 ⟨x', rfl, hx3, he3⟩
      refine loc_rt hx3 fun a4 w4 hb4 he4 => ?_
      have he34 := he3.transN he4
      refine tail (w4 := w4) (hM2.extN he34) (FrT.no he34) hb4 (hx3.extN he4) fun w5 hfin => ?_
      exact ⟨by simp, hfin.1, n2, M2, hfin.2⟩
    · refine xnew fun a3 w3 ha3 hb3 hz3 he3 => ?_
      refine ⟨xkeepV (hb2.ext he3 fun h => h) rfl, xkeepV (hb2.ext he3 fun h => h) rfl, hkeep _ he3, xkeepV (hM2.extN he3).blk rfl, ?_⟩
      refine (rput he3).mono ?_
      rintro _ w4 ⟨x', rfl, hx4, he4⟩
      refine xstoreVar (vs := [x', .bool ms[q].2]) (hb3.ext he4 fun h => h) (by kernel_rfl) (by simp) (fun u hu => by simp only [List.mem_cons, List.mem_nil_iff, or_false] at hu; exact hu.elim (fun e => e ▸ hx4.one1) fun e => e ▸ rfl) fun w5 hb5 hz5 he5 => ?_
      have hb5 : Blk w5 a3 [x', .bool ms[q].2] T_ref20_Trans := by simpa using hb5
      have he25 : Ext No w2.drew w5 := (he3.transN he4).trans1 he5 (by omega)
      have hfl4 : Floor.n ≤ w2.drew.heap.size := hT2d.vi.lw.fl
      have hO5 : OW w2.drew.heap.size T_ref20_Trans w4 w5 := .inr ⟨a3, _, by omega, hb3.ext he4 fun h => h, he5⟩
      refine tail (w4 := w5) (hM2.extN he25) (FrT.no he25) hb5 (hO5.ps hfl4 (by decide) (by decide) (by decide) hx4) fun w6 hfin => ?_
      exact ⟨by simp, hfin.1, n2, M2, hfin.2⟩
theorem xif_or {b : Bool} {A C : Prop} (ha : b = true → A) (hb : b = false → C) : xIf (.bool b) A C := xif ha hb
set_option maxHeartbeats 1000000 in
/-- a version is put into -/
theorem c_stepPut (h : WI B w wb n j V M F xb vbs ls tbs ms) {a q : Nat} (hq : q < ls.length) (hb : Blk w a [.int .u8 d, .int .u16 i, .int .u16 jj, kv, u64 x] T_law20_Step) (hk : Bs w kv k) (hkl : k.length ≤ 65535) (hx : x < 18446744073709551616) (hl : ls[q].length ≤ 50000) (hn : ls.length ≤ 1000) (hj : j + 1 < 18446744073709551616)
    {K : Value → World → Prop} (kk : ∀ w', FrW B w w' → (∃ n' V' vbs', WI B w' wb n' (j + 1) V' M F xb vbs' (ls ++ [insK ls[q] k x]) tbs ms) → K (.bool true) w') :
    XLd w ((⟨xb, 0, none⟩ : Addr).add 0) fun v1034 => xIxS v1034 (.int .i64 q) 1 fun v1035 => xAt v1035 fun a1036 => XLd w a1036 fun v1037 =>
    XLd w ((⟨a, 0, none⟩ : Addr).add 3) fun v1038 => XLd w ((⟨a, 0, none⟩ : Addr).add 4) fun v1039 => Ret P n_tree_Version_Put [v1037, v1038, v1039] w fun v1040 w1041 => xTup v1040 0 fun v1042 => xTup v1040 1 fun v1043 =>
    XLd w1041.drew ((⟨xb, 0, none⟩ : Addr).add 0) fun v1045 => XLd w1041.drew ((⟨xb, 0, none⟩ : Addr).add 1) fun v1047 => XLd w1041.drew ((⟨xb, 0, none⟩ : Addr).add 1) fun v1049 =>
    xIxS v1049 (.int .i64 q) 1 fun v1050 => xAt v1050 fun a1051 => XLd w1041.drew a1051 fun v1052 => XLd w1041.drew ((⟨a, 0, none⟩ : Addr).add 3) fun v1053 => XLd w1041.drew ((⟨a, 0, none⟩ : Addr).add 4) fun v1054 =>
    xFill (repL [(.pointer none)] 1) [(0, 1, v1042)] fun c1055 => XNew w1041.drew c1055 T_p_tree_Version fun a1056 w1057 =>
    xKeep1 w1057 (.pointer (some ((⟨a, 0, none⟩ : Addr).add 4))) v1054 ∧ (xKeep1 w1057 (.pointer (some ((⟨a, 0, none⟩ : Addr).add 3))) v1053 ∧ (xKeep1 w1057 v1050 v1052 ∧ (xKeep1 w1057 (.pointer (some ((⟨xb, 0, none⟩ : Addr).add 1))) v1049 ∧ (xKeep1 w1057 (.pointer (some ((⟨xb, 0, none⟩ : Addr).add 1))) v1047 ∧ (xKeep1 w1057 (.pointer (some ((⟨xb, 0, none⟩ : Addr).add 0))) v1045 ∧ (XRun P (Builtin.append_ #[T_s_p_tree_Version, T_s_p_tree_Version] T_s_p_tree_Version #[v1045, (.slice (some a1056) 1 1)]) w1057 fun v1058 w1059 =>
    xKeep1 w1059 (.pointer (some ((⟨a, 0, none⟩ : Addr).add 4))) v1054 ∧ (xKeep1 w1059 (.pointer (some ((⟨a, 0, none⟩ : Addr).add 3))) v1053 ∧ (xKeep1 w1059 v1050 v1052 ∧ (xKeep1 w1059 (.pointer (some ((⟨xb, 0, none⟩ : Addr).add 1))) v1049 ∧ (xKeep1 w1059 (.pointer (some ((⟨xb, 0, none⟩ : Addr).add 1))) v1047 ∧ (Ret P n_ref15_Put [v1052, v1053, v1054] w1059 fun v1060 w1061 =>
    xKeep1 w1061 (.pointer (some ((⟨xb, 0, none⟩ : Addr).add 1))) v1047 ∧ (xFill (repL [(.slice none 0 0)] 1) [(0, 1, v1060)] fun c1062 => XNew w1061 c1062 T_s_ref01_Pair fun a1063 w1064 =>
    xKeep1 w1064 (.pointer (some ((⟨xb, 0, none⟩ : Addr).add 1))) v1047 ∧ (XRun P (Builtin.append_ #[T_s_s_ref01_Pair, T_s_s_ref01_Pair] T_s_s_ref01_Pair #[v1047, (.slice (some a1063) 1 1)]) w1064 fun v1065 w1066 =>
    XSt w1066 ((⟨xb, 0, none⟩ : Addr).add 0) v1058 fun w1068 => XSt w1068 ((⟨xb, 0, none⟩ : Addr).add 1) v1065 fun w1070 =>
    XJ (fun J1071 => xEq v1043 (.int .i64 0) fun v1075 => xIf v1075 (xPNe P w1070 v1042 (.pointer none) fun v1076 => J1071 [v1076] w1070) (J1071 [(.bool false)] w1070)) fun vs1072 g1073 w1074 => K (vs1072.getD 0 undef) w1074))))))))))))) := by
  obtain ⟨vv, vp, vt, vw, hM⟩ := h.mw
  have hlv := h.lv
  have hqv : q < vbs.length := by omega
  refine hM.blk.ld (o := 0) rfl ?_
  refine hM.v.sl.rd1 q rfl hqv (x := rp vbs[q]) (by simp [hqv]) ?_
  obtain ⟨t, hv⟩ := h.ver q _ _ (List.getElem?_eq_getElem hqv) (List.getElem?_eq_getElem hq)
  have hpr := (h.ti.vi.ver _ _ _ hv).pr
  refine hb.ld (o := 3) (v := kv) rfl ?_
  refine hb.ld (o := 4) (v := u64 x) rfl ?_
  refine (c_VPutT h.ti hv hk hkl hx hj (by omega)).mono ?_
  rintro _ w1 ⟨hE1, vb', t', n', V', rfl, hT1, hv', hkeep⟩
  have hd1 := Ext.drew (Ext.refl No w1)
  have hM1 := (hM.ve hE1).extN hd1
  have hb1 := (hE1.blk hb (by unfold VTy KT; decide)).drew
  have hk1 := (hE1.bs hk).extN hd1
  have f1 : FrW B w w1.drew := (FrW.ve hE1).trans (FrW.no hd1)
  refine hM1.blk.ld (o := 0) rfl ?_
  refine hM1.blk.ld (o := 1) rfl ?_
  refine hM1.blk.ld (o := 1) rfl ?_
  refine hM1.p.rdK q rfl hq fun p xl hxl hkp => ?_
  refine hb1.ld (o := 3) (v := kv) rfl ?_
  refine hb1.ld (o := 4) (v := u64 x) rfl ?_
  show XNew w1.drew [rp vb'] T_p_tree_Version _
  refine xnew fun a2 w2 ha2 hb2 hz2 he2 => ?_
  have hM2 := hM1.extN he2
  have hs2 := hb1.ext he2 fun h => h
  refine ⟨xkeepV hs2 rfl, xkeepV hs2 rfl, hkp w2 fun ho => ho.extN he2, xkeepV hM2.blk rfl, xkeepV hM2.blk rfl, xkeepV hM2.blk rfl, ?_⟩
  refine hM2.appV hb2 (by omega) fun vv' w3 hM3 hO3 => ?_
  have hs3 := hO3.blk hs2 (by decide)
  have f3 : FrT B w1.drew w3 := (FrT.no he2).trans (FrT.owV hO3 hM.fl)
  refine ⟨xkeepV hs3 rfl, xkeepV hs3 rfl, hkp w3 fun ho => hO3.own (ho.extN he2) (by decide), xkeepV hM3.blk rfl, xkeepV hM3.blk rfl, ?_⟩
  refine (c_r15Put (f3.fr.ps hxl) (f3.fr.bs hk1) hx (by omega) hpr.keys hkl).mono ?_
  rintro x' w4 ⟨hx4, he4⟩
  rw [← insK_sort _ hpr.rises] at hx4
  refine ⟨xkeepV (hM3.extN he4).blk rfl, ?_⟩
  obtain ⟨ad, cap, rfl⟩ := hx4.slice
  show XNew w4 [_] T_s_ref01_Pair _
  refine xnew fun a5 w5 ha5 hb5 hz5 he5 => ?_
  have hM5 := (hM3.extN he4).extN he5
  have f5 := (f3.trans (FrT.no he4)).trans (FrT.no he5)
  refine ⟨xkeepV hM5.blk rfl, ?_⟩
  refine hM5.tailP hb5 (hx4.extN he5) hn fun vp' w6 hM6 f6 => ?_
  have f16 := f5.trans f6
  refine xj (fun vs w' => vs = [.bool true] ∧ w6 = w') ?_ ?_
  · refine xifT rfl ?_
    exact xpne_vb (b := vb') (w := w6) (K := fun u => [u] = [Value.bool true] ∧ w6 = w6) ⟨rfl, rfl⟩
  rintro vs g w7 ⟨rfl, rfl⟩
  refine kk w6 (f1.trans f16.fr) ⟨n', V', vbs ++ [vb'], f16.ti (hT1.extN hd1), ⟨_, _, _, _, hM6⟩, fun m vb l h1 h2 => ?_, h.tr, h.nod, by simp [hlv], h.lt, by simp⟩
  rcases at_end h1 with ⟨c1, h1⟩ | ⟨c1, rfl⟩
  · rcases at_end h2 with ⟨c2, h2⟩ | ⟨c2, -⟩
    · obtain ⟨t, h3⟩ := h.ver m vb l h1 h2
      exact ⟨t, hkeep _ _ h3⟩
    · omega
  · rcases at_end h2 with ⟨c2, h2⟩ | ⟨c2, rfl⟩
    · omega
    · exact ⟨t', hv'⟩
end
end law20
end Go.Proofs.YtlhjfenpmnejoaaGreatDoor
