/-  versions: parts of them; what each operation leaves, in short; rows of versions and of pairs; steps.  -/
import Derived.Test.YthnegkjhciakpaaGreatDoorVer
import Derived.Test.YthnegkjhciakpaaGreatDoorSub
import Derived.Test.YthnegkjhciakpaaGreatDoorRef18
namespace Go.Proofs.YthnegkjhciakpaaGreatDoor
open Go Go.RowKit X
set_option linter.unusedSimpArgs false
set_option linter.unusedVariables false
set_option linter.unusedSectionVars false
variable [Floor]
theorem updV_keep' {V : Nat → Option (T × Kv)} {vb v0 : Nat} {y z : T × Kv} (hn : V vb = none) (h : V v0 = some y) : updV V vb z v0 = some y := by
  rw [updV_other fun e => by subst e; rw [hn] at h; cases h]
  exact h
theorem insK_same' {l : Kv} (h : Rises l) {k : Key} {x : Nat} (hk : look l k = some x) : insK l k x = l :=
  (insK_rises h k x).ext h fun k' => by
    rw [insK_look h]
    split
    · rename_i e; subst e; exact hk.symm
    · rfl
theorem dropK_none' {l : Kv} (h : Rises l) {k : Key} (hk : look l k = none) : dropK k l = l := by
  have h1 : Rises (dropK k l) := List.Pairwise.filter _ h
  exact h1.ext h fun k' => by
    rw [look_drop]
    split
    · rename_i e; subst e; exact hk.symm
    · rfl
/-- a version that an operation made, or found -/
def Made (B : Nat) (w' : World) (wb j : Nat) (V : Nat → Option (T × Kv)) (l' : Kv) (vb' : Nat) : Prop := ∃ t' n' V', VI B w' wb n' j V' ∧ V' vb' = some (t', l') ∧ ∀ b y, V b = some y → V' b = some y
section
variable {B : Nat} {w w1 w2 : World} {wb n j vb : Nat} {t : T} {l : Kv} {V : Nat → Option (T × Kv)} {k : Key} {vk : Value} {x : Nat}
theorem VI.nowE {n' : Nat} (h : VI B w wb n j V) (hv : V vb = some (t, l)) {t' : T} {l' : Kv} (hct : Ct w t' l') (hp : Pr l') (how : t'.OwQ (· ≤ j)) :
    Ret P n_tree_Version_now [rp vb, t'.v, .int .i64 0] w fun r w' => ∃ vb', r = .tuple #[rp vb', .int .i64 0] ∧ Made B w' wb j V l' vb' ∧ Ext No w w' := by
  refine (h.now (x := .int .i64 0) hv hct hp how).mono ?_
  rintro _ w1 ⟨vb', rfl, ⟨rfl, -, rfl, rfl⟩ | ⟨-, rfl, hI, he⟩⟩
  · exact ⟨_, rfl, ⟨t, n, V, h, hv, fun _ _ h => h⟩, Ext.refl _ _⟩
  · exact ⟨_, rfl, ⟨t', n, _, hI, updV_same _ _ _, fun b y hb => updV_keep' h.new hb⟩, he⟩
def VopR (B : Nat) (w : World) (wb j : Nat) (V : Nat → Option (T × Kv)) (l' : Kv) (r : Value) (w' : World) : Prop := VE B w w' ∧ ∃ vb', r = .tuple #[rp vb', .int .i64 0] ∧ Made B w' wb (j + 1) V l' vb'
/-- an operation on a version's tree by a new owner -/
theorem vop (f : FuncId) (h : VI B w wb n j V) (hv : V vb = some (t, l)) (hj : j + 1 < 18446744073709551616) {l' : Kv} (hpr : Pr l')
    (hf : ∀ {w1 : World}, VI B w1 wb n (j + 1) V → VE B w w1 → Ret P f [t.v, vk, .int .u64 (j + 1 : Nat), mv (some (wmt wb (j + 1)))] w1 fun r w' => ∃ t' n', r = .tuple #[t'.v, .int .i64 0] ∧ Tree w' t' ∧ Mt w' (some (wmt wb (j + 1))) n' ∧ Ext (MX (some (wmt wb (j + 1)))) w1 w' ∧ Can t'.er (look l') ∧ t'.Leafy ∧ t'.OwQ (· ≤ j + 1)) :
    Ret P n_tree_Version_ok [rp vb] w fun v1000 w1001 =>
      xNot v1000 fun v1002 =>
      xIf v1002 (VopR B w wb j V l' (.tuple #[(.pointer none), (.int .i64 2)]) w1001) (xAt (rp vb) fun a1003 =>
      XLd w1001.drew (a1003.add 1) fun v1004 =>
      xAt (rp vb) fun a1005 =>
      XLd w1001.drew (a1005.add 0) fun v1006 =>
      xAt (rp vb) fun a1007 =>
      XLd w1001.drew (a1007.add 0) fun v1008 =>
      Ret P n_tree_World_Owner [v1006] w1001.drew fun v1009 w1010 =>
      xKeep1 w1010 (.pointer (some (a1007.add 0))) v1008 ∧ (xKeep1 w1010 (.pointer (some (a1003.add 1))) v1004 ∧ (Ret P n_tree_World_Meter [v1008] w1010 fun v1011 w1012 =>
      xKeep1 w1012 (.pointer (some (a1003.add 1))) v1004 ∧ (Ret P f [v1004, vk, v1009, v1011] w1012 fun v1013 w1014 =>
      xTup v1013 0 fun v1015 =>
      xTup v1013 1 fun v1016 =>
      Ret P n_tree_Version_now [rp vb, v1015, v1016] w1014 fun v1017 w1018 =>
      xTup v1017 0 fun v1019 =>
      xTup v1017 1 fun v1020 =>
      VopR B w wb j V l' (.tuple #[v1019, v1020]) w1018)))) := by
  have hV := h.ver vb t l hv
  obtain ⟨d, c, b, hb, -⟩ := hV.blk
  refine (c_VOk hb).mono ?_
  rintro _ w1 ⟨rfl, rfl⟩
  refine xifF rfl ?_
  refine hb.drew.ld (v := t.v) rfl ?_
  refine hb.drew.ld (v := rp wb) rfl ?_
  refine hb.drew.ld (v := rp wb) rfl ?_
  have hd := h.drew
  refine (c_WOwner hd.mt hj).mono ?_
  rintro _ w2 ⟨rfl, hm2, he2⟩
  have hI2 := hd.step he2 hm2 (by omega)
  have hE2 : VE B w1 w2 := (VE.no (Ext.drew (Ext.refl No w1))).trans (hd.stepE he2)
  have hne : vb ≠ wb := fun e => by subst e; exact absurd (hb.inj h.wblk).2 (by decide)
  have hb2 := hb.drew.ext he2 hne
  refine ⟨xkeepV hb2 rfl, xkeepV hb2 rfl, ?_⟩
  refine (c_WMeter (j := j + 1)).mono ?_
  rintro _ w3 ⟨rfl, rfl⟩
  refine ⟨xkeepV hb2 rfl, ?_⟩
  refine (hf hI2 hE2).mono ?_
  rintro _ w4 ⟨t', n', rfl, htr, hm4, he4, hcan, hlf, how⟩
  have he4 : Ext (· = wb) w3 w4 := he4.mono fun b _ hb => hb.symm
  have hI4 := hI2.step he4 hm4 (Nat.le_refl _)
  have hE4 := hE2.trans (hI2.stepE he4)
  refine (hI4.nowE (n' := 0) hv ⟨htr, hcan, hlf⟩ hpr how).mono ?_
  rintro _ w5 ⟨vb', rfl, hM, he5⟩
  exact ⟨hE4.transN he5, vb', rfl, hM⟩
theorem c_VSubE (h : VI B w wb n j V) (hv : V vb = some (t, l)) (hk : Bs w vk k) (hkl : k.length ≤ 65535) (hj : j + 1 < 18446744073709551616) :
    Ret P n_tree_Version_Sub [rp vb, vk] w fun r w' => VE B w w' ∧ ∃ vb', r = .tuple #[rp vb', .int .i64 0] ∧ Made B w' wb (j + 1) V (subK k l) vb' := by
  have hV := h.ver vb t l hv
  refine W_tree_Version_Sub ?_
  refine vop n_sub_Sub (vk := vk) h hv hj (l' := subK k l) ⟨subK_rises hV.pr.rises, fun p hp => hV.pr.keys p (subK_mem hp).1, Nat.le_trans (subK_length k l) hV.pr.many⟩ fun {w1} hI1 hE1 => ?_
  have hV1 := hI1.ver vb t l hv
  refine (c_Sub (o := j + 1) hV1.ct.tree hI1.mt (by omega) (hE1.bs hk) (by omega) hV1.ct.can (hV1.ct.long hV1.pr)).mono ?_
  rintro _ w2 ⟨t', n', rfl, hS, hcan, -⟩
  exact ⟨t', n', rfl, hS.tree, hS.cnt, hS.ext, hcan.congr fun k' => (look_sub k l k').symm, hS.leafy hV1.ct.leafy, hS.own _ (Nat.le_refl _) (hV.own.mono fun o ho => by omega)⟩
theorem c_VStripE (h : VI B w wb n j V) (hv : V vb = some (t, l)) (hk : Bs w vk k) (hkl : k.length ≤ 65535) (hj : j + 1 < 18446744073709551616) :
    Ret P n_tree_Version_Strip [rp vb, vk] w fun r w' => VE B w w' ∧ ∃ vb', r = .tuple #[rp vb', .int .i64 0] ∧ Made B w' wb (j + 1) V (stripK k l) vb' := by
  have hV := h.ver vb t l hv
  refine W_tree_Version_Strip ?_
  have hpr : Pr (stripK k l) := ⟨stripK_rises hV.pr.rises, fun p hp => by
    obtain ⟨q, hq, rfl⟩ := List.mem_map.1 hp
    have := hV.pr.keys q (subK_mem hq).1
    simp; omega, by
    have := subK_length k l
    have := hV.pr.many
    unfold stripK
    rw [List.length_map]
    omega⟩
  refine vop n_sub_Strip (vk := vk) h hv hj (l' := stripK k l) hpr fun {w1} hI1 hE1 => ?_
  have hV1 := hI1.ver vb t l hv
  refine (c_Strip (o := j + 1) hV1.ct.tree hI1.mt (by omega) (hE1.bs hk) (by omega) hV1.ct.can).mono ?_
  rintro _ w2 ⟨t', n', rfl, hS, hcan, -⟩
  exact ⟨t', n', rfl, hS.tree, hS.cnt, hS.ext, hcan.congr fun k' => (look_strip k l k').symm, hS.leafy hV1.ct.leafy, hS.own _ (Nat.le_refl _) (hV.own.mono fun o ho => by omega)⟩
theorem c_VUnderE (h : VI B w wb n j V) (hv : V vb = some (t, l)) (hk : Bs w vk k) (hfit : ∀ p ∈ l, k.length + p.1.length ≤ 65535) (hkl : k.length ≤ 65535) (hj : j + 1 < 18446744073709551616) :
    Ret P n_tree_Version_Under [rp vb, vk] w fun r w' => VE B w w' ∧ ∃ vb', r = .tuple #[rp vb', .int .i64 0] ∧ Made B w' wb (j + 1) V (underK k l) vb' := by
  have hV := h.ver vb t l hv
  refine W_tree_Version_Under ?_
  have hpr : Pr (underK k l) := ⟨underK_rises hV.pr.rises, fun p hp => by
    obtain ⟨q, hq, rfl⟩ := List.mem_map.1 hp
    have := hfit q hq
    simp; omega, by
    have := hV.pr.many
    unfold underK
    rw [List.length_map]
    omega⟩
  refine vop n_sub_Under (vk := vk) h hv hj (l' := underK k l) hpr fun {w1} hI1 hE1 => ?_
  have hV1 := hI1.ver vb t l hv
  have hfit' : t = .nil ∨ k.length + t.er.long ≤ 65535 := by
    cases hl : l with
    | nil =>
      subst hl
      exact .inl hV1.ct.nilT
    | cons p r =>
      right
      rw [hV1.ct.can.long hV1.pr.rises]
      have : maxL (l.map fun p => p.1.length) ≤ 65535 - k.length := maxL_le' fun m hm => by
        obtain ⟨q, hq, rfl⟩ := List.mem_map.1 hm
        have := hfit q hq
        omega
      omega
  refine (c_Under (o := j + 1) hV1.ct.tree hI1.mt (by omega) (hE1.bs hk) hV1.ct.can (hV1.ct.long hV1.pr) hfit').mono ?_
  rintro _ w2 ⟨t', n', rfl, hS, hcan, -, -⟩
  exact ⟨t', n', rfl, hS.tree, hS.cnt, hS.ext, hcan.congr fun k' => (look_under k l k').symm, hS.leafy hV1.ct.leafy, hS.own _ (Nat.le_refl _) (hV.own.mono fun o ho => by omega)⟩
theorem c_VPutE (h : VI B w wb n j V) (hv : V vb = some (t, l)) (hk : Bs w vk k) (hkl : k.length ≤ 65535) (hx : x < 18446744073709551616) (hj : j + 1 < 18446744073709551616) (hl : l.length < 100000) :
    Ret P n_tree_Version_Put [rp vb, vk, .int .u64 x] w fun r w' => VE B w w' ∧ ∃ vb', r = .tuple #[rp vb', .int .i64 0] ∧ Made B w' wb (j + 1) V (insK l k x) vb' := by
  have hV := h.ver vb t l hv
  refine (c_VPut h hv hk hkl hx hj hl).mono ?_
  rintro _ w1 ⟨hE, vb', rfl, ⟨h1, rfl, hI⟩ | ⟨-, hn, -, t', n', hI, -⟩⟩
  · exact ⟨hE, _, rfl, t, n, V, hI, by rw [insK_same' hV.pr.rises h1]; exact hv, fun _ _ h => h⟩
  · exact ⟨hE, _, rfl, t', n', _, hI, updV_same _ _ _, fun b y hb => updV_keep' hn hb⟩
theorem c_VDelE (h : VI B w wb n j V) (hv : V vb = some (t, l)) (hk : Bs w vk k) (hkl : k.length ≤ 65535) (hj : j + 1 < 18446744073709551616) :
    Ret P n_tree_Version_Del [rp vb, vk] w fun r w' => VE B w w' ∧ ∃ vb' y, r = .tuple #[rp vb', y, .int .i64 0] ∧ Made B w' wb (j + 1) V (dropK k l) vb' := by
  have hV := h.ver vb t l hv
  refine (c_VDel h hv hk hkl hj).mono ?_
  rintro _ w1 ⟨hE, vb', rfl, ⟨h1, rfl, hI⟩ | ⟨-, hn, -, t', n', hI, -⟩⟩
  · exact ⟨hE, _, _, rfl, t, n, V, hI, by rw [dropK_none' hV.pr.rises h1]; exact hv, fun _ _ h => h⟩
  · exact ⟨hE, _, _, rfl, t', n', _, hI, updV_same _ _ _, fun b y hb => updV_keep' hn hb⟩
theorem c_FromE {v : Value} (h : VI B w wb n j V) (hv : Ps w v l) (hp : Pr l) (hj : j + 1 < 18446744073709551616) :
    Ret P n_tree_World_From [rp wb, v] w fun r w' => VE B w w' ∧ ∃ vb', r = .tuple #[rp vb', .int .i64 0] ∧ Made B w' wb (j + 1) V l vb' := by
  refine (c_From h hv hp hj).mono ?_
  rintro _ w1 ⟨vb, t, rfl, hn, -, hI, -, hE⟩
  exact ⟨hE, vb, rfl, t, _, _, hI, updV_same _ _ _, fun b y hb => updV_keep' hn hb⟩
/-- pairs that do not rise are refused -/
theorem c_FromNo {v : Value} (h : VI B w wb n j V) (hv : Ps w v l) (hl : l.length ≤ 100000) (hk : ∀ p ∈ l, p.1.length ≤ 65535) (hr : ¬ Rises l) (hj : j + 1 < 18446744073709551616) :
    Ret P n_tree_World_From [rp wb, v] w fun r w' => r = .tuple #[.pointer none, .int .i64 12] ∧ VI B w' wb n (j + 1) V ∧ VE B w w' := by
  refine W_tree_World_From ?_
  refine xifF rfl ?_
  refine (c_WMeter (j := j)).mono ?_
  rintro _ w1 ⟨rfl, rfl⟩
  refine (c_WOwner h.mt hj).mono ?_
  rintro _ w2 ⟨rfl, hm2, he2⟩
  have hI2 := h.step he2 hm2 (by omega)
  have hE2 := h.stepE he2
  refine (c_BuildNo (mt := some (wmt wb (j + 1))) (hE2.ps hv) hl (fun h => hr h.2)).mono ?_
  rintro _ w3 ⟨rfl, he3⟩
  rw [if_pos hk]
  refine xifT rfl ?_
  exact ⟨rfl, hI2.extN he3, hE2.transN he3⟩
end
end Go.Proofs.YthnegkjhciakpaaGreatDoor
