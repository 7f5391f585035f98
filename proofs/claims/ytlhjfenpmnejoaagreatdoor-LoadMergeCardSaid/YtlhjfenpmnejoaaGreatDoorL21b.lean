/-  law21: LoadMerge.  -/
import Derived.Test.YtlhjfenpmnejoaaGreatDoorL21
namespace Go.Proofs.YtlhjfenpmnejoaaGreatDoor
open Go Go.RowKit X
set_option linter.unusedSimpArgs false
set_option linter.unusedVariables false
set_option linter.unusedSectionVars false
variable [Floor]
namespace law21
section
variable {B : Nat} {w : World} {wb n j vb : Nat} {t : T} {l : Kv} {v va vc vk : Value} {la lb : Kv} {V : Nat → Option (T × Kv)} {k : Key} {x : Nat}
/-- a version is put into, in short -/
theorem c_VPutS (h : VI B w wb n j V) (hv : V vb = some (t, l)) (hk : Bs w vk k) (hkl : k.length ≤ 65535) (hx : x < 18446744073709551616) (hj : j + 1 < 18446744073709551616) (hl : l.length < 100000) :
    Ret P n_tree_Version_Put [rp vb, vk, .int .u64 x] w fun v w' => VE B w w' ∧ ∃ vb' t' n' V', v = .tuple #[rp vb', .int .i64 0] ∧ VI B w' wb n' (j + 1) V' ∧ V' vb' = some (t', insK l k x) ∧ ∀ b y, V b = some y → V' b = some y :=
  (c_VPutT (TI.of h) hv hk hkl hx hj hl).mono fun _ _ ⟨h1, vb', t', n', V', h2, h3, h4⟩ => ⟨h1, vb', t', n', V', h2, h3.vi, h4⟩
set_option maxRecDepth 100000 in
set_option maxHeartbeats 2000000 in
theorem l_LoadMerge (hw : Lw w) (hl : Ps w v l) (ha : Ps w va la) (hb : Ps w vc lb) : Ret P n_law21_LoadMerge [v, va, vc] w fun r w' => r = .bool true ∧ Ext No w w' := by
  refine W_law21_LoadMerge ?_
  refine xj (fun vs w' => ∃ b, vs = [.bool b] ∧ Ext No w w' ∧ (b = false → (l.length ≤ 60 ∧ ∀ p ∈ l, p.1.length ≤ 300) ∧ (la.length ≤ 40 ∧ ∀ p ∈ la, p.1.length ≤ 300) ∧ (lb.length ≤ 40 ∧ ∀ p ∈ lb, p.1.length ≤ 300))) ?_ ?_
  · refine (c_far (m := 60) hl (by omega)).mono ?_
    rintro r w1 ⟨b, rfl, he1, hb0⟩
    cases b with
    | true => exact xifT rfl ⟨true, rfl, he1, fun h => by cases h⟩
    | false =>
      refine xifF rfl ?_
      refine (c_far (m := 40) (ha.extN he1) (by omega)).mono ?_
      rintro r w2 ⟨b, rfl, he2, hb2⟩
      cases b with
      | true => exact xifT rfl ⟨true, rfl, he1.transN he2, fun h => by cases h⟩
      | false =>
        refine xifF rfl ?_
        refine (c_far (m := 40) (hb.extN (he1.transN he2)) (by omega)).mono ?_
        rintro r w3 ⟨b, rfl, he3, hb3⟩
        exact ⟨b, rfl, (he1.transN he2).transN he3, fun h => ⟨hb0 rfl, hb2 rfl, hb3 h⟩⟩
  rintro vs g w1 ⟨b, rfl, he1, hbb⟩
  have hw1 := hw.extN he1
  cases b with
  | true =>
    refine xifT rfl ?_
    refine (c_alive hw1).mono ?_
    rintro r w2 ⟨rfl, he2⟩
    exact ⟨rfl, he1.transN he2⟩
  | false =>
    refine xifF rfl ?_
    obtain ⟨⟨l1, l3⟩, ⟨a4, a3⟩, b4, b3⟩ := hbb rfl
    have lk : ∀ p ∈ l, p.1.length ≤ 65535 := fun p hp => by have := l3 p hp; omega
    have ak : ∀ p ∈ la, p.1.length ≤ 65535 := fun p hp => by have := a3 p hp; omega
    have bk : ∀ p ∈ lb, p.1.length ≤ 65535 := fun p hp => by have := b3 p hp; omega
    have hm1 := sortK_length l
    have hl1 := hl.extN he1
    have ha1 := ha.extN he1
    have hb1 := hb.extN he1
    clear hl ha hb
    refine (c_WNew (B := w1.heap.size) hw1 (Nat.le_refl _) hw1.fl).mono ?_
    rintro _ w2 ⟨rfl, hI2, he2⟩
    refine (c_pairs (hl1.extN he2) (by omega)).mono ?_
    rintro vl w3 ⟨hvl, he3⟩
    refine (c_Fresh (hI2.extN he3) hvl lk (by omega) (by omega)).mono ?_
    rintro _ w4 ⟨v0, t0, rfl, -, -, hI4, hE4⟩
    have hv0 : updV (fun _ => none) v0 (t0, sortK l) v0 = some (t0, sortK l) := updV_same _ _ _
    generalize updV (fun _ => none) v0 (t0, sortK l) = V4 at hI4 hv0
    generalize 0 + t0.er.size = n4 at hI4
    have hE24 : VE w1.heap.size w2 w4 := (VE.no he3).trans hE4
    refine (c_From hI4 (Ps.none w4) Pr.nil (by omega)).mono ?_
    rintro _ w5 ⟨vn, tn, rfl, hnn, -, hI5, -, hE5⟩
    have hvn : updV V4 vn (tn, []) vn = some (tn, []) := updV_same _ _ _
    have hv0 : updV V4 vn (tn, []) v0 = some (t0, sortK l) := updV_keep hnn hv0
    generalize updV V4 vn (tn, []) = V5 at hI5 hvn hv0
    have hE25 := hE24.trans hE5
    have hfl5 := hI5.lw.fl
    refine (c_pairsS (hE25.ps (ha1.extN he2)) (by omega)).mono ?_
    rintro va6 w6 ⟨hso6, he6⟩
    refine (c_pairs ((hE25.ps (hb1.extN he2)).extN he6) (by omega)).mono ?_
    rintro vb7 w7 ⟨hvb7, he7⟩
    have he57 := he6.transN he7
    obtain ⟨T7, cells7, hT7, hs7, hp7⟩ := hvb7
    refine PsO.app (m := lb) ei_api (by decide) hfl5 he57.size ((hso6.extN he7).pso he57) hs7 hp7 (by omega) fun vboth w8 hO8 _ hE8 _ => ?_
    have hboth8 : Ps w8 vboth (la ++ lb) := hO8.ps (.inl rfl)
    have he58 : Ext No w5 w8 := hE8 w5 he57 (Nat.le_refl _)
    have bothk : ∀ p ∈ la ++ lb, p.1.length ≤ 65535 := fun p hp => (List.mem_append.1 hp).elim (ak p) (bk p)
    have hln : (la ++ lb).length = la.length + lb.length := List.length_append
    have hI8 := hI5.extN he58
    have hE28 := hE25.transN he58
    refine (c_Merge hI8 hv0 hboth8 bothk (by omega) (by omega)).mono ?_
    rintro _ w9 ⟨hE9, v1, t1, n9, V9, rfl, hI9, hv1, hk9⟩
    have hE29 := hE28.trans hE9
    have hl9 := insL_length (sortK l) (la ++ lb)
    refine (c_pairs (hE29.ps (ha1.extN he2)) (by omega)).mono ?_
    rintro va10 w10 ⟨hva10, he10⟩
    refine (c_Merge (hI9.extN he10) (hk9 _ _ hv0) hva10 ak (by omega) (by omega)).mono ?_
    rintro _ w11 ⟨hE11, v2, t2, n11, V11, rfl, hI11, hv2, hk11⟩
    have hE211 := (hE29.transN he10).trans hE11
    have hl11 := insL_length (sortK l) la
    refine (c_pairs (hE211.ps (hb1.extN he2)) (by omega)).mono ?_
    rintro vb12 w12 ⟨hvb12, he12⟩
    refine (c_Merge (hI11.extN he12) hv2 hvb12 bk (by omega) (by omega)).mono ?_
    rintro _ w13 ⟨hE13, v3, t3, n13, V13, rfl, hI13, hv3, hk13⟩
    rw [← insL_app] at hv3
    have hE213 := (hE211.transN he12).trans hE13
    refine (c_pairs (hE213.ps (hl1.extN he2)) (by omega)).mono ?_
    rintro vl14 w14 ⟨hvl14, he14⟩
    refine (c_Merge (hI13.extN he14) (hk13 _ _ (hk11 _ _ (hk9 _ _ hvn))) hvl14 lk (by simp; omega) (by omega)).mono ?_
    rintro _ w15 ⟨hE15, v4, t4, n15, V15, rfl, hI15, hv4, hk15⟩
    rw [insL_nil] at hv4
    have hE215 := (hE213.transN he14).trans hE15
    have hv0' := hk15 _ _ (hk13 _ _ (hk11 _ _ (hk9 _ _ hv0)))
    have hv1' := hk15 _ _ (hk13 _ _ (hk11 _ _ hv1))
    have hv3' := hk15 _ _ hv3
    have hE815 : VE w1.heap.size w8 w15 := ((((((hE9.transN he10).trans hE11).transN he12).trans hE13).transN he14).trans hE15)
    refine xj (fun vs w' => vs = [.bool false] ∧ Ext No w15 w') ?_ ?_
    · refine xifF rfl ?_
      refine xifF rfl ?_
      refine xifF rfl ?_
      refine xifF rfl ?_
      refine (c_VShape hI15 hv4).mono ?_
      rintro _ w16 ⟨rfl, he16⟩
      refine (c_VShape (hI15.extN he16) hv0').mono ?_
      rintro _ w17 ⟨rfl, he17⟩
      refine xsne ?_
      have e : t4.er.shape = t0.er.shape := (hI15.ver _ _ _ hv4).ct.shapes (hI15.ver _ _ _ hv0').ct rfl
      rw [decide_eq_true e]
      exact ⟨rfl, he16.transN he17⟩
    rintro vs g w16 ⟨rfl, he16⟩
    refine xifF rfl ?_
    have hboth15 := hE815.ps hboth8
    have hI16 := hI15.extN he16
    refine (hboth15.extN he16).len ?_
    refine xloop (fun n vs w' => ∃ (i n' j' : Nat) (vq : Nat) (tq : T) (V' : Nat → Option (T × Kv)), vs = [.int .i64 i, rp vq] ∧ n = (la ++ lb).length - i ∧ i ≤ (la ++ lb).length ∧ VI w1.heap.size w' w1.heap.size n' j' V' ∧ j' ≤ 10 + i ∧ V' vq = some (tq, insL (sortK l) ((la ++ lb).take i)) ∧ (∀ b y, V15 b = some y → V' b = some y) ∧ VE w1.heap.size w2 w' ∧ VE w1.heap.size w8 w') (la ++ lb).length
      ⟨0, n15, _, v0, t0, V15, rfl, rfl, by omega, hI16, by omega, by simpa [insL] using hv0', fun _ _ h => h, hE215.transN he16, hE815.transN he16⟩ ?_
    rintro nn vs g w17 ⟨i, n17, j17, vq, tq, V17, rfl, rfl, hi, hI17, hj17, hvq, hk17, hE17, hE817⟩
    unfold S_law21_LoadMerge_l1
    have hboth17 := hE817.ps hboth8
    refine xifD (fun hlt => ?_) fun hge => ?_
    · have hil : i < (la ++ lb).length := by omega
      have hlq := insL_length (sortK l) ((la ++ lb).take i)
      rw [List.length_take] at hlq
      refine hboth17.rd i rfl hil fun kv hkv => ?_
      refine xnew fun b w18 hb hblk hz18 he18 => ?_
      refine xstoreVar hblk (by kernel_rfl) (by simp) ?_ fun w19 hb19 hz19 he19 => ?_
      · intro u hu
        simp only [List.mem_cons, List.mem_nil_iff, or_false] at hu
        rcases hu with rfl | rfl
        · exact hkv.one1
        · rfl
      have hb19 : Blk w19 b [kv, u64 (la ++ lb)[i].2] T_api_Pair := by simpa using hb19
      have hE1719 : Ext No w17 w19 := he18.trans1 he19 (by omega)
      refine hb19.ld (o := 0) rfl ?_
      refine hb19.ld (o := 1) rfl ?_
      refine (c_VPutS (hI17.extN hE1719) hvq (hkv.extN hE1719) (bothk _ (List.getElem_mem hil)) (hboth17.get hil) (by omega) (by omega)).mono ?_
      rintro _ w20 ⟨hE20, vq2, tq2, n20, V20, rfl, hI20, hvq2, hk20⟩
      refine xi (r := ((i + 1 : Nat) : Int)) (by rw [wrapI (by omega)]; omega) ?_
      exact xnext ((la ++ lb).length - (i + 1)) (by omega) ⟨i + 1, n20, j17 + 1, vq2, tq2, V20, rfl, rfl, by omega, hI20, by omega, by rw [insL_take hil]; exact hvq2, fun b y h => hk20 _ _ (hk17 _ _ h), (hE17.transN hE1719).trans hE20, (hE817.transN hE1719).trans hE20⟩
    · have : i = (la ++ lb).length := by omega
      subst this
      rw [List.take_length] at hvq
      refine c_MergeN.mono ?_
      rintro _ w18 ⟨rfl, rfl⟩
      have hv1q := hk17 _ _ hv1'
      have hv3q := hk17 _ _ hv3'
      refine xj (fun vs w' => vs = [.bool true] ∧ Ext No w18 w') ?_ ?_
      · refine (c_VShape hI17 hv1q).mono ?_
        rintro _ w19 ⟨rfl, he19⟩
        refine (c_VShape (hI17.extN he19) hv3q).mono ?_
        rintro _ w20 ⟨rfl, he20⟩
        refine xseq ?_
        refine xifT (decide_eq_true ((hI17.ver _ _ _ hv1q).ct.shapes (hI17.ver _ _ _ hv3q).ct rfl)) ?_
        have he1920 := he19.transN he20
        refine (c_VShape (hI17.extN he1920) hvq).mono ?_
        rintro _ w21 ⟨rfl, he21⟩
        refine (c_VShape (hI17.extN (he1920.transN he21)) hv1q).mono ?_
        rintro _ w22 ⟨rfl, he22⟩
        refine xseq ?_
        refine xifT (decide_eq_true ((hI17.ver _ _ _ hvq).ct.shapes (hI17.ver _ _ _ hv1q).ct rfl)) ?_
        refine xifT rfl ?_
        have he1922 := (he1920.transN he21).transN he22
        refine (c_alive (hI17.extN he1922).lw).mono ?_
        rintro _ w23 ⟨rfl, he23⟩
        exact ⟨rfl, he1922.transN he23⟩
      · rintro vs g w19 ⟨rfl, he19⟩
        exact ⟨rfl, (hE17.start (he1.transN he2) (by have := he1.size; omega)).transN he19⟩
end
end law21
end Go.Proofs.YtlhjfenpmnejoaaGreatDoor
