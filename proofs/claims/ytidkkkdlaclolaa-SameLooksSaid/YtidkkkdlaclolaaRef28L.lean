/-  the reference of layer 28: how often two nodes are looked into.  -/
import Derived.Test.YtidkkkdlaclolaaSame2
import Derived.Test.YtidkkkdlaclolaaRefK
namespace Go.Proofs.Ytidkkkdlaclolaa
open Go Go.RowKit X
set_option linter.unusedSimpArgs false
set_option linter.unusedVariables false
set_option linter.unusedSectionVars false
theorem lookE_size : ∀ {e e' : E}, (lookE e e').2 ≤ e.size := by
  intro e
  induction e with
  | nil => intro e'; exact Nat.le_refl 0
  | node part val kids ih =>
    intro e'
    cases e' with
    | nil => exact Nat.zero_le _
    | node part' val' kids' =>
      rw [lookE]
      split
      · have h1 := walk2_le (f := fun c => lookE (kids c) (kids' c)) (g := fun c => (kids c).size) (fun c => ih c) (l := dom fun c => (kids c).opt) (m := dom fun c => (kids' c).opt)
        have h2 : ((dom fun c => (kids c).opt).map fun c => (kids c).size).sum ≤ (byt.map fun c => (kids c).size).sum := sum_filter_le
        show 1 + _ ≤ (byt.map fun c => (kids c).size).sum + 1
        omega
      · show 1 ≤ _ + 1
        omega
theorem xifND28 {p : Prop} [Decidable p] {A B : Prop} (ha : ¬ p → A) (hb : p → B) : xIf (.bool (!decide p)) A B := by
  by_cases h : p
  · rw [decide_eq_true h]; exact hb h
  · rw [decide_eq_false h]; exact ha h
theorem le_sum_map {g : UInt8 → Nat} {c : UInt8} : ∀ {l : List UInt8}, c ∈ l → g c ≤ (l.map g).sum := by
  intro l
  induction l with
  | nil => intro h; cases h
  | cons a r ih =>
    intro h
    rw [List.map_cons, List.sum_cons]
    rcases List.mem_cons.1 h with rfl | h
    · omega
    · have := ih h; omega
theorem size_kid {part : Key} {val : Option Nat} {kids : UInt8 → E} (c : UInt8) : (kids c).size ≤ (E.node part val kids).size := by
  have := le_sum_map (g := fun c => (kids c).size) (byt_mem c)
  show _ ≤ (byt.map fun c => (kids c).size).sum + 1
  omega
theorem opt_eq {a b : Option Nat} (h1 : a.isSome = b.isSome) (h2 : a.getD 0 = b.getD 0) : a = b := by
  cases a <;> cases b <;> simp_all
variable [Floor]
set_option maxRecDepth 100000 in
set_option maxHeartbeats 1000000 in
theorem c_r28Look : ∀ (e e' : E) {w : World} {cs cs' : List Value}, RC w (fun _ => True) e cs → RC w (fun _ => True) e' cs' → e.size ≤ 1099511627776 →
    Ret P n_ref28_Look [.agg cs.toArray, .agg cs'.toArray] w fun r w' => r = .tuple #[.bool (lookE e e').1, .int .i64 (lookE e e').2] ∧ Ext No w w' := by
  intro e
  have kr : ∀ n : Nat, n ≤ 256 → kindR n ≠ 0 := fun n hn => by
    unfold kindR
    split
    · omega
    · unfold kindN
      repeat' split
      all_goals omega
  induction e with
  | nil =>
    intro e' w cs cs' hrc hrc' hbig
    obtain rfl : cs = zero6 := hrc
    have hl' := hrc'.len
    refine W_ref28_Look ?_
    refine xnew fun nb w1 hnb hblk hz1 he1 => ?_
    refine xnew fun nc w2 hnc hblk2 hz2 he2 => ?_
    have hA : Blk w2 nb zero6 T_ref13_Node := Blk.ext (show Blk w1 nb zero6 T_ref13_Node from hblk) he2 fun h => h
    have hB : Blk w2 nc cs' T_ref13_Node := by simpa [cellsV] using hblk2
    refine xj (fun vs w' => vs = [.bool true] ∧ w2 = w') ?_ ?_
    · refine hA.ld (o := 0) (v := .int .i64 0) rfl ?_
      exact xifT rfl ⟨rfl, rfl⟩
    rintro vs g w3 ⟨rfl, rfl⟩
    refine xifT rfl ?_
    refine hA.ld (o := 0) (v := .int .i64 0) rfl ?_
    cases e' with
    | nil =>
      obtain rfl : cs' = zero6 := hrc'
      refine hB.ld (o := 0) (v := .int .i64 0) rfl ?_
      exact ⟨rfl, he1.transN he2⟩
    | node part' val' kids' =>
      obtain ⟨vp', vb', vk', cells', rfl, -⟩ := hrc'
      refine hB.ld (o := 0) (v := .int .i64 (kindR (dom fun c => (kids' c).opt).length)) rfl ?_
      have hk := kr _ (cnt_le fun c => (kids' c).opt)
      have hk2 : ((0 : Int) == (kindR (dom fun c => (kids' c).opt).length : Nat)) = false := beq_eq_false_iff_ne.2 (by have : kindR (dom fun c => (kids' c).opt).length ≠ 0 := hk; omega)
      exact ⟨by rw [hk2]; rfl, he1.transN he2⟩
  | node part val kids ih =>
    intro e' w cs cs' hrc hrc' hbig
    obtain ⟨vp, vb, vk, cells, rfl, hvp, hvb, hvk, hkids, hpl, hv64⟩ := hrc
    have hl' := hrc'.len
    have hk := kr _ (cnt_le fun c => (kids c).opt)
    have hk : kindR (dom fun c => (kids c).opt).length ≠ 0 := hk
    refine W_ref28_Look ?_
    refine xnew fun nb w1 hnb hblk hz1 he1 => ?_
    refine xnew fun nc w2 hnc hblk2 hz2 he2 => ?_
    have hE2 := he1.transN he2
    have hA : Blk w2 nb [.int .i64 (kindR (dom fun c => (kids c).opt).length), vp, .bool val.isSome, u64 (val.getD 0), vb, vk] T_ref13_Node := Blk.ext (show Blk w1 nb _ T_ref13_Node by simpa [cellsV] using hblk) he2 fun h => h
    have hB : Blk w2 nc cs' T_ref13_Node := by simpa [cellsV] using hblk2
    cases e' with
    | nil =>
      obtain rfl : cs' = zero6 := hrc'
      refine xj (fun vs w' => vs = [.bool true] ∧ w2 = w') ?_ ?_
      · refine hA.ld (o := 0) (v := .int .i64 (kindR (dom fun c => (kids c).opt).length)) rfl ?_
        refine xifF (beq_eq_false_iff_ne.2 (by omega)) ?_
        refine hB.ld (o := 0) (v := .int .i64 0) rfl ?_
        exact ⟨rfl, rfl⟩
      rintro vs g w3 ⟨rfl, rfl⟩
      refine xifT rfl ?_
      refine hA.ld (o := 0) (v := .int .i64 (kindR (dom fun c => (kids c).opt).length)) rfl ?_
      refine hB.ld (o := 0) (v := .int .i64 0) rfl ?_
      have hk2 : (((kindR (dom fun c => (kids c).opt).length : Nat) : Int) == 0) = false := beq_eq_false_iff_ne.2 (by omega)
      exact ⟨by rw [hk2]; rfl, hE2⟩
    | node part' val' kids' =>
      obtain ⟨vp', vb', vk', cells', rfl, hvp', hvb', hvk', hkids', hpl', hv64'⟩ := hrc'
      have hk' := kr _ (cnt_le fun c => (kids' c).opt)
      have hk' : kindR (dom fun c => (kids' c).opt).length ≠ 0 := hk'
      refine xj (fun vs w' => vs = [.bool false] ∧ w2 = w') ?_ ?_
      · refine hA.ld (o := 0) (v := .int .i64 (kindR (dom fun c => (kids c).opt).length)) rfl ?_
        refine xifF (beq_eq_false_iff_ne.2 (by omega)) ?_
        refine hB.ld (o := 0) (v := .int .i64 (kindR (dom fun c => (kids' c).opt).length)) rfl ?_
        have hk2 : (((kindR (dom fun c => (kids' c).opt).length : Nat) : Int) == 0) = false := beq_eq_false_iff_ne.2 (by omega)
        exact ⟨by rw [hk2], rfl⟩
      rintro vs g w3 ⟨rfl, rfl⟩
      refine xifF rfl ?_
      have hvp2 := hvp.extN hE2
      have hvp2' := hvp'.extN hE2
      have hvk2 := hvk.extN hE2
      have hvk2' := hvk'.extN hE2
      have hvb2 := hvb.extN hE2
      have hvb2' := hvb'.extN hE2
      have hsz : (lookE (.node part val kids) (.node part' val' kids')).2 ≤ (E.node part val kids).size := lookE_size
      refine xj (fun vs w' => ∃ q : Bool, vs = [.bool q] ∧ Ext No w2 w' ∧ (q = false ↔ cntE kids = cntE kids' ∧ part = part' ∧ val = val')) ?_ ?_
      · refine hA.ld (o := 0) (v := .int .i64 (kindR (dom fun c => (kids c).opt).length)) rfl ?_
        refine hB.ld (o := 0) (v := .int .i64 (kindR (dom fun c => (kids' c).opt).length)) rfl ?_
        refine xifN (fun h1 => ⟨true, rfl, Ext.refl _ _, by
          constructor
          · intro h; cases h
          · rintro ⟨h, -, -⟩
            have h : (dom fun c => (kids c).opt).length = (dom fun c => (kids' c).opt).length := h
            rw [h] at h1
            exact absurd rfl h1⟩) fun h1 => ?_
        refine hA.ld (o := 5) (v := vk) rfl ?_
        refine xLen_sl hvk2 ?_
        refine hB.ld (o := 5) (v := vk') rfl ?_
        refine xLen_sl hvk2' ?_
        refine xifN (fun h2 => ⟨true, rfl, Ext.refl _ _, by
          constructor
          · intro h; cases h
          · rintro ⟨h, -, -⟩
            have h : (dom fun c => (kids c).opt).length = (dom fun c => (kids' c).opt).length := h
            omega⟩) fun h2 => ?_
        have hcnt : cntE kids = cntE kids' := by
          show (dom fun c => (kids c).opt).length = (dom fun c => (kids' c).opt).length
          omega
        refine hA.ld (o := 1) (v := vp) rfl ?_
        refine hB.ld (o := 1) (v := vp') rfl ?_
        have b1 : Bs w2 vp part := hvp2.weak fun _ _ h => h.1
        have b2 : Bs w2 vp' part' := hvp2'.weak fun _ _ h => h.1
        refine (c_rSame b1 b2 (by omega)).mono ?_
        rintro _ w4 ⟨rfl, he4⟩
        have hA4 := hA.ext he4 fun h => h
        have hB4 := hB.ext he4 fun h => h
        refine xifND28 (fun h3 => ⟨true, rfl, he4, by
          constructor
          · intro h; cases h
          · rintro ⟨-, h, -⟩; exact absurd h h3⟩) fun h3 => ?_
        refine hA4.ld (o := 2) (v := .bool val.isSome) rfl ?_
        refine hB4.ld (o := 2) (v := .bool val'.isSome) rfl ?_
        show xIf (.bool (!(val.isSome == val'.isSome))) _ _
        refine xif (fun h4 => ⟨true, rfl, he4, by
          constructor
          · intro h; cases h
          · rintro ⟨-, -, h⟩; rw [h] at h4; simp at h4⟩) fun h4 => ?_
        have h4 : val.isSome = val'.isSome := by simpa using h4
        refine hA4.ld (o := 3) (v := u64 (val.getD 0)) rfl ?_
        refine hB4.ld (o := 3) (v := u64 (val'.getD 0)) rfl ?_
        refine ⟨_, rfl, he4, ?_⟩
        constructor
        · intro h
          have h5 : ((val.getD 0 : Nat) : Int) = ((val'.getD 0 : Nat) : Int) := by simpa using h
          exact ⟨hcnt, h3, opt_eq h4 (by omega)⟩
        · rintro ⟨-, -, h⟩
          rw [h]; simp
      rintro vs g w3 ⟨q, rfl, he3, hq⟩
      cases q with
      | true =>
        refine xifT rfl ?_
        rw [lookE, if_neg fun h => by have := hq.2 h; cases this]
        exact ⟨rfl, hE2.transN he3⟩
      | false =>
        refine xifF rfl ?_
        obtain ⟨hcnt, rfl, rfl⟩ := hq.1 rfl
        have hlk : lookE (.node part val kids) (.node part val kids') = ((walk2 (fun c => lookE (kids c) (kids' c)) (dom fun c => (kids c).opt) (dom fun c => (kids' c).opt)).1, 1 + (walk2 (fun c => lookE (kids c) (kids' c)) (dom fun c => (kids c).opt) (dom fun c => (kids' c).opt)).2) := by
          rw [lookE, if_pos ⟨hcnt, rfl, rfl⟩]
        rw [hlk] at hsz ⊢
        have hcnt : (dom fun c => (kids c).opt).length = (dom fun c => (kids' c).opt).length := hcnt
        have hfc : ∀ c, lookE (kids c) (kids' c) = (fun c => lookE (kids c) (kids' c)) c := fun _ => rfl
        generalize hf : (fun c => lookE (kids c) (kids' c)) = f at hsz hfc ⊢
        generalize hl : (dom fun c => (kids c).opt) = l at hvk2 hvb2 hkids hcnt hsz hA ⊢
        generalize hm : (dom fun c => (kids' c).opt) = m at hvk2' hvb2' hkids' hcnt hsz hB ⊢
        have hE3 := hE2.transN he3
        have hln : l.length ≤ 256 := by rw [← hl]; exact cnt_le _
        refine xloop (fun n vs w' => ∃ (i many : Nat) (x2 x3 x4 x5 : Value), vs = [.int .i64 i, .int .i64 many, x2, x3, x4, x5] ∧ n = l.length - i ∧ i ≤ l.length ∧ (walk2 f l m).1 = (walk2 f (l.drop i) (m.drop i)).1 ∧ 1 + (walk2 f l m).2 = many + (walk2 f (l.drop i) (m.drop i)).2 ∧ Ext No w2 w') l.length
          ⟨0, 1, _, _, _, _, rfl, rfl, by omega, rfl, rfl, he3⟩ ?_
        rintro nn vs g w4 ⟨i, many, x2, x3, x4, x5, rfl, rfl, hi, hw1, hw2, he4⟩
        unfold S_ref28_Look_l1
        have hA4 := hA.ext he4 fun h => h
        have hB4 := hB.ext he4 fun h => h
        refine hA4.ld (o := 5) (v := vk) rfl ?_
        refine xLen_sl (hvk2.extN he4) ?_
        refine xifD (fun hlt => ?_) fun hge => ?_
        · have hil : i < l.length := by omega
          have him : i < m.length := by omega
          have el : l.drop i = l[i] :: l.drop (i + 1) := List.drop_eq_getElem_cons hil
          have em : m.drop i = m[i] :: m.drop (i + 1) := List.drop_eq_getElem_cons him
          rw [el, em, walk2] at hw1 hw2
          have hd := Ext.drew (Ext.refl No w4)
          have hA5 := hA4.drew
          have hB5 := hB4.drew
          refine hA5.ld (o := 4) (v := vb) rfl ?_
          refine Sl.rd1 (hvb2.extN (he4.transN hd)) i rfl hil (x := bv l[i]) (by simp [hil]) ?_
          refine hB5.ld (o := 4) (v := vb') rfl ?_
          refine Sl.rd1 (hvb2'.extN (he4.transN hd)) i rfl (by omega) (x := bv m[i]) (by simp [him]) ?_
          refine xifN (fun hne => ?_) fun heq => ?_
          · have hne : l[i] ≠ m[i] := fun e => hne (by rw [e])
            rw [if_neg hne] at hw1 hw2
            refine ⟨?_, (hE2.transN he4).transN hd⟩
            rw [hw1, hw2]; rfl
          · have heq : l[i] = m[i] := UInt8.toNat_inj.1 (by omega)
            rw [if_pos heq] at hw1 hw2
            have hdd := Ext.drew (Ext.refl No w4.drew)
            have he6 := (he4.transN hd).transN hdd
            have hA6 := hA5.drew
            have hB6 := hB5.drew
            refine hA6.ld (o := 5) (v := vk) rfl ?_
            refine Sl.rdN (hvk2.extN he6) i rfl hil ?_
            refine hB6.ld (o := 5) (v := vk') rfl ?_
            refine Sl.rdN (hvk2'.extN he6) i rfl (by omega) ?_
            have r1 := (hkids i l[i] (List.getElem?_eq_getElem hil)).extN (hE2.transN he6)
            have r2 := (hkids' i m[i] (List.getElem?_eq_getElem him)).extN (hE2.transN he6)
            rw [← heq] at r2
            have hks := size_kid (part := part) (val := val) (kids := kids) l[i]
            refine (ih l[i] (kids' l[i]) r1 r2 (by omega)).mono ?_
            rintro _ w7 ⟨rfl, he7⟩
            rw [hfc]
            have hE7 := (hE2.transN he6).transN he7
            cases hfi : (f l[i]).1 with
            | false =>
              rw [hfi] at hw1 hw2
              rw [if_neg (by simp)] at hw1 hw2
              have hw2 : 1 + (walk2 f l m).2 = many + (f l[i]).2 := hw2
              refine xi (r := ((many + (f l[i]).2 : Nat) : Int)) (by rw [wrapI (by omega)]; omega) ?_
              refine xifT rfl ⟨?_, hE7⟩
              rw [hw1, hw2]
            | true =>
              rw [hfi] at hw1 hw2
              rw [if_pos rfl] at hw1 hw2
              have hw1 : (walk2 f l m).1 = (walk2 f (l.drop (i + 1)) (m.drop (i + 1))).1 := hw1
              have hw2 : 1 + (walk2 f l m).2 = many + ((f l[i]).2 + (walk2 f (l.drop (i + 1)) (m.drop (i + 1))).2) := hw2
              refine xi (r := ((many + (f l[i]).2 : Nat) : Int)) (by rw [wrapI (by omega)]; omega) ?_
              refine xifF rfl ?_
              refine xi (r := ((i + 1 : Nat) : Int)) (by rw [wrapI (by omega)]; omega) ?_
              exact xnext (l.length - (i + 1)) (by omega) ⟨i + 1, many + (f l[i]).2, _, _, _, _, rfl, rfl, by omega, hw1, by omega, he6.transN he7⟩
        · rw [List.drop_of_length_le (by omega), List.drop_of_length_le (by omega)] at hw1 hw2
          have hw1 : (walk2 f l m).1 = true := hw1
          have hw2 : 1 + (walk2 f l m).2 = many + 0 := hw2
          refine ⟨?_, hE2.transN he4⟩
          rw [hw1, hw2]; rfl
end Go.Proofs.Ytidkkkdlaclolaa
