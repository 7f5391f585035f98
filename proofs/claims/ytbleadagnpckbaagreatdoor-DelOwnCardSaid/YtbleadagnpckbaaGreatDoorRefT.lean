/-  the references' tree: Build, and its shape.  -/
import Derived.Test.YtbleadagnpckbaaGreatDoorRefB
namespace Go.Proofs.YtbleadagnpckbaaGreatDoor
open Go Go.RowKit X
set_option linter.unusedSimpArgs false
set_option linter.unusedVariables false
set_option linter.unusedSectionVars false
/-- a whole element, that goes on standing there -/
theorem X.Sl.rdNK {w : World} {T : Nat → TypeId → Prop} {v : Value} {sz n : Nat} {cells : List Value} {K : Value → Value → Prop} {kd : IntKind} {i : Int} (h : Sl w T v sz n cells) (m : Nat) (hi : i = (m : Int)) (hm : m < n)
    (k : ∀ p, (∀ w', Sl w' T v sz n cells → xKeepN w' p (.agg ((cells.drop (m * sz)).take sz).toArray)) → K p (.agg ((cells.drop (m * sz)).take sz).toArray)) :
    xIxS v (.int kd i) sz fun u => xAt u fun a => XLdN w a sz fun x => K u x := by
  have hl := h.len
  have hle : (m + 1) * sz ≤ n * sz := Nat.mul_le_mul_right sz hm
  rw [Nat.succ_mul] at hle
  have key : ∀ w', Sl w' T v sz n cells → ∃ a cap, v = .slice (some a) n cap ∧ ∀ o, o < sz → w'.cell? ((a.add (m * sz)).add o) = cells[m * sz + o]? := by
    rintro w' ⟨a, cap, rfl, hl, hc, ha⟩
    cases a with
    | none => exact absurd ha (by omega)
    | some ad =>
      rcases ha with h0 | ⟨b, of, cs, t, fz, rfl, hT, h2, h3, h4⟩
      · omega
      refine ⟨_, cap, rfl, fun o ho => ?_⟩
      rw [Addr.add_lit, Addr.add_lit]
      have := h4 (m * sz + o) (by omega)
      simp only [World.cell?, h2]
      simp
      rw [show of + m * sz + o = of + (m * sz + o) by omega]
      exact this
  obtain ⟨a, cap, rfl, hc⟩ := key w h
  have hseg : ∀ o, o < sz → ((cells.drop (m * sz)).take sz).toArray[o]? = cells[m * sz + o]? := fun o ho => by simp [List.getElem?_take, ho, List.getElem?_drop]
  have hsz : ((cells.drop (m * sz)).take sz).toArray.size = sz := by simp; omega
  refine ⟨m, hi, hm, ⟨_, hsz, fun o ho => by rw [hc o ho, hseg o ho], k _ fun w' h' => ?_⟩⟩
  obtain ⟨a', cap', e, hc'⟩ := key w' h'
  simp only [Value.slice.injEq, Option.some.injEq] at e
  obtain ⟨rfl, -, rfl⟩ := e
  intro o ho
  have ho : o < sz := by rw [hsz] at ho; exact ho
  rw [hc' o ho, hseg o ho]
variable [Floor]
section
theorem c_rBuild {w : World} {v : Value} {l : Kv} (hll : l.length ≤ 1099511627776) (hv : Ps w v l) (hr : Rises l) (hs : ∀ x ∈ l, x.1.length ≤ 65535) :
    Ret P n_ref13_Build [v] w fun r w' => ∃ e cs, r = .agg cs.toArray ∧ RC w' (fun _ => True) e cs ∧ Can e (look l) ∧ Ext No w w' := by
  refine W_ref13_Build ?_
  refine xnew fun rb w1 hrb hblk hz he1 => ?_
  refine (c_rbuild l.length (p := []) (Nat.le_refl _) hll hv he1 hr hs (fun x _ => List.nil_prefix) (by simp)).mono ?_
  rintro r w2 ⟨e, cs, rfl, hrc, hcan, he2⟩
  have hblk2 : Blk w2 rb zero6 T_ref13_Node := hblk.ext he2 fun h => h
  have hlen := hrc.len
  refine xstoreVar hblk2 (by rw [hlen.1]; kernel_rfl) (by rw [hlen.1]; simp) hlen.2 fun w3 hb3 hz3 he3 => ?_
  have hb3 : Blk w3 rb cs T_ref13_Node := by
    have e1 : (zero6.drop (0 + cs.length)) = [] := by rw [hlen.1]; rfl
    rw [e1] at hb3
    simpa using hb3
  refine hb3.ldA hlen.1 ?_
  have hs1 := he1.size
  refine ⟨e, cs, rfl, ?_, hcan, (he1.transN he2).trans1 he3 (by omega)⟩
  exact (hrc.ext he3 fun b hX hb hq => by
    have hX : b = rb := hX
    subst hX
    have := he2.size
    rcases hq with hq | hq <;> omega).weak fun _ _ _ => trivial
/-- the shape's text -/
theorem c_rShape : ∀ (e : E) {w : World} {cs : List Value}, RC w (fun _ => True) e cs → e.Fine → e.shape.length ≤ 70368744177664 → Ret P n_ref13_Shape [.agg cs.toArray] w fun r w' => r = str e.shape ∧ Ext No w w' := by
  intro e
  induction e with
  | nil =>
    intro w cs hrc _ _
    have : cs = zero6 := hrc
    subst this
    refine W_ref13_Shape ?_
    refine xnew fun nb w1 hnb hblk hz he => ?_
    have hblk : Blk w1 nb zero6 T_ref13_Node := hblk
    refine hblk.ld (o := 0) (v := .int .i64 0) rfl ?_
    exact xifT rfl ⟨rfl, he⟩
  | node part val kids ih =>
    intro w cs hrc hf hn
    obtain ⟨vp, vb, vk, cells, rfl, hvp, hvb, hvk, hkids, hpl, hv64⟩ := hrc
    obtain ⟨hf1, hf2, hf3⟩ := fine_of hf
    have hcle : (dom fun c => (kids c).opt).length ≤ 256 := cnt_le _
    have hce : (dom fun c => (kids c).opt).length = cntE kids := rfl
    have hvp' : Bs w vp part := hvp.weak fun b t h => h.1
    refine W_ref13_Shape ?_
    refine xnew fun nb w1 hnb hblk hz he => ?_
    have hblk : Blk w1 nb [.int .i64 (kindR (dom fun c => (kids c).opt).length), vp, .bool val.isSome, u64 (val.getD 0), vb, vk] T_ref13_Node := by simpa [cellsV] using hblk
    have hxl := hexK_length part
    have hvl : (valS val).length ≤ 21 := by
      cases val with
      | none => simp [valS]
      | some v =>
        have := decK_len v (hv64 v rfl)
        simp [valS]; omega
    have hgd : val.getD 0 < 18446744073709551616 := by
      cases val with
      | none => simp
      | some v => exact hv64 v rfl
    by_cases hc : (dom fun c => (kids c).opt).length = 0
    · have hk1 : kindR (dom fun c => (kids c).opt).length = 1 := by unfold kindR; rw [if_pos hc]
      rw [hk1] at hblk
      refine hblk.ld (o := 0) (v := .int .i64 (1 : Nat)) rfl ?_
      refine xifF rfl ?_
      refine hblk.ld (o := 0) (v := .int .i64 (1 : Nat)) rfl ?_
      refine xifT rfl ?_
      refine hblk.drew.ld (o := 1) (v := vp) rfl ?_
      refine hblk.drew.ld (o := 3) (v := u64 (val.getD 0)) rfl ?_
      refine (c_rText (hvp'.extN he.drew) (by omega)).mono ?_
      rintro r w2 ⟨rfl, he2⟩
      refine ⟨((hblk.drew.ext he2 fun h => h).cell 3).trans rfl, ?_⟩
      refine xcat (l := [76]) (by simp; omega) ?_
      refine xcat (m := [61]) (by simp; omega) ?_
      refine (c_Digits hgd).mono ?_
      rintro r w3 ⟨rfl, rfl⟩
      have hdl := decK_len _ hgd
      refine xcat (by simp; omega) ?_
      refine ⟨?_, he.drew.transN he2⟩
      rw [E.shape, if_pos (by rw [← hce]; exact hc)]
      have hvs := hf1 (by rw [← hce]; exact hc)
      obtain ⟨v, hv⟩ := Option.isSome_iff_exists.1 hvs
      subst hv
      congr 2
      simp [valS]
    · have hk1 : kindR (dom fun c => (kids c).opt).length = kindN (dom fun c => (kids c).opt).length := by unfold kindR; rw [if_neg hc]
      rw [hk1] at hblk
      have hkp : 4 ≤ kindN (dom fun c => (kids c).opt).length ∧ kindN (dom fun c => (kids c).opt).length ≤ 256 := by
        unfold kindN
        repeat' split
        all_goals omega
      generalize hkd : kindN (dom fun c => (kids c).opt).length = kd at hblk hkp
      refine hblk.ld (o := 0) (v := .int .i64 kd) rfl ?_
      refine xifF (by simp; omega) ?_
      refine hblk.ld (o := 0) (v := .int .i64 kd) rfl ?_
      refine xifF (by simp; omega) ?_
      refine hblk.drew.ld (o := 0) (v := .int .i64 kd) rfl ?_
      refine xi (r := (kd : Int)) (wrapU64 (by omega)) ?_
      refine hblk.drew.ld (o := 1) (v := vp) rfl ?_
      refine (c_Digits (n := kd) (by omega)).mono ?_
      rintro r w2 ⟨rfl, rfl⟩
      have hdk := decK_len kd (by omega)
      refine ⟨(hblk.drew.cell 1).trans rfl, ?_⟩
      refine xcat (m := [60]) (by simp; omega) ?_
      refine (c_rText (hvp'.extN he.drew) (by omega)).mono ?_
      rintro r w3 ⟨rfl, he3⟩
      have hE3 := he.drew.transN he3
      have hb3 := hblk.drew.ext he3 fun h => h
      refine xcat (by simp; omega) ?_
      refine xj (fun vs w' => vs = [str (decK kd ++ [60] ++ hexK part ++ valS val)] ∧ Ext No w w' ∧ Blk w' nb [.int .i64 kd, vp, .bool val.isSome, u64 (val.getD 0), vb, vk] T_ref13_Node) ?_ ?_
      · refine hb3.ld (o := 2) (v := .bool val.isSome) rfl ?_
        cases val with
        | none => exact xifF rfl ⟨by simp [valS], hE3, hb3⟩
        | some v =>
          refine xifT rfl ?_
          refine hb3.ld (o := 3) (v := u64 v) rfl ?_
          refine (c_Digits (hv64 v rfl)).mono ?_
          rintro r w4 ⟨rfl, rfl⟩
          have hdl := decK_len v (hv64 v rfl)
          refine xcat (l := [61]) (by simp; omega) ?_
          refine xcat (by simp; omega) ?_
          exact ⟨by simp [valS], hE3, hb3⟩
      rintro vs g w4 ⟨rfl, hE4, hb4⟩
      have hsh : (E.node part val kids).shape = decK kd ++ [60] ++ hexK part ++ valS val ++ ((dom fun c => (kids c).opt).flatMap fun c => 58 :: (hexB c ++ (kids c).shape)) ++ [62] := by
        rw [E.shape, if_neg (by rw [← hce]; exact hc), ← hkd, hce]
        simp only [List.append_assoc, List.cons_append, List.nil_append, List.singleton_append]
      rw [hsh] at hn ⊢
      refine xloop (fun nn vs w' => ∃ i : Nat, vs = [.int .i64 i, str (decK kd ++ [60] ++ hexK part ++ valS val ++ (((dom fun c => (kids c).opt).take i).flatMap fun c => 58 :: (hexB c ++ (kids c).shape)))] ∧ nn = (dom fun c => (kids c).opt).length - i ∧ i ≤ (dom fun c => (kids c).opt).length ∧ Ext No w w' ∧
          Blk w' nb [.int .i64 kd, vp, .bool val.isSome, u64 (val.getD 0), vb, vk] T_ref13_Node) (dom fun c => (kids c).opt).length ⟨0, by simp, rfl, by omega, hE4, hb4⟩ ?_
      rintro nn vs g w5 ⟨i, rfl, rfl, hi, hE5, hb5⟩
      refine hb5.ld (o := 5) (v := vk) rfl ?_
      refine xLen_sl hvk ?_
      refine xifD (fun hlt => ?_) fun hge => ?_
      · have hil : i < (dom fun c => (kids c).opt).length := by omega
        generalize hcc : (dom fun c => (kids c).opt)[i] = c
        have hget : (dom fun c => (kids c).opt)[i]? = some c := by rw [List.getElem?_eq_getElem hil, hcc]
        have hE5d := hE5.drew
        refine hb5.drew.ld (o := 4) (v := vb) rfl ?_
        refine (hvb.extN hE5d).rd1 (x := bv c) i rfl hil (by rw [List.getElem?_map, hget]; rfl) ?_
        refine hb5.drew.ld (o := 5) (v := vk) rfl ?_
        refine (hvk.extN hE5d).rdNK i rfl hil fun pp hpp => ?_
        show XNew w5.drew [bv c] T_uint8 _
        refine xnew fun a w6 ha hbl hz6 he6 => ?_
        have hE6 := hE5d.transN he6
        refine ⟨hpp _ (hvk.extN hE6), ((hb5.drew.ext he6 fun h => h).cell 5).trans rfl, ?_⟩
        have hbs : Bs w6 (.slice (some ⟨a, 0, none⟩) 1 1) [c] := by
          have := hbl.sl (o := 0) (n := 1) (cap := 1) (by simp) (Nat.le_refl _)
          exact Bs.of (by simpa using this)
        refine (c_rText hbs (by simp)).mono ?_
        rintro r w7 ⟨rfl, he7⟩
        have hE7 := hE6.transN he7
        have hb7 := (hb5.drew.ext he6 fun h => h).ext he7 fun h => h
        refine ⟨hpp _ (hvk.extN hE7), (hb7.cell 5).trans rfl, ?_⟩
        have hx1 : hexK [c] = hexB c := by simp [hexK]
        rw [hx1]
        have hsplit : ((dom fun c => (kids c).opt).flatMap fun c => 58 :: (hexB c ++ (kids c).shape)).length = (((dom fun c => (kids c).opt).take i).flatMap fun c => 58 :: (hexB c ++ (kids c).shape)).length + (3 + (kids c).shape.length) + (((dom fun c => (kids c).opt).drop (i + 1)).flatMap fun c => 58 :: (hexB c ++ (kids c).shape)).length := by
          have h1 : (dom fun c => (kids c).opt) = (dom fun c => (kids c).opt).take i ++ c :: (dom fun c => (kids c).opt).drop (i + 1) := by
            rw [← hcc, List.getElem_cons_drop, List.take_append_drop]
          conv => lhs; rw [h1]
          simp [hexB]
          omega
        have hbnd : (decK kd ++ [60] ++ hexK part ++ valS val ++ (((dom fun c => (kids c).opt).take i).flatMap fun c => 58 :: (hexB c ++ (kids c).shape))).length + (3 + (kids c).shape.length) ≤ 70368744177664 := by
          simp only [List.length_append] at hn ⊢
          omega
        refine xcat (l := [58]) (by simp [hexB]) ?_
        refine (ih c ((hkids i c hget).extN hE7) (hf3 c) (by omega)).mono ?_
        rintro r w8 ⟨rfl, he8⟩
        refine xcat (by simp [hexB]; omega) ?_
        refine xcat (by simp only [List.length_append] at hbnd ⊢; simp [hexB] at hbnd ⊢; omega) ?_
        refine xi (r := ((i + 1 : Nat) : Int)) (by rw [wrapI (by omega)]; omega) ?_
        refine xnext ((dom fun c => (kids c).opt).length - (i + 1)) (by omega) ⟨i + 1, ?_, rfl, by omega, hE7.transN he8, hb7.ext he8 fun h => h⟩
        have h2 : (dom fun c => (kids c).opt).take (i + 1) = (dom fun c => (kids c).opt).take i ++ [c] := by rw [← List.take_append_getElem hil, hcc]
        rw [h2, List.flatMap_append]
        simp
      · have : i = (dom fun c => (kids c).opt).length := by omega
        subst this
        rw [List.take_length]
        refine xcat (m := [62]) (by simp only [List.length_append] at hn ⊢; simp only [List.length_singleton] at hn ⊢; omega) ?_
        exact ⟨rfl, hE5⟩
end
end Go.Proofs.YtbleadagnpckbaaGreatDoor
