/-  law16: DelLeft: the walk.  -/
import Derived.Test.YthnegkjhciakpaaGreatDoorL16o
namespace Go.Proofs.YthnegkjhciakpaaGreatDoor
open Go Go.RowKit X
set_option linter.unusedSimpArgs false
set_option linter.unusedVariables false
set_option linter.unusedSectionVars false
variable [Floor]
theorem one_leaf {w : World} {t : T} {q : Key × Nat} (h : Ct w t [q]) : t ≠ .nil ∧ t.kind = 1 := by
  have he : t.er = .node q.1 (some q.2) noE := h.can.uniq (Can.leaf fun r => by
    by_cases e : r = q.1
    · subst e; simp [look]
    · have e' : ¬ q.1 = r := fun h => e h.symm
      simp [look, e, e'])
  cases t with
  | nil => cases he
  | node a ow part val ks kids =>
    refine ⟨by simp, ?_⟩
    have hk : (fun c => (kids c).er) = noE := by
      have : E.node part val (fun c => (kids c).er) = .node q.1 (some q.2) noE := he
      injection this
    have e0 : cnt (fun c => ((kids c).er).opt) = cnt (ptrs kids) := X.cnt_congr' fun c => T.er_opt (kids c)
    have hc : cnt (ptrs kids) = 0 := by
      rw [← e0]
      show cntE (fun c => (kids c).er) = 0
      rw [hk]; exact cntE_no
    show kindV ks (ptrs kids) = 1
    unfold kindV
    rw [if_pos (h.leafy.1.2 hc)]
theorem two_inner {w : World} {t : T} {m : Kv} (h : Ct w t m) (hr : Rises m) (hm : 2 ≤ m.length) : ∃ a ow part v0 ks kids, t = .node a ow part v0 ks kids ∧ ks ≠ [] := by
  cases t with
  | nil =>
    exfalso
    cases m with
    | nil => simp at hm
    | cons x r =>
      have := h.can.get x.1
      have e : look (x :: r) x.1 = some x.2 := by simp [look]
      rw [e] at this
      cases this
  | node a ow part v0 ks kids =>
    refine ⟨a, ow, part, v0, ks, kids, rfl, fun hks => ?_⟩
    have hc : cnt (ptrs kids) = 0 := h.leafy.1.1 hks
    have e0 : cnt (fun c => ((kids c).er).opt) = cnt (ptrs kids) := X.cnt_congr' fun c => T.er_opt (kids c)
    have hk : (fun c => (kids c).er) = noE := cntE_zero (by show cnt (fun c => ((kids c).er).opt) = 0; rw [e0, hc])
    have hv : v0.isSome = true := by
      have h1 : if cnt (fun c => ((kids c).er).opt) = 0 then v0.isSome = true else 2 ≤ cnt (fun c => ((kids c).er).opt) + one v0 := h.can.fine.1
      rw [e0, if_pos hc] at h1
      exact h1
    obtain ⟨z, rfl⟩ := Option.isSome_iff_exists.1 hv
    have he : (T.node a ow part (some z) ks kids).er = .node part (some z) noE := by
      show E.node part (some z) (fun c => (kids c).er) = _
      rw [hk]
    have hcan : Can (.node part (some z) noE) (look [(part, z)]) := Can.leaf fun r => by
      by_cases e : r = part
      · subst e; simp [look]
      · have e' : ¬ part = r := fun h => e h.symm
        simp [look, e, e']
    have : m = [(part, z)] := hr.ext (List.pairwise_singleton _ _) fun k => by rw [← h.can.get k, he, hcan.get k]
    rw [this] at hm
    simp at hm
theorem KO.app {w : World} {B b : Nat} {v : Value} {l : List (UInt8 × T)} (h : KO w B v l) (hB : B ≤ w.heap.size) (hl : l.length ≤ 1000) {c : UInt8} {t : T} (hblk : Blk w b [bv c, t.v] T_del_Kid) {K : Value → World → Prop}
    (k : ∀ v' w', KO w' B v' (l ++ [(c, t)]) → (∀ w0 : World, Ext No w0 w → w0.heap.size ≤ B → Ext No w0 w') → (∀ b cs T, Blk w b cs T → T ≠ T_del_Kid → Blk w' b cs T) → K v' w') :
    XRun P (Builtin.append_ #[T_s_del_Kid, T_s_del_Kid] T_s_del_Kid #[v, .slice (some ⟨b, 0, none⟩) 1 1]) w K := by
  obtain ⟨cells, h1, h2⟩ := h
  have hsl : Sl w (tyQ T_del_Kid) (.slice (some ⟨b, 0, none⟩) 1 1) 2 1 [bv c, t.v] := hblk.sln rfl
  refine app_own ei_kid' h1 hB hsl (fun u hu => ?_) (by omega) (by omega) fun v' w2 ho2 he2 _ _ => ?_
  · simp only [List.mem_cons, List.mem_nil_iff, or_false] at hu
    rcases hu with rfl | rfl <;> rfl
  refine k v' w2 ⟨_, by rw [List.length_append]; exact ho2, fun i p hp => ?_⟩ (fun w0 e0 h0 => Ext.own e0 h1 h0 he2) fun b' cs T hb' hT => hb'.ext he2 fun hv => Own.neB h1 hb' (fun e => hT e.symm) hv
  have hcl : cells.length = l.length * 2 := h1.len
  rcases Nat.lt_trichotomy i l.length with hlt | heq | hgt
  · rw [List.getElem?_append_left hlt] at hp
    obtain ⟨g1, g2⟩ := h2 i p hp
    exact ⟨by rw [List.getElem?_append_left (by omega)]; exact g1, by rw [List.getElem?_append_left (by omega)]; exact g2⟩
  · subst heq
    rw [List.getElem?_append_right (by omega)] at hp
    simp at hp
    subst hp
    exact ⟨by rw [List.getElem?_append_right (by omega), hcl]; simp, by rw [List.getElem?_append_right (by omega), hcl, show l.length * 2 + 1 - l.length * 2 = 1 by omega]; rfl⟩
  · rw [List.getElem?_eq_none (by simp; omega)] at hp; cases hp
theorem xkeepS {w : World} {b o : Nat} {cs : List Value} {T : TypeId} {v : Value} (h : Blk w b cs T) (hv : cs[o]? = some v) : xKeep1 w (.pointer (some ((⟨b, 0, none⟩ : Addr).add o))) v := by
  show w.cell? ((⟨b, 0, none⟩ : Addr).add o) = some v
  rw [Addr.add_lit, h.cell, Nat.zero_add, hv]
namespace law16
section
variable {w : World} {v vd : Value} {l : Kv} {ds : Key} {x : Nat} {has : Bool}
set_option maxRecDepth 100000 in
theorem l_DelLeft (hw : Lw w) (hl : Ps w v l) (hd : Bs w vd ds) (hx64 : x < 18446744073709551616) : Ret P n_law16_DelLeft [v, vd, .agg #[.bool has, u64 x]] w fun r w' => r = .bool true ∧ Ext No w w' := by
  obtain ⟨val, rfl, hv⟩ : ∃ val : Option Nat, val.isSome = has ∧ ∀ y, val = some y → y = x := by
    cases has with
    | true => exact ⟨some x, rfl, fun y h => (Option.some.inj h).symm⟩
    | false => exact ⟨none, rfl, fun y h => by cases h⟩
  refine W_law16_DelLeft ?_
  refine xnew fun sb w1 hsb hblk hz1 he1 => ?_
  have hS : Blk w1 sb [.bool val.isSome, u64 x] T_law16_Slot := hblk
  refine xj (fun vs w' => ∃ b, vs = [.bool b] ∧ Ext No w1 w' ∧ (b = false → l.length ≤ 150 ∧ (∀ p ∈ l, p.1.length ≤ 300) ∧ ds.length ≤ 300)) ?_ ?_
  · refine (c_far (m := 150) (hl.extN he1) (by omega)).mono ?_
    rintro r w2 ⟨b, rfl, he2, hb⟩
    cases b with
    | true => exact xifT rfl ⟨true, rfl, he2, fun h => by cases h⟩
    | false =>
      refine xifF rfl ?_
      refine (hd.extN (he1.transN he2)).len ?_
      exact ⟨_, rfl, he2, fun h5 => ⟨(hb rfl).1, (hb rfl).2, by have := of_decide_eq_false h5; omega⟩⟩
  rintro vs g w2 ⟨b, rfl, he2, hb⟩
  have hE2 := he1.transN he2
  cases b with
  | true =>
    refine xifT rfl ?_
    refine (c_alive (hw.extN hE2)).mono ?_
    rintro r w3 ⟨rfl, he3⟩
    exact ⟨rfl, hE2.transN he3⟩
  | false =>
    refine xifF rfl ?_
    obtain ⟨h150, h300, hds⟩ := hb rfl
    have hpr : Pr (sortK l) := Pr.sort (by omega) fun p h => by have := h300 p h; omega
    have hm150 : (sortK l).length ≤ 150 := Nat.le_trans (sortK_length l) h150
    refine (c_rSort (hl.extN hE2) (by omega) (fun p h => by have := h300 p h; omega)).mono ?_
    rintro vl w3 ⟨hso, he3⟩
    have hps := hso.ps he3 (.inr rfl)
    have hw3 := (hw.extN hE2).extN he3
    generalize sortK l = m at hpr hso hps hm150
    refine (c_tree hps hpr hw3 (ow := 1) (by omega)).mono ?_
    rintro r w4 ⟨t, rfl, hct, -, how, -, he4⟩
    have hE4 := (hE2.transN he3).transN he4
    have hw4 := hw3.extN he4
    have hps4 := hps.extN he4
    have hS4 := hS.ext ((he2.transN he3).transN he4) fun h => h
    refine (c_kids hct.tree (hd.extN hE4) (by omega)).mono ?_
    rintro _ w5 ⟨v1, v2, rfl, hko, hbs, he5⟩
    refine xnew fun mb w6 hmb hmblk hz6 he6 => ?_
    have he46 := he5.transN he6
    have hE6 := hE4.transN he46
    have hm6 : Mt w6 (some mb) 0 := (hw4.extN he5).mtNew hmb hmblk he6
    have hmb4 : w4.heap.size ≤ mb := by have := he5.size; omega
    have hS6 := hS4.ext he46 fun h => h
    have hko6 := hko.extN he6
    have hct6 := hct.extN he46
    have hkl := kidL_len (t := t) (ds := ds)
    refine hS6.ld (o := 0) (v := .bool val.isSome) rfl ?_
    refine hS6.ld (o := 1) (v := u64 x) rfl ?_
    by_cases hm2 : m.length < 2
    · -- nothing, or a leaf
      have hno : ¬ Why t (kidL t ds byt) 1 0 := fun h => by
        have hsm : ∃ q, m = [] ∨ m = [q] := by
          cases m with
          | nil => exact ⟨([], 0), .inl rfl⟩
          | cons q r =>
            cases r with
            | nil => exact ⟨q, .inr rfl⟩
            | cons => exact absurd hm2 (by simp only [List.length_cons]; omega)
        rcases h with ⟨h1, -⟩ | ⟨h1, -⟩ | ⟨h1, -⟩ | ⟨h1, -⟩ | ⟨-, -, -, h2, h3, -⟩
        · omega
        · omega
        · omega
        · omega
        · obtain ⟨q, rfl | rfl⟩ := hsm
          · exact h2 hct.nilT
          · exact h3 (one_leaf hct).2
      refine (c_LeftNo (o := 1) hct6.tree hko6.rk (by omega) hno).mono ?_
      rintro _ w7 ⟨e, rfl, hwhy, he7⟩
      have hE7 := hE6.transN he7
      have hw7 := hw.extN hE7
      have he : (m = [] ∧ e = 2) ∨ (m.length = 1 ∧ e = 9) := by
        rcases hwhy with ⟨-, h | ⟨p, hp, h⟩⟩ | ⟨h, -, -, h2⟩ | ⟨h, -, -, h2, h3⟩ | ⟨h, -, -, h2, h3, -⟩ | ⟨h, -, -, h2, h3, -⟩
        · omega
        · exact absurd h (kidL_some hp)
        · left
          refine ⟨?_, h⟩
          subst h2
          cases m with
          | nil => rfl
          | cons q r =>
            have := hct.can.get q.1
            have e : look (q :: r) q.1 = some q.2 := by simp [look]
            rw [e] at this
            cases this
        · right
          refine ⟨?_, h⟩
          have : m ≠ [] := fun e => by subst e; exact h2 hct.nilT
          have := List.length_pos_iff.2 this
          omega
        · exfalso
          cases m with
          | nil => exact h2 hct.nilT
          | cons q r =>
            cases r with
            | nil => exact h3 (one_leaf hct).2
            | cons => exact absurd hm2 (by simp only [List.length_cons]; omega)
        · exfalso
          cases m with
          | nil => exact h2 hct.nilT
          | cons q r =>
            cases r with
            | nil => exact h3 (one_leaf hct).2
            | cons => exact absurd hm2 (by simp only [List.length_cons]; omega)
      refine hps4.len ?_
      refine xifT (by simp; omega) ?_
      refine xj (fun vs w' => vs = [.bool true] ∧ Ext No w w') ?_ ?_
      · refine xpeq_self T.nil ?_
        refine xifT rfl ?_
        refine hps4.len ?_
        rcases he with ⟨rfl, rfl⟩ | ⟨h1, rfl⟩
        · refine xifT rfl ?_
          refine xifT rfl ?_
          refine (c_alive hw7).mono ?_
          rintro _ w8 ⟨rfl, he8⟩
          exact ⟨rfl, hE7.transN he8⟩
        · refine xifF (by rw [h1]; rfl) ?_
          refine hps4.len ?_
          refine xifT (by rw [h1]; rfl) ?_
          refine xifT rfl ?_
          refine (c_alive hw7).mono ?_
          rintro _ w8 ⟨rfl, he8⟩
          exact ⟨rfl, hE7.transN he8⟩
      · rintro vs g w8 ⟨rfl, he⟩
        exact ⟨rfl, he⟩
    · obtain ⟨a, ow, part, v0, ks, kids, rfl, hks⟩ := two_inner hct hpr.rises (by omega)
      have hlong := hct.long hpr
      have hpl : part.length ≤ 65535 := hct.tree.1.short
      have hL6 := hko6.lk (fun p hp => kidL_tree hct6.tree hp) (fun p hp => kidL_some hp) kidL_up hkl
      refine (c_Left (val := val) (x := x) (o := 1) hct6.tree hks hct.can.fine hct.leafy hL6 (fun p hp => by rw [(kidL_mem hp).2]; exact hct.leafy.2 _) hv hx64 (by omega) hm6 fun p hp => ?_).mono ?_
      · have h1 := kidL_mem hp
        have hcd : p.1 ∈ dom (ptrs kids) := dom_mem.2 (by
          have := h1.1
          unfold keepK at this
          simp only [Bool.and_eq_true] at this
          exact this.1)
        have h2 := long_kid (a := a) (ow := ow) (part := part) (val := v0) (ks := ks) hcd
        have h3 : p.2.part.length ≤ (kids p.1).er.long := by
          rw [h1.2]
          show (kids p.1).part.length ≤ _
          cases hq : kids p.1 with
          | nil => exact Nat.zero_le _
          | node a' ow' p' v' ks' kids' =>
            show p'.length ≤ (E.node p' v' fun c => (kids' c).er).long
            rw [E.long_node]; omega
        omega
      rintro _ w7 ⟨t', n', rfl, hR, hidle⟩
      have he7 := hR.ext
      have hm7 := hR.cnt
      have he47 := Ext.mx' he46 he7 hmb4
      have hE7 := hE4.transN he47
      have hw7 := hw.extN hE7
      have hps7 := hps4.extN he47
      have hct7 := hct.extN he47
      have hS7 := hS4.ext he47 fun h => h
      obtain ⟨kcells, hkown, hkread⟩ := hko6
      have hko7 : KO w7 w4.heap.size v1 (kidL (.node a ow part v0 ks kids) ds byt) := ⟨kcells, Own.ext hkown he7 fun b hb hx => by
        obtain ⟨-, cs, T', h1, h2⟩ := hm6.nbt (T := T_del_Kid) (by decide) b hx (Own.ge hkown hb).2
        exact Own.neB hkown h1 (fun e => h2 e.symm) hb, hkread⟩
      refine hps7.len ?_
      refine xifF (by simp; omega) ?_
      refine hS7.ld (o := 0) (v := .bool val.isSome) rfl ?_
      refine hS7.ld (o := 1) (v := u64 x) rfl ?_
      generalize hbse : (kidL (.node a ow part v0 ks kids) ds byt).map Prod.fst = bs at hbs
      have hbl : bs.length ≤ 256 := by rw [← hbse, List.length_map]; exact hkl
      have hbs7 : Bs w7 v2 bs := (hbs.extN he6).mt he7 hm6
      refine (c_r16Left (val := val) hps7 hpr hbs7 hx64 hv hct7.can rfl (by omega)).mono ?_
      rintro vw w8 ⟨hpsw, he8⟩
      have hkids : ∀ c, (fun c => (setK (kidL (.node a ow part v0 ks kids) ds byt) c).er) c = if c ∈ bs then (kids c).er else .nil := fun c => by
        show (setK _ c).er = _
        rw [kidL_set, hbse]
        split <;> rfl
      have hcan' := left_can (val := val) (bs := bs) hct7.can hkids
      have hprw : Pr (leftK part val bs m) := left_pr hct7.can hpr (by omega) hpl
      have hct' : Ct w7 t' (leftK part val bs m) := ⟨hR.tree, by rw [hR.er]; exact hcan', hR.leafy⟩
      have hw8 := hw7.extN he8
      refine xj (fun vs w' => vs = [.bool false] ∧ Ext No w8 w') ?_ ?_
      · refine xifF rfl ?_
        refine (c_as hw8 (hct'.extN he8) hpsw hprw).mono ?_
        rintro _ w9 ⟨rfl, he9⟩
        refine xifF rfl ?_
        have he79 := he8.transN he9
        refine (c_as (hw7.extN he79) (hct7.extN he79) (hps7.extN he79) hpr).mono ?_
        rintro _ w10 ⟨rfl, he10⟩
        refine xifF rfl ?_
        have he710 := he79.transN he10
        refine (c_MCount (hm7.extN he710)).mono ?_
        rintro _ w11 ⟨rfl, rfl⟩
        have hle := hR.le
        refine xifF (by rw [wrapI (by omega)]; simp; omega) ?_
        refine (c_equal (hpsw.extN (he9.transN he10)) (hps7.extN he710) hprw.many hpr.many hprw.keys).mono ?_
        rintro _ w12 ⟨rfl, he12⟩
        have he812 := (he9.transN he10).transN he12
        refine xifD (fun h => ?_) fun h => ⟨rfl, he812⟩
        have hbs' : leftK part val ((kidL (.node a ow part v0 ks kids) ds byt).map Prod.fst) m = m := by rw [hbse]; exact h
        obtain ⟨rfl, rfl⟩ := hidle (kidL_all hct.can hbs')
        refine xpne_self _ ?_
        refine xifF rfl ?_
        refine (c_MCount ((hm7.extN he710).extN he12)).mono ?_
        rintro _ w13 ⟨rfl, rfl⟩
        exact ⟨rfl, he812⟩
      rintro vs g w9 ⟨rfl, he9⟩
      refine xifF rfl ?_
      have he49 := (he47.transN he8).transN he9
      have hko9 := (hko7.extN he8).extN he9
      generalize hLd : kidL (.node a ow part v0 ks kids) ds byt = L0 at hko9 hkl
      have hL0s : ∀ p ∈ L0, p.2 ≠ .nil := fun p hp => kidL_some (by rw [hLd]; exact hp)
      have hL0u : UpK L0 := by rw [← hLd]; exact kidL_up
      refine xLen_sl hko9.choose_spec.1.sl ?_
      refine xi (r := ((L0.length : Nat) : Int) - 1) (wrapI (by omega)) ?_
      refine xloop (fun nn vs w' => ∃ (i : Nat) (j : Int) (L : List (UInt8 × T)), vs = [.int .i64 i, .int .i64 j] ∧ nn = L0.length - i ∧ j = (L0.length : Int) - 1 - i ∧ i ≤ L0.length ∧ TurnR L0 L i ∧ KO w' w4.heap.size v1 L ∧ Ext No w4 w') L0.length
        ⟨0, _, L0, rfl, rfl, by omega, by omega, ⟨rfl, fun p h => h, fun _ => rfl, fun h => absurd h (by omega)⟩, hko9, he49⟩ ?_
      rintro nn vs g w10 ⟨i, j, L, rfl, rfl, hj, hi, hT, hko10, he410⟩
      unfold S_law16_DelLeft_l1
      have hlen := hT.len
      have hd10 := Ext.drew (Ext.refl No w10)
      refine xifD (fun hlt => ?_) fun hge => ?_
      · obtain ⟨jn, rfl⟩ : ∃ jn : Nat, j = jn := ⟨j.toNat, by omega⟩
        have hjl : jn < L.length := by omega
        have hil : i < L.length := by omega
        have hko10d := hko10.extN hd10
        refine hko10d.rk.whole jn hjl ?_
        refine hko10d.rk.whole i hil ?_
        refine hko10d.set i hil (L[jn]) fun w11 hko11 he11 => ?_
        have hil2 : jn < (L.set i L[jn]).length := by rw [List.length_set]; exact hjl
        refine hko11.set jn hil2 (L[i]) fun w12 hko12 he12 => ?_
        refine xi (r := ((i + 1 : Nat) : Int)) (by rw [wrapI (by omega)]; omega) ?_
        refine xi (r := ((jn : Nat) : Int) - 1) (wrapI (by omega)) ?_
        have h411 : Ext No w4 w11 := Ext.own (he410.transN hd10) hko10d.choose_spec.1 (Nat.le_refl _) he11
        have h412 : Ext No w4 w12 := Ext.own h411 hko11.choose_spec.1 (Nat.le_refl _) he12
        exact xnext (L0.length - (i + 1)) (by omega) ⟨i + 1, _, _, rfl, rfl, by omega, by omega, hT.step (by omega) (by omega), hko12, h412⟩
      · have hS10 := hS4.ext he410 fun h => h
        have hct10 := hct.extN he410
        have hLs : ∀ p ∈ L, p.2 ≠ .nil := fun p hp => hL0s p (hT.mem p hp)
        have hkd : (T.node a ow part v0 ks kids).kind ≠ 1 := by
          show kindV ks (ptrs kids) ≠ 1
          unfold kindV
          rw [if_neg hks]
          unfold kindN
          repeat' split
          all_goals omega
        refine xj (fun vs w' => ∃ y z : Value, vs = [y, z, .bool false] ∧ Ext No w10 w') ?_ ?_
        · refine xLen_sl hko10.choose_spec.1.sl ?_
          refine xifD (fun h1 => ?_) fun h1 => ⟨_, _, rfl, Ext.refl _ _⟩
          have hnu : ¬ UpK L := hT.not_up (by omega) (by omega) hL0u
          refine hS10.ld (o := 0) (v := .bool val.isSome) rfl ?_
          refine hS10.ld (o := 1) (v := u64 x) rfl ?_
          refine (c_LeftNo (o := 2) hct10.tree hko10.rk (by omega) fun h => ?_).mono ?_
          · rcases h with ⟨h1, -⟩ | ⟨h1, -⟩ | ⟨h1, -⟩ | ⟨h1, -⟩ | ⟨-, -, -, -, -, h3⟩
            · omega
            · omega
            · omega
            · omega
            · exact hnu h3
          rintro _ w11 ⟨e, rfl, hwhy, he11⟩
          have he12 : e = 12 := by
            rcases hwhy with ⟨-, h | ⟨p, hp, h⟩⟩ | ⟨-, -, -, h2⟩ | ⟨-, -, -, -, h3⟩ | ⟨h, -⟩ | ⟨-, -, -, -, -, h3⟩
            · omega
            · exact absurd h (hLs p hp)
            · cases h2
            · exact absurd h3 hkd
            · exact h
            · exact absurd h3 hnu
          subst he12
          refine xj (fun vs w' => vs = [.bool false] ∧ w11 = w') ?_ ?_
          · refine xpne_self T.nil ?_
            refine xifF rfl ?_
            exact ⟨rfl, rfl⟩
          rintro vs g w12 ⟨rfl, rfl⟩
          exact xifF rfl ⟨_, _, rfl, he11⟩
        rintro vs g w11 ⟨y, z, rfl, he11⟩
        have he411 := he410.transN he11
        have hS11 := hS10.ext he11 fun h => h
        have hct11 := hct.extN he411
        have hko11 := hko10.extN he11
        refine hS11.ld (o := 0) (v := .bool val.isSome) rfl ?_
        refine hS11.ld (o := 1) (v := u64 x) rfl ?_
        refine (c_LeftNo (l := []) (o := 0) hct11.tree RK.nil (by simp) fun h => ?_).mono ?_
        · rcases h with ⟨h1, -⟩ | ⟨h1, -⟩ | ⟨h1, -⟩ | ⟨h1, -⟩ | ⟨-, h2, -⟩
          · omega
          · omega
          · omega
          · omega
          · exact h2 rfl
        rintro _ w12 ⟨e, rfl, hwhy, he12⟩
        have he1 : e = 1 := by
          rcases hwhy with ⟨h, -⟩ | ⟨-, h, -⟩ | ⟨-, h, -⟩ | ⟨-, h, -⟩ | ⟨-, h, -⟩
          · exact h
          · exact absurd rfl h
          · exact absurd rfl h
          · exact absurd rfl h
          · exact absurd rfl h
        subst he1
        have hd12 := Ext.drew (Ext.refl No w12)
        have he412 := (he411.transN he12).transN hd12
        have hS12 := (hS11.ext he12 fun h => h).drew
        have hko12 := (hko11.extN he12).extN hd12
        refine hS12.ld (o := 0) (v := .bool val.isSome) rfl ?_
        refine hS12.ld (o := 1) (v := u64 x) rfl ?_
        show XNew w12.drew [bv 0, T.nil.v] T_del_Kid _
        refine xnew fun kb w13 hkb hkblk hz13 he13 => ?_
        have hS13 := hS12.ext he13 fun h => h
        refine ⟨xkeepS hS13 rfl, xkeepS hS13 rfl, ?_⟩
        have he413 := he412.transN he13
        refine KO.app (hko12.extN he13) he413.size (by omega) (c := 0) (t := T.nil) hkblk fun v3 w14 hko14 hex14 hblk14 => ?_
        have he414 := hex14 w4 he413 (Nat.le_refl _)
        have hS14 := hblk14 _ _ _ hS13 (by decide)
        refine ⟨xkeepS hS14 rfl, xkeepS hS14 rfl, ?_⟩
        have hwn : ∀ e, Why (T.node a ow part v0 ks kids) (L ++ [(0, T.nil)]) 2 e → e = 1 := fun e h => by
          have hb : ¬ ∀ p ∈ L ++ [((0 : UInt8), T.nil)], p.2 ≠ .nil := fun h => h (0, .nil) (by simp) rfl
          rcases h with ⟨h, -⟩ | ⟨-, -, h, -⟩ | ⟨-, -, h, -⟩ | ⟨-, -, h, -⟩ | ⟨-, -, h, -⟩
          · exact h
          · exact absurd h hb
          · exact absurd h hb
          · exact absurd h hb
          · exact absurd h hb
        refine (c_LeftNo (o := 2) (hct.extN he414).tree hko14.rk (by simp; omega) fun h => by have := hwn 0 h; omega).mono ?_
        rintro _ w15 ⟨e, rfl, hwhy, he15⟩
        obtain rfl := hwn e hwhy
        have hE15 := hE4.transN (he414.transN he15)
        refine xj (fun vs w' => vs = [.bool true] ∧ Ext No w w') ?_ ?_
        · refine xpeq_self T.nil ?_
          refine xifT rfl ?_
          refine xifT rfl ?_
          refine xpeq_self T.nil ?_
          refine xifT rfl ?_
          refine xifT rfl ?_
          refine (c_alive (hw.extN hE15)).mono ?_
          rintro _ w16 ⟨rfl, he16⟩
          exact ⟨rfl, hE15.transN he16⟩
        · rintro vs g w16 ⟨rfl, he⟩
          exact ⟨rfl, he⟩
end
end law16
end Go.Proofs.YthnegkjhciakpaaGreatDoor
