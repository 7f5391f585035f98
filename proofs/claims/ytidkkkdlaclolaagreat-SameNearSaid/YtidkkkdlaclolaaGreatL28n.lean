/-  law28: SameNear.  -/
import Derived.Test.YtidkkkdlaclolaaGreatL28z
import Derived.Test.YtidkkkdlaclolaaGreatRefK
namespace Go.Proofs.YtidkkkdlaclolaaGreat
open Go Go.RowKit X
set_option linter.unusedSimpArgs false
set_option linter.unusedVariables false
set_option linter.unusedSectionVars false
theorem walk2_none {f : UInt8 → Bool × Nat} : ∀ {l m : List UInt8}, (∀ d ∈ l, (f d).2 = 0) → (walk2 f l m).2 = 0 := by
  intro l
  induction l with
  | nil => intro m _; cases m <;> rfl
  | cons c r ih =>
    intro m h
    cases m with
    | nil => rfl
    | cons d s =>
      rw [walk2]
      have h1 := h c List.mem_cons_self
      have h2 := ih (m := s) fun d hd => h d (List.mem_cons_of_mem _ hd)
      split
      · split
        · show (f c).2 + (walk2 f r s).2 = 0; omega
        · exact h1
      · rfl
theorem walk2_one {f : UInt8 → Bool × Nat} {c : UInt8} : ∀ {l m : List UInt8}, l.Nodup → (∀ d, d ≠ c → (f d).2 = 0) → (walk2 f l m).2 ≤ (f c).2 := by
  intro l
  induction l with
  | nil => intro m _ _; cases m <;> exact Nat.zero_le _
  | cons x r ih =>
    intro m hn h
    obtain ⟨h1, h2⟩ := List.nodup_cons.1 hn
    cases m with
    | nil => exact Nat.zero_le _
    | cons d s =>
      rw [walk2]
      by_cases e : x = c
      · subst e
        have h3 : (walk2 f r s).2 = 0 := walk2_none fun d hd => h d fun e => h1 (e ▸ hd)
        split
        · split
          · show (f x).2 + (walk2 f r s).2 ≤ _; omega
          · exact Nat.le_refl _
        · exact Nat.zero_le _
      · have h3 := h x e
        have h4 := ih (m := s) h2 h
        split
        · split
          · show (f x).2 + (walk2 f r s).2 ≤ _; omega
          · show (f x).2 ≤ _; omega
        · exact Nat.zero_le _
variable [Floor]
namespace law28
theorem steps_kid {a ow : Nat} {part : Key} {val : Option Nat} {ks : List Nat} {kids : UInt8 → T} {d : UInt8} {r : Key} : (T.node a ow part val ks kids).steps (part ++ d :: r) = (kids d).steps r + 1 := by
  rw [T.steps_node, if_pos (List.prefix_append _ _), List.drop_left]
/-- what an operation by a key made of a tree is looked into no more often than the key's way is long -/
theorem look_near : ∀ {t t' : T} {k : Key}, t.Sh t' k → (lookT t t').2 ≤ t.steps k ∧ (lookT t' t).2 ≤ t.steps k := by
  intro t
  induction t with
  | nil =>
    intro t' k _
    refine ⟨Nat.zero_le _, ?_⟩
    cases t' <;> exact Nat.zero_le _
  | node a ow part val ks kids ih =>
    intro t' k hsh
    cases t' with
    | nil => exact ⟨Nat.zero_le _, Nat.zero_le _⟩
    | node a' ow' part' val' ks' kids' =>
      have hpos := steps_pos (a := a) (ow := ow) (part := part) (val := val) (ks := ks) (kids := kids) (k := k)
      by_cases e : a = a'
      · subst e
        rw [lookT, lookT, if_pos rfl, if_pos rfl]
        exact ⟨Nat.zero_le _, Nat.zero_le _⟩
      · have hsh : ∀ a'' ow'' val'' ks'' kids'', T.node a' ow' part' val' ks' kids' = .node a'' ow'' part val'' ks'' kids'' → cnt (ptrs kids'') = cnt (ptrs kids) → (∀ d, (∀ r, k ≠ part ++ d :: r) → kids'' d = kids d) ∧ ∀ d r, k = part ++ d :: r → T.Sh (kids d) (kids'' d) r := by
          rcases hsh with h | h
          · exfalso
            have h : (some ⟨a', 0, none⟩ : Option Addr) = some ⟨a, 0, none⟩ := h
            injection h with h
            injection h with h
            exact e h.symm
          · exact h
        have e' : ¬ a' = a := fun h => e h.symm
        rw [lookT, lookT, if_neg e, if_neg e']
        by_cases hal : cnt (ptrs kids) = cnt (ptrs kids') ∧ part = part' ∧ val = val'
        · obtain ⟨hc, rfl, rfl⟩ := hal
          obtain ⟨h1, h2⟩ := hsh _ _ _ _ _ rfl hc.symm
          rw [if_pos ⟨hc, rfl, rfl⟩, if_pos ⟨hc.symm, rfl, rfl⟩]
          have n1 : (dom (ptrs kids)).Nodup := (dom_rise _).nodup
          have n2 : (dom (ptrs kids')).Nodup := (dom_rise _).nodup
          by_cases hway : ∃ d r, k = part ++ d :: r
          · obtain ⟨d, r, rfl⟩ := hway
            have hsame : ∀ x, x ≠ d → kids' x = kids x := fun x hx => h1 x fun r' e => hx (key_cons e).1.symm
            obtain ⟨i1, i2⟩ := ih d (h2 d r rfl)
            have b1 := walk2_one (f := fun c => lookT (kids c) (kids' c)) (c := d) (m := dom (ptrs kids')) n1 fun x hx => by show (lookT (kids x) (kids' x)).2 = 0; rw [hsame x hx, look_self]
            have b2 := walk2_one (f := fun c => lookT (kids' c) (kids c)) (c := d) (m := dom (ptrs kids)) n2 fun x hx => by show (lookT (kids' x) (kids x)).2 = 0; rw [hsame x hx, look_self]
            rw [steps_kid]
            constructor
            · show 1 + (walk2 (fun c => lookT (kids c) (kids' c)) (dom (ptrs kids)) (dom (ptrs kids'))).2 ≤ _
              have b1 : _ ≤ (lookT (kids d) (kids' d)).2 := b1
              omega
            · show 1 + (walk2 (fun c => lookT (kids' c) (kids c)) (dom (ptrs kids')) (dom (ptrs kids))).2 ≤ _
              have b2 : _ ≤ (lookT (kids' d) (kids d)).2 := b2
              omega
          · have hsame : ∀ x, kids' x = kids x := fun x => h1 x fun r' e => hway ⟨x, r', e⟩
            have b1 := walk2_none (f := fun c => lookT (kids c) (kids' c)) (l := dom (ptrs kids)) (m := dom (ptrs kids')) fun x _ => by show (lookT (kids x) (kids' x)).2 = 0; rw [hsame x, look_self]
            have b2 := walk2_none (f := fun c => lookT (kids' c) (kids c)) (l := dom (ptrs kids')) (m := dom (ptrs kids)) fun x _ => by show (lookT (kids' x) (kids x)).2 = 0; rw [hsame x, look_self]
            constructor
            · show 1 + (walk2 (fun c => lookT (kids c) (kids' c)) (dom (ptrs kids)) (dom (ptrs kids'))).2 ≤ _
              omega
            · show 1 + (walk2 (fun c => lookT (kids' c) (kids c)) (dom (ptrs kids')) (dom (ptrs kids))).2 ≤ _
              omega
        · rw [if_neg hal, if_neg fun h => hal ⟨h.1.symm, h.2.1.symm, h.2.2.symm⟩]
          exact ⟨hpos, hpos⟩
section
variable {w : World} {v kv : Value} {l : Kv} {k : Key} {x : Nat}
set_option maxRecDepth 100000 in
set_option maxHeartbeats 2000000 in
theorem l_SameNear (hw : Lw w) (hl : Ps w v l) (hk : Bs w kv k) (hx : x < 18446744073709551616) : Ret P n_law28_SameNear [v, .agg #[kv, u64 x]] w fun r w' => r = .bool true ∧ Ext No w w' := by
  refine W_law28_SameNear ?_
  obtain ⟨kad, kcap, rfl⟩ := hk.slice
  generalize hkv : Value.slice kad k.length kcap = kv at hk
  show XNew w [kv, u64 x] T_ref01_Pair _
  refine xnew fun pb w1 hpb hblk1 hz1 he1 => ?_
  have hblk1 : Blk w1 pb [kv, u64 x] T_ref01_Pair := hblk1
  have hw1 := hw.extN he1
  refine xj (fun vs w' => ∃ b, vs = [.bool b] ∧ Ext No w1 w' ∧ (b = false → (l.length ≤ 200 ∧ ∀ p ∈ l, p.1.length ≤ 300) ∧ k.length ≤ 600)) ?_ ?_
  · refine (c_far (m := 200) (hl.extN he1) (by omega)).mono ?_
    rintro r w2 ⟨b, rfl, he2, hb⟩
    cases b with
    | true => exact xifT rfl ⟨true, rfl, he2, fun h => by cases h⟩
    | false =>
      refine xifF rfl ?_
      refine (hblk1.ext he2 fun h => h).ld (o := 0) rfl ?_
      refine hk.len ?_
      exact ⟨_, rfl, he2, fun h => ⟨hb rfl, by have := of_decide_eq_false h; omega⟩⟩
  rintro vs g w2 ⟨b, rfl, he2, hb⟩
  have hw2 := hw1.extN he2
  have hE2 := he1.transN he2
  cases b with
  | true =>
    refine xifT rfl ?_
    refine (c_alive hw2).mono ?_
    rintro r w3 ⟨rfl, he3⟩
    exact ⟨rfl, hE2.transN he3⟩
  | false =>
  refine xifF rfl ?_
  obtain ⟨⟨l1, l3⟩, k6⟩ := hb rfl
  have hpl : Pr (sortK l) := Pr.sort (by omega) fun p h => by have := l3 p h; omega
  have hll := sortK_length l
  refine (c_rSort (hl.extN hE2) (by omega) (fun p hp => by have := l3 p hp; omega)).mono ?_
  rintro vl w3 ⟨hso3, he3⟩
  have hps3 := hso3.ps he3 (.inr rfl)
  generalize sortK l = L at hpl hll hps3
  have hw3 := hw2.extN he3
  refine (law28.c_tree (ow := 1) hps3 hpl hw3 (by omega)).mono ?_
  rintro _ w4 ⟨t, rfl, ht4, -, hown, -, he4⟩
  have he24 := he3.transN he4
  have hw4 := hw3.extN he4
  have hblk4 := (hblk1.ext he2 fun h => h).ext he24 fun h => h
  have hE4 := hE2.transN he24
  have hfree : t.Free 2 := (hown.q.mono fun o ho => by omega).free
  have hk4 := hk.extN hE4
  refine hblk4.ld (o := 0) rfl ?_
  refine hblk4.ld (o := 1) rfl ?_
  refine (c_Put (o := 2) (mt := none) (n := 0) ht4.tree hfree.sep ht4.can.fine ht4.leafy hw4.mt0 (by omega) hx hk4 (by omega)).mono ?_
  rintro _ w5 ⟨t1, n1, rfl, hP, -⟩
  have he5 : Ext No w4 w5 := hP.res.ext.mono fun b _ hb => hb.elim (fun h => by cases h) fun h => hfree.foot b h
  have ht5 := ht4.extN he5
  have hct1 := ht4.put hpl.rises hP
  have hw5 := hw4.extN he5
  have hblk5 := hblk4.ext he5 fun h => h
  refine hblk5.ld (o := 0) rfl ?_
  refine (c_DelS (o := 2) (mt := none) (n := 0) ht5.tree hfree.sep ht5.can.fine ht5.leafy (ht5.long hpl) hw5.mt0 (by omega) (hk4.extN he5) (by omega)).mono ?_
  rintro _ w6 ⟨t2, n2, rfl, hD, -, -, -, hsh2⟩
  have he6 : Ext No w5 w6 := hD.res.ext.mono fun b _ hb => hb.elim (fun h => by cases h) fun h => hfree.foot b h
  have ht6 := ht5.extN he6
  have hct1 := hct1.extN he6
  have hct2 := ht5.del hD
  have hw6 := hw5.extN he6
  have hblk6 := hblk5.ext he6 fun h => h
  have hk6 := (hk4.extN he5).extN he6
  refine hblk6.ld (o := 0) rfl ?_
  refine (c_Steps hw6.fl ht6.tree hk6 (by omega)).mono ?_
  rintro _ w7 ⟨rfl, he7⟩
  refine (hblk6.ext he7 fun h => h).ld (o := 0) rfl ?_
  refine (c_Get (hw6.extN he7).fl (ht6.extN he7).tree (hk6.extN he7) (by omega)).mono ?_
  rintro _ w8 ⟨rfl, he8⟩
  have he68 := he7.transN he8
  have ht := ht6.extN he68
  have hc1 := hct1.extN he68
  have hc2 := hct2.extN he68
  have hw8 := hw6.extN he68
  have hblk8 := hblk6.ext he68 fun h => h
  have hE8 : Ext No w w8 := ((hE4.transN he5).transN he6).transN he68
  have hs := ht.can.size hpl.rises
  have hs1 := hc1.can.size (insK_rises hpl.rises k x)
  have hi1 := insK_length L k x
  have hs2 := hc2.can.size (hpl.drop k).rises
  have hi2 := dropK_length k L
  have hgk : t.get k = look L k := ht.can.get k
  have e1 : (lookT t t1).1 = true ↔ t.get k = some x := by
    rw [look_true ht.tree hc1.tree, hP.er]
    constructor
    · intro h
      have h1 : (putE t.er k x).get k = some x := by rw [putE_get, if_pos rfl]
      rw [← h] at h1; exact h1
    · intro h
      exact E.unique ht.can.fine (putE_fine ht.can.fine) fun k' => by
        rw [putE_get]
        split
        · rename_i e; rw [e]; exact h
        · rfl
  have e2 : (lookT t t2).1 = true ↔ t.get k = none := by
    rw [look_true ht.tree hc2.tree, hD.er]
    constructor
    · intro h
      have h1 : (delE t.er k).get k = none := by rw [delE_get, if_pos rfl]
      rw [← h] at h1; exact h1
    · intro h
      exact E.unique ht.can.fine (delE_fine ht.can.fine) fun k' => by
        rw [delE_get]
        split
        · rename_i e; rw [e]; exact h
        · rfl
  have hb2 : ((lookT t t2).1 == (t.get k).isSome) = false := by
    cases hg : t.get k with
    | none => rw [e2.2 hg]; rfl
    | some y =>
      cases hq : (lookT t t2).1 with
      | true => have := e2.1 hq; rw [hg] at this; cases this
      | false => rfl
  refine xj (fun vs w' => vs = [.bool false] ∧ Ext No w8 w') ?_ ?_
  · refine (c_SameX hw8.fl ht.tree hc1.tree ht.leafy hc1.leafy (by omega)).mono ?_
    rintro _ w9 ⟨rfl, he9⟩
    have second : ∀ {w' : World}, Ext No w8 w' → Ret P n_same_Same [t.v, t2.v] w' fun v1046 w1047 => xBEq v1046 (.bool (t.get k).isSome) fun v1048 => ([v1048] : List Value) = [.bool false] ∧ Ext No w8 w1047 := fun {w'} e => by
      refine (c_SameX (hw8.extN e).fl (ht.extN e).tree (hc2.extN e).tree ht.leafy hc2.leafy (by omega)).mono ?_
      rintro _ w10 ⟨rfl, he10⟩
      exact ⟨by rw [hb2], e.transN he10⟩
    cases hg : t.get k with
    | none =>
      rw [hg] at second
      refine xifF rfl ?_
      have hq : (lookT t t1).1 = false := by
        cases hq : (lookT t t1).1 with
        | false => rfl
        | true => have := e1.1 hq; rw [hg] at this; cases this
      rw [hq]
      exact second he9
    | some y =>
      rw [hg] at second
      refine xifT rfl ?_
      refine (hblk8.ext he9 fun h => h).ld (o := 1) rfl ?_
      have hq : (lookT t t1).1 = ((y : Int) == (x : Int)) := by
        by_cases e : y = x
        · subst e
          rw [e1.2 hg]; simp
        · have h1 : ((y : Int) == (x : Int)) = false := beq_eq_false_iff_ne.2 (by omega)
          rw [h1]
          cases hq : (lookT t t1).1 with
          | false => rfl
          | true =>
            have := e1.1 hq
            rw [hg] at this
            exact absurd (Option.some.inj this) e
      show xBNe (.bool (lookT t t1).1) (.bool ((y : Int) == (x : Int))) _
      rw [hq]
      refine xifF (by simp) ?_
      exact second he9
  rintro vs g w9 ⟨rfl, he9⟩
  refine xifF rfl ?_
  obtain ⟨b1, b2⟩ := look_near hP.sh
  obtain ⟨b3, b4⟩ := look_near hsh2
  have ht9 := ht.extN he9
  have hc19 := hc1.extN he9
  have hc29 := hc2.extN he9
  have hw9 := hw8.extN he9
  refine xj (fun vs w' => vs = [.bool true] ∧ Ext No w9 w') ?_ ?_
  · refine xifT rfl ?_
    refine xifT rfl ?_
    refine (c_Looks hw9.fl ht9.tree hc19.tree ht.leafy hc1.leafy (by omega)).mono ?_
    rintro _ w10 ⟨rfl, he10⟩
    refine xifT (decide_eq_true (by omega)) ?_
    refine (c_Looks (hw9.extN he10).fl (ht9.extN he10).tree (hc29.extN he10).tree ht.leafy hc2.leafy (by omega)).mono ?_
    rintro _ w11 ⟨rfl, he11⟩
    refine xifT (decide_eq_true (by omega)) ?_
    have h911 := he10.transN he11
    refine (c_Looks (hw9.extN h911).fl (hc19.extN h911).tree (ht9.extN h911).tree hc1.leafy ht.leafy (by omega)).mono ?_
    rintro _ w12 ⟨rfl, he12⟩
    refine xifT (decide_eq_true (by omega)) ?_
    have h912 := h911.transN he12
    refine (c_Looks (hw9.extN h912).fl (hc29.extN h912).tree (ht9.extN h912).tree hc2.leafy ht.leafy (by omega)).mono ?_
    rintro _ w13 ⟨rfl, he13⟩
    refine xifT (decide_eq_true (by omega)) ?_
    have h913 := h912.transN he13
    refine (c_alive (hw9.extN h913)).mono ?_
    rintro _ w14 ⟨rfl, he14⟩
    exact ⟨rfl, h913.transN he14⟩
  · rintro vs g w10 ⟨rfl, he10⟩
    exact ⟨rfl, (hE8.transN he9).transN he10⟩
end
end law28
end Go.Proofs.YtidkkkdlaclolaaGreat
