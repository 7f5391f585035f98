/-  law16: del: the helpers, DelIs.  -/
import Derived.Test.YtbneecjeifionaaGreatDoorC16
import Derived.Test.YtbneecjeifionaaGreatDoorL15
import Derived.Test.YtbneecjeifionaaGreatDoorDel
import Derived.Test.YtbneecjeifionaaGreatDoorRefK
namespace Go.Proofs.YtbneecjeifionaaGreatDoor
open Go Go.RowKit X
set_option linter.unusedSimpArgs false
set_option linter.unusedVariables false
set_option linter.unusedSectionVars false
/-- pairs without a key -/
def dropK (k : Key) (l : Kv) : Kv := l.filter fun p => !decide (p.1 = k)
theorem look_drop (k : Key) (l : Kv) (k' : Key) : look (dropK k l) k' = if k' = k then none else look l k' := by
  unfold dropK
  induction l with
  | nil => rw [List.filter_nil]; split <;> rfl
  | cons p r ih =>
    rw [List.filter_cons]
    by_cases h : p.1 = k
    · rw [if_neg (by simp [h]), ih]
      split
      · rfl
      · rename_i hk
        show look r k' = if p.1 = k' then some p.2 else look r k'
        rw [if_neg fun e => hk (by rw [← e, h])]
    · rw [if_pos (by simp [h])]
      show (if p.1 = k' then some p.2 else look (r.filter fun p => !decide (p.1 = k)) k') = _
      rw [ih]
      by_cases e : p.1 = k'
      · rw [if_pos e, if_neg fun e' => h (e.trans e')]
        show _ = if p.1 = k' then some p.2 else look r k'
        rw [if_pos e]
      · rw [if_neg e]
        split
        · rfl
        · show _ = if p.1 = k' then some p.2 else look r k'
          rw [if_neg e]
theorem dropK_take {k : Key} {l : Kv} {i : Nat} (h : i < l.length) : dropK k (l.take (i + 1)) = dropK k (l.take i) ++ (if l[i].1 = k then [] else [l[i]]) := by
  rw [← List.take_append_getElem h]
  unfold dropK
  rw [List.filter_append]
  congr 1
  by_cases e : l[i].1 = k
  · rw [if_pos e]; simp [e]
  · rw [if_neg e]; simp [e]
theorem dropK_length (k : Key) (l : Kv) : (dropK k l).length ≤ l.length := List.length_filter_le _ _
/-- a key is among the pairs -/
def hasK (k : Key) (l : Kv) : Bool := l.any fun p => decide (p.1 = k)
theorem hasK_take {k : Key} {l : Kv} {i : Nat} (h : i < l.length) : hasK k (l.take (i + 1)) = (hasK k (l.take i) || decide (l[i].1 = k)) := by
  unfold hasK
  rw [← List.take_append_getElem h, List.any_append]
  simp only [List.any_cons, List.any_nil, Bool.or_false]
theorem hasK_look {k : Key} {l : Kv} : hasK k l = (look l k).isSome := by
  rw [Bool.eq_iff_iff]
  constructor
  · intro h
    obtain ⟨p, hp, e⟩ := List.any_eq_true.1 h
    cases hl : look l k with
    | none => exact absurd (of_decide_eq_true e) (look_none.1 hl p hp)
    | some v => rfl
  · intro h
    obtain ⟨v, hv⟩ := Option.isSome_iff_exists.1 h
    exact List.any_eq_true.2 ⟨_, look_mem hv, decide_eq_true rfl⟩
variable [Floor]
theorem Pr.drop {l : Kv} (h : Pr l) (k : Key) : Pr (dropK k l) := ⟨List.Pairwise.filter _ h.rises, fun p hp => h.keys p (List.mem_filter.1 hp).1, Nat.le_trans (dropK_length k l) h.many⟩
theorem Ct.del {w w' : World} {t t' : T} {l : Kv} {o n n' : Nat} {mt : Option Nat} {k : Key} (h : Ct w t l) (hP : DelR w w' o t t' mt n n' (delE t.er k)) : Ct w' t' (dropK k l) :=
  ⟨hP.res.tree, by rw [hP.er]; exact (h.can.del k).congr fun k' => (look_drop k l k').symm, hP.leafy h.leafy⟩
theorem Ps.new16 {w : World} {b : Nat} {l : Kv} {cells : List Value} (h : Blk w b cells T_ref01_Pair) (hp : PC w l cells) : Ps w (.slice (some ⟨b, 0, none⟩) l.length l.length) l :=
  ⟨T_ref01_Pair, cells, .inr rfl, (h.sln hp.len).weak fun _ _ h => .inl h, hp⟩
section
variable {w : World} {v vk : Value} {l : Kv} {k : Key}
theorem c_r16Del (h : Ps w v l) (hk : Bs w vk k) (hl : l.length ≤ 100000) (hks : ∀ x ∈ l, x.1.length ≤ 65535) : Ret P n_ref16_Del [v, vk] w fun r w' => ∃ out, r = .tuple #[out, .bool (hasK k l)] ∧ SO w w' T_ref01_Pair out (dropK k l) ∧ Ext No w w' := by
  refine W_ref16_Del ?_
  refine xloop (fun n vs w' => ∃ (i : Nat) (out : Value), vs = [.int .i64 i, .bool (hasK k (l.take i)), out] ∧ n = l.length - i ∧ i ≤ l.length ∧ SO w w' T_ref01_Pair out (dropK k (l.take i)) ∧ Ext No w w') l.length ⟨0, _, rfl, rfl, by omega, SO.nil _ _ _, Ext.refl _ _⟩ ?_
  rintro n vs g w1 ⟨i, out, rfl, rfl, hi, hso, he⟩
  unfold S_ref16_Del_l1
  refine h.len ?_
  refine xifD (fun hlt => ?_) fun hge => ?_
  · have hil : i < l.length := by omega
    refine xj (fun vs w' => ∃ out', vs = [.bool (hasK k (l.take (i + 1))), out'] ∧ SO w w' T_ref01_Pair out' (dropK k (l.take (i + 1))) ∧ Ext No w w') ?_ ?_
    · rw [dropK_take hil, hasK_take hil]
      refine (h.extN he).key i rfl hil fun kv hkv => ?_
      refine (c_rSame hkv (hk.extN he) (by have := hks _ (List.getElem_mem hil); omega)).mono ?_
      rintro r w2 ⟨rfl, he2⟩
      refine xifD (fun hb => ?_) fun hb => ?_
      · rw [if_pos hb, List.append_nil, decide_eq_true hb, Bool.or_true]
        exact ⟨_, rfl, hso.extN he2, he.transN he2⟩
      · rw [if_neg hb, decide_eq_false hb, Bool.or_false]
        refine h.rd0 (he.transN he2) i rfl hil fun kv hkv => ?_
        show XNew w2 [kv, u64 l[i].2] T_ref01_Pair _
        refine xnew fun a w3 ha hbl hz he3 => ?_
        have hsl : Sl w3 (tyQ T_ref01_Pair) (.slice (some ⟨a, 0, none⟩) 1 1) 2 1 [kv, u64 l[i].2] := hbl.sln rfl
        have hle := dropK_length k (l.take i)
        refine SO.app (m := [l[i]]) ei_ref (hso.extN (he2.transN he3)) ((he.transN he2).transN he3) hsl (PC.sing hkv (h.get hil)) (by simp at hle ⊢; omega) fun out' w4 hso4 he4 _ _ => ⟨_, rfl, hso4, he4⟩
    · rintro vs g w2 ⟨out', rfl, hso2, he2⟩
      refine xi (r := ((i + 1 : Nat) : Int)) (by rw [wrapI (by omega)]; omega) ?_
      exact xnext (l.length - (i + 1)) (by omega) ⟨i + 1, _, rfl, rfl, by omega, hso2, he2⟩
  · have : i = l.length := by omega
    subst this
    rw [List.take_length] at hso ⊢
    exact ⟨_, rfl, hso, he⟩
end
namespace law16
abbrev l0 : Kv := [([1], 5), ([1, 2], 6)]
theorem l0_pr : Pr l0 := ⟨by decide +kernel, by intro p hp; simp at hp; rcases hp with rfl | rfl <;> simp, by simp⟩
section
variable {w : World}
theorem c_alive (hw : Lw w) : Ret P n_law16_alive [] w fun r w' => r = .bool true ∧ Ext No w w' := by
  refine W_law16_alive ?_
  show XNew w ([1].map bv) T_uint8 _
  refine xnew fun a1 w1 ha1 hb1 hz1 he1 => ?_
  show XNew w1 ([1, 2].map bv) T_uint8 _
  refine xnew fun a2 w2 ha2 hb2 hz2 he2 => ?_
  have k1 : Bs w2 (.slice (some ⟨a1, 0, none⟩) 1 1) [1] := (Bs.new (k := [1]) hb1).extN he2
  have k2 : Bs w2 (.slice (some ⟨a2, 0, none⟩) 2 2) [1, 2] := Bs.new (k := [1, 2]) hb2
  show XNew w2 ([.slice (some ⟨a1, 0, none⟩) 1 1, u64 5] ++ [.slice (some ⟨a2, 0, none⟩) 2 2, u64 6]) T_ref01_Pair _
  refine xnew fun a3 w3 ha3 hb3 hz3 he3 => ?_
  have hE3 := (he1.transN he2).transN he3
  have hps : Ps w3 (.slice (some ⟨a3, 0, none⟩) 2 2) l0 := Ps.new16 (l := l0) hb3 (((PC.sing k1 (by omega)).app (PC.sing k2 (by omega))).extN he3)
  have hw3 := hw.extN hE3
  refine (c_tree hps l0_pr hw3 (ow := 1) (by omega)).mono ?_
  rintro r w4 ⟨t, rfl, hct, -, how, -, he4⟩
  have hw4 := hw3.extN he4
  show XNew w4 ([1].map bv) T_uint8 _
  refine xnew fun a4 w5 ha4 hb4 hz4 he5 => ?_
  have hct5 := hct.extN he5
  have hw5 := hw4.extN he5
  have hfree : t.Free 2 := (how.q.mono fun o h => by omega).free
  refine (c_Del (o := 2) (n := 0) (mt := none) hct5.tree hfree.sep hct.can.fine hct.leafy (hct.long l0_pr) hw5.mt0 (by omega) (Bs.new (k := [1]) hb4) (by simp)).mono ?_
  rintro _ w6 ⟨t', n', rfl, hD, -, -, -⟩
  have he6 : Ext No w5 w6 := hD.res.ext.mono fun b _ hb => by rcases hb with hb | hb; cases hb; exact (hfree.foot b hb).elim
  have hct6 := hct5.del hD
  have e1 : dropK [1] l0 = [([1, 2], 6)] := by decide +kernel
  rw [e1] at hct6
  have hget : t.get [1] = some 5 := (hct.can.get [1]).trans (by decide +kernel)
  have r3 : Rises [(([1, 2] : Key), 6)] := by decide +kernel
  have s3 : t'.er.shape = [76, 48, 49, 48, 50, 61, 54] := by rw [hct6.can.closed r3]; decide +kernel
  have hw6 := hw5.extN he6
  have hE6 := ((hE3.transN he4).transN he5).transN he6
  rw [hget]
  refine xj (fun vs w' => vs = [.bool true] ∧ Ext No w w') ?_ ?_
  · refine (c_Shape hw6.tab hct6.tree hct6.leafy (by rw [s3]; simp)).mono ?_
    rintro r w7 ⟨rfl, he7⟩
    rw [s3]
    refine xseq ?_
    refine xifT (decide_eq_true rfl) ?_
    refine xifT rfl ?_
    exact ⟨rfl, hE6.transN he7⟩
  · rintro vs g w7 ⟨rfl, he⟩
    exact ⟨rfl, he⟩
variable {v vk : Value} {l : Kv} {k : Key}
theorem l_DelIs (hw : Lw w) (hl : Ps w v l) (hk : Bs w vk k) {o : Nat} (ho : o < 18446744073709551616) : Ret P n_law16_DelIs [v, vk, .int .u64 o] w fun r w' => r = .bool true ∧ Ext No w w' := by
  refine W_law16_DelIs ?_
  refine xj (fun vs w' => ∃ b, vs = [.bool b] ∧ Ext No w w' ∧ (b = false → (l.length ≤ 200 ∧ ∀ x ∈ l, x.1.length ≤ 300) ∧ (k.length ≤ 600 ∨ 65535 < k.length))) ?_ ?_
  · refine (c_far (m := 200) hl (by omega)).mono ?_
    rintro r w1 ⟨b, rfl, he, hb⟩
    cases b with
    | false =>
      refine xifF rfl ?_
      refine hk.len ?_
      refine xifD (fun h6 => ?_) fun h6 => ?_
      · refine hk.len ?_
        refine xifD (fun h7 => ⟨true, rfl, he, fun h => by cases h⟩) fun h7 => ?_
        refine hk.len ?_
        exact ⟨_, rfl, he, fun _ => ⟨hb rfl, .inr (by omega)⟩⟩
      · refine hk.len ?_
        exact ⟨_, rfl, he, fun _ => ⟨hb rfl, .inl (by omega)⟩⟩
    | true => exact xifT rfl ⟨true, rfl, he, fun h => by cases h⟩
  rintro vs g w1 ⟨b, rfl, he1, hb⟩
  have hw1 := hw.extN he1
  cases b with
  | true =>
    refine xifT rfl ?_
    refine (c_alive hw1).mono ?_
    rintro r w2 ⟨rfl, he2⟩
    exact ⟨rfl, he1.transN he2⟩
  | false =>
    refine xifF rfl ?_
    obtain ⟨⟨hl200, hk300⟩, hkk⟩ := hb rfl
    have hpr : Pr (sortK l) := Pr.sort (by omega) fun p h => by have := hk300 p h; omega
    refine (c_rSort (hl.extN he1) (by omega) (fun p h => by have := hk300 p h; omega)).mono ?_
    rintro vl w2 ⟨hso, he2⟩
    have hps := hso.ps he2 (.inr rfl)
    have hw2 := hw1.extN he2
    generalize sortK l = m at hpr hso hps
    refine (c_tree hps hpr hw2 (ow := 1) (by omega)).mono ?_
    rintro r w3 ⟨t, rfl, hct, -, how, -, he3⟩
    have hw3 := hw2.extN he3
    have hE3 := (he1.transN he2).transN he3
    have hps3 := hps.extN he3
    have hk3 := hk.extN hE3
    refine xj (fun vs w' => ∃ o' : Nat, vs = [.int .u64 o'] ∧ w3 = w' ∧ o' ≠ 1) ?_ ?_
    · exact xifE (fun h => ⟨2, rfl, rfl, by omega⟩) fun h => ⟨o, rfl, rfl, by omega⟩
    rintro vs g w4 ⟨o', rfl, rfl, ho'⟩
    by_cases ho0 : o' = 0
    · subst ho0
      refine c_Del0.mono ?_
      rintro r w5 ⟨rfl, rfl⟩
      refine xifT rfl ?_
      refine xj (fun vs w' => vs = [.bool true] ∧ Ext No w w') ?_ ?_
      · refine xifT rfl ?_
        refine xifT rfl ?_
        refine xifT rfl ?_
        refine (c_alive hw3).mono ?_
        rintro r w7 ⟨rfl, he7⟩
        exact ⟨rfl, hE3.transN he7⟩
      · rintro vs g w5 ⟨rfl, he⟩
        exact ⟨rfl, he⟩
    by_cases hbig : 65535 < k.length
    · refine (c_DelBig ho0 hk3 hbig).mono ?_
      rintro r w5 ⟨rfl, rfl⟩
      refine xifF (by simp; omega) ?_
      refine hk.len ?_
      refine xifT (by simp; omega) ?_
      refine xj (fun vs w' => vs = [.bool true] ∧ Ext No w w') ?_ ?_
      · refine xifT rfl ?_
        refine xifT rfl ?_
        refine xifT rfl ?_
        refine (c_as hw3 hct hps3 hpr).mono ?_
        rintro r w6 ⟨rfl, he6⟩
        refine xifT rfl ?_
        refine (c_alive (hw3.extN he6)).mono ?_
        rintro r w7 ⟨rfl, he7⟩
        exact ⟨rfl, (hE3.transN he6).transN he7⟩
      · rintro vs g w5 ⟨rfl, he⟩
        exact ⟨rfl, he⟩
    · have hfree : t.Free o' := (how.q.mono fun o h => by rw [h]; exact ho'.symm).free
      refine (c_Del (mt := none) (n := 0) hct.tree hfree.sep hct.can.fine hct.leafy (hct.long hpr) hw3.mt0 ho0 hk3 (by omega)).mono ?_
      rintro _ w5 ⟨t', n', rfl, hD, -, -, -⟩
      have he5 : Ext No w3 w5 := hD.res.ext.mono fun b _ hb => by rcases hb with hb | hb; cases hb; exact (hfree.foot b hb).elim
      have hw5 := hw3.extN he5
      have hct5 := hct.extN he5
      have hct' := hct.del hD
      have hE5 := hE3.transN he5
      have hgk : t.get k = look m k := hct.can.get k
      refine xifF (by simp; omega) ?_
      refine hk.len ?_
      refine xifF (by simp; omega) ?_
      refine (c_r16Del (hps3.extN he5) (hk3.extN he5) hpr.many hpr.keys).mono ?_
      rintro _ w6 ⟨out, rfl, hso6, he6⟩
      refine xj (fun vs w' => vs = [.bool true] ∧ Ext No w w') ?_ ?_
      · refine xifT rfl ?_
        refine xifT (by rw [hasK_look, hgk]; simp) ?_
        refine (c_as (hw5.extN he6) (hct'.extN he6) (hso6.ps he6 (.inr rfl)) (hpr.drop k)).mono ?_
        rintro r w7 ⟨rfl, he7⟩
        refine xifT rfl ?_
        have he67 := he6.transN he7
        refine (c_as (hw5.extN he67) (hct5.extN he67) ((hps3.extN he5).extN he67) hpr).mono ?_
        rintro r w8 ⟨rfl, he8⟩
        refine xifT rfl ?_
        refine (c_alive ((hw5.extN he67).extN he8)).mono ?_
        rintro r w9 ⟨rfl, he9⟩
        exact ⟨rfl, ((hE5.transN he67).transN he8).transN he9⟩
      · rintro vs g w6 ⟨rfl, he⟩
        exact ⟨rfl, he⟩
end
end law16
end Go.Proofs.YtbneecjeifionaaGreatDoor
