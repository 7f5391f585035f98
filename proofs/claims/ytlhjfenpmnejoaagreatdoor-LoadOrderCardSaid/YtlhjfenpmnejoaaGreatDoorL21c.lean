/-  law21: LoadOrder.  -/
import Derived.Test.YtlhjfenpmnejoaaGreatDoorL21
import Derived.Test.YtlhjfenpmnejoaaGreatDoorOpen
namespace Go.Proofs.YtlhjfenpmnejoaaGreatDoor
open Go Go.RowKit X
set_option linter.unusedSimpArgs false
set_option linter.unusedVariables false
set_option linter.unusedSectionVars false
theorem look_nodup {l : Kv} (h : (l.map (·.1)).Nodup) {k : Key} {x : Nat} : look l k = some x ↔ (k, x) ∈ l := by
  refine ⟨look_mem, fun hm => ?_⟩
  induction l with
  | nil => cases hm
  | cons p r ih =>
    rw [List.map_cons, List.nodup_cons] at h
    rw [look]
    rcases List.mem_cons.1 hm with e | e
    · rw [← e, if_pos rfl]
    · rw [if_neg fun e2 => h.1 (by rw [e2]; exact List.mem_map.2 ⟨_, e, rfl⟩)]
      exact ih h.2 e
theorem lookL_nodup {l : Kv} (h : (l.map (·.1)).Nodup) {k : Key} {x : Nat} : lookL l k = some x ↔ (k, x) ∈ l := by
  unfold lookL
  rw [look_nodup (by rw [List.map_reverse]; exact List.pairwise_reverse.2 (h.imp fun h e => h e.symm)), List.mem_reverse]
theorem sortK_perm {l m : Kv} (h : (l.map (·.1)).Nodup) (hp : m.Perm l) : sortK m = sortK l := by
  have h2 : (m.map (·.1)).Nodup := (hp.map (·.1)).nodup_iff.2 h
  refine (sortK_rises m).ext (sortK_rises l) fun k => ?_
  rw [sortK_look, sortK_look]
  apply Option.ext
  intro x
  rw [lookL_nodup h, lookL_nodup h2]
  exact hp.mem_iff
/-- one is taken out, the last one takes its place -/
theorem swap_out {α : Type} {L : List α} {j : Nat} (hj : j < L.length) : (L[j] :: (L.set j L[L.length - 1]).take (L.length - 1)).Perm L := by
  obtain ⟨A, y, r, hL, hA⟩ : ∃ A y r, L = A ++ y :: r ∧ A.length = j := ⟨L.take j, L[j], L.drop (j + 1), by rw [← List.drop_eq_getElem_cons hj, List.take_append_drop], by rw [List.length_take]; omega⟩
  have h1 : L[j] = y := by
    have : L[j]? = some y := by rw [hL, ← hA]; simp
    rw [List.getElem?_eq_getElem hj] at this
    exact Option.some.inj this
  rw [h1]
  rcases List.eq_nil_or_concat r with hr | ⟨C, z, hr⟩
  · subst hr
    have e : (L.set j L[L.length - 1]).take (L.length - 1) = A := by
      generalize L[L.length - 1] = q
      subst hL
      subst hA
      simp
    rw [e, hL]
    exact List.perm_append_comm (l₁ := [y]) (l₂ := A)
  · have hr : r = C ++ [z] := by simpa using hr
    have h2 : L[L.length - 1] = z := by
      have : L[L.length - 1]? = some z := by
        rw [hL, hr, show A ++ y :: (C ++ [z]) = (A ++ y :: C) ++ [z] by simp]
        simp
      rw [List.getElem?_eq_getElem (by omega)] at this
      exact Option.some.inj this
    have e : (L.set j L[L.length - 1]).take (L.length - 1) = A ++ z :: C := by
      rw [h2, hL, hr, ← hA, List.set_append_right _ _ (Nat.le_refl _), Nat.sub_self, List.set_cons_zero, show A ++ z :: (C ++ [z]) = (A ++ z :: C) ++ [z] by simp]
      rw [show (A ++ y :: (C ++ [z])).length - 1 = (A ++ z :: C).length by simp, List.take_left']
      rfl
    rw [e, hL, hr]
    refine (List.Perm.cons y List.perm_middle).trans ?_
    refine List.Perm.trans ?_ List.perm_middle.symm
    refine List.Perm.cons y ?_
    rw [← List.append_assoc]
    exact List.perm_append_comm (l₁ := [z]) (l₂ := A ++ C)
theorem X.Own.cutN {P : Program} {w : World} {B : Nat} {e : TypeId} {v : Value} {n sz : Nat} {xs : List Value} {kd : IntKind} {i : Int} {K : Value → Prop} (h : Own w B e sz v n xs) (m : Nat) (hi : i = (m : Int)) (hm : m ≤ n) (k : ∀ v', Own w B e sz v' m (xs.take (m * sz)) → v'.ownBlock = v.ownBlock → K v') : xCutS sz v none (some (.int kd i)) none K := by
  obtain ⟨hl, hh⟩ := h
  have hle : m * sz ≤ n * sz := Nat.mul_le_mul_right sz hm
  rcases hh with ⟨rfl, rfl⟩ | ⟨g, cap, cur, rfl, hb, hg, hn, hc, hs, ht⟩
  · have : m = 0 := by omega
    subst this
    refine xcutH 0 hi (by omega) (k _ ⟨by simp, .inl ⟨rfl, rfl⟩⟩ rfl)
  · refine xcutH m hi (by omega) ?_
    have : cutAddr (some (⟨g, 0, none⟩ : Addr)) 0 cap sz = some ⟨g, 0, none⟩ := by
      unfold cutAddr
      split
      · rfl
      · simp [Addr.add_lit]
    rw [this]
    refine k _ ⟨by rw [List.length_take]; omega, .inr ⟨g, cap, cur, rfl, hb, hg, by omega, hc, hs, ?_⟩⟩ rfl
    rw [← ht, List.take_take, Nat.min_eq_left hle]
variable [Floor]
theorem sortK_len {l : Kv} (h : (l.map (·.1)).Nodup) : (sortK l).length = l.length := by
  have key : ∀ i, i ≤ l.length → (sortK (l.take i)).length = i := by
    intro i
    induction i with
    | zero => intro _; rfl
    | succ i ih =>
      intro hi
      have hil : i < l.length := hi
      rw [sortK_take hil, insK_len (sortK_rises _), ih (by omega), sortK_look]
      have : lookL (l.take i) l[i].1 = none := by
        cases hq : lookL (l.take i) l[i].1 with
        | none => rfl
        | some x =>
          exfalso
          have h1 : (l[i].1, x) ∈ l.take i := List.mem_reverse.1 (look_mem hq)
          rw [← List.take_append_drop i l, List.map_append, List.nodup_append] at h
          refine h.2.2 l[i].1 (List.mem_map.2 ⟨_, h1, rfl⟩) l[i].1 (List.mem_map.2 ⟨l[i], ?_, rfl⟩) rfl
          rw [List.drop_eq_getElem_cons hil]
          exact List.mem_cons_self
      rw [this]; simp
  have := key l.length (Nat.le_refl _)
  rwa [List.take_length] at this
theorem SO.cut {w0 w : World} {T : TypeId} {v : Value} {l : Kv} {K : Value → Prop} {kd : IntKind} {i : Int} (h : SO w0 w T v l) (m : Nat) (hi : i = (m : Int)) (hm : m ≤ l.length) (k : ∀ v', SO w0 w T v' (l.take m) → v'.ownBlock = v.ownBlock → K v') : xCutS 2 v none (some (.int kd i)) none K := by
  obtain ⟨cells, h1, h2⟩ := h
  refine X.Own.cutN (P := P) h1 m hi hm fun v' h3 h4 => k v' ⟨_, ?_, h2.take m⟩ h4
  rw [List.length_take, Nat.min_eq_left hm]; exact h3
namespace law21
section
variable {w : World} {v vo : Value} {l : Kv} {ns : List Nat}
set_option maxRecDepth 100000 in
set_option maxHeartbeats 2000000 in
theorem l_LoadOrder (hw : Lw w) (hl : Ps w v l) (ho : Us w .u16 vo ns) (hns : ∀ n ∈ ns, n < 65536) : Ret P n_law21_LoadOrder [v, vo] w fun r w' => r = .bool true ∧ Ext No w w' := by
  refine W_law21_LoadOrder ?_
  refine (c_far (m := 80) hl (by omega)).mono ?_
  rintro r w1 ⟨q, rfl, he1, hq⟩
  have hw1 := hw.extN he1
  cases q with
  | true =>
    refine xifT rfl ?_
    refine (c_alive hw1).mono ?_
    rintro r w2 ⟨rfl, he2⟩
    exact ⟨rfl, he1.transN he2⟩
  | false =>
  refine xifF rfl ?_
  obtain ⟨hl1, hl3⟩ := hq rfl
  have hl1' := hl.extN he1
  have ho1 := ho.extN he1
  refine hl.len ?_
  refine xloop (fun n vs w' => ∃ (i : Nat) (x y va : Value) (A : Kv), vs = [.int .i64 i, x, y, va] ∧ n = l.length - i ∧ i ≤ l.length ∧ SO w1 w' T_api_Pair va A ∧ A.length ≤ i ∧ (A.map (·.1)).Nodup ∧ (∀ p ∈ A, p ∈ l.take i) ∧ Ext No w1 w') l.length
    ⟨0, _, _, _, [], rfl, rfl, by omega, SO.nil _ _ _, by simp, by simp, by simp, Ext.refl _ _⟩ ?_
  rintro nn vs g w2 ⟨i, x, y, va, A, rfl, rfl, hi, hA, hAl, hAn, hAm, he2⟩
  unfold S_law21_LoadOrder_l3
  refine xifD (fun hlt => ?_) fun hge => ?_
  · have hil : i < l.length := by omega
    refine xj (fun vs w' => ∃ (x y va : Value) (A : Kv), vs = [x, y, va] ∧ x = .int .i64 i ∧ SO w1 w' T_api_Pair va A ∧ A.length ≤ i + 1 ∧ (A.map (·.1)).Nodup ∧ (∀ p ∈ A, p ∈ l.take (i + 1)) ∧ Ext No w1 w') ?_ ?_
    · refine hl1'.rd0 he2 i rfl hil fun kv hkv => ?_
      refine xnew fun b w3 hb hblk hz3 he3 => ?_
      refine xstoreVar hblk (by kernel_rfl) (by simp) ?_ fun w4 hb4 hz4 he4 => ?_
      · intro u hu
        simp only [List.mem_cons, List.mem_nil_iff, or_false] at hu
        rcases hu with rfl | rfl
        · exact hkv.one1
        · rfl
      have hb4 : Blk w4 b [kv, u64 l[i].2] T_ref01_Pair := by simpa using hb4
      have hE24 : Ext No w2 w4 := he3.trans1 he4 (by omega)
      have hE14 := he2.transN hE24
      refine (hl1'.extN hE14).take i rfl (by omega) fun vc hvc => ?_
      refine hvc.len ?_
      refine xloop (fun n vs w' => ∃ (q : Nat) (f : Bool), vs = [.int .i64 q, .bool f] ∧ n = (l.take i).length - q ∧ q ≤ (l.take i).length ∧ (f = true ↔ ∀ p ∈ (l.take i).take q, p.1 ≠ l[i].1) ∧ Ext No w4 w') (l.take i).length
        ⟨0, true, rfl, rfl, by omega, by simp, Ext.refl _ _⟩ ?_
      rintro nn vs g w5 ⟨q, f, rfl, rfl, hq, hf, he5⟩
      unfold S_law21_LoadOrder_l1
      have hti : (l.take i).length ≤ i := by rw [List.length_take]; omega
      refine xifD (fun hlt2 => ?_) fun hge2 => ?_
      · have hql : q < (l.take i).length := by omega
        refine xj (fun vs w' => ∃ f2 : Bool, vs = [.bool f2] ∧ (f2 = true ↔ ∀ p ∈ (l.take i).take (q + 1), p.1 ≠ l[i].1) ∧ Ext No w4 w') ?_ ?_
        · refine (hvc.extN he5).rd q rfl hql fun kq hkq => ?_
          refine xnew fun c w6 hc hblk6 hz6 he6 => ?_
          refine xstoreVar hblk6 (by kernel_rfl) (by simp) ?_ fun w7 hb7 hz7 he7 => ?_
          · intro u hu
            simp only [List.mem_cons, List.mem_nil_iff, or_false] at hu
            rcases hu with rfl | rfl
            · exact hkq.one1
            · rfl
          have hb7 : Blk w7 c [kq, u64 (l.take i)[q].2] T_ref01_Pair := by simpa using hb7
          have hE57 : Ext No w5 w7 := he6.trans1 he7 (by omega)
          have hE47 := he5.transN hE57
          have hsplit : ∀ (Q : Key × Nat → Prop), (∀ p ∈ (l.take i).take (q + 1), Q p) ↔ (∀ p ∈ (l.take i).take q, Q p) ∧ Q (l.take i)[q] := fun Q => by
            rw [← List.take_append_getElem hql]
            constructor
            · intro h
              exact ⟨fun p hp => h p (List.mem_append_left _ hp), h _ (List.mem_append_right _ (List.mem_singleton.2 rfl))⟩
            · rintro ⟨h1, h2⟩ p hp
              rcases List.mem_append.1 hp with h | h
              · exact h1 p h
              · rw [List.mem_singleton.1 h]; exact h2
          cases f with
          | true =>
            refine xifT rfl ?_
            refine (hb4.ext hE47 fun h => h).ld (o := 0) rfl ?_
            refine hb7.ld (o := 0) rfl ?_
            refine (c_rSame (hkv.extN (hE14.transN hE47)) (hkq.extN hE57) (by have := hl3 _ (List.getElem_mem hil); omega)).mono ?_
            rintro _ w8 ⟨rfl, he8⟩
            refine ⟨_, rfl, ?_, hE47.transN he8⟩
            rw [hsplit]
            have h1 := hf.1 rfl
            rw [Bool.not_eq_true', decide_eq_false_iff_not]
            exact ⟨fun h => ⟨h1, fun e => h e.symm⟩, fun h e => h.2 e.symm⟩
          | false =>
            refine xifF rfl ⟨false, rfl, ?_, hE47⟩
            rw [hsplit]
            constructor
            · intro h; cases h
            · rintro ⟨h, -⟩; exact hf.2 h
        rintro vs g w6 ⟨f2, rfl, hf2, he6⟩
        refine xi (r := ((q + 1 : Nat) : Int)) (by rw [wrapI (by omega)]; omega) ?_
        exact xnext ((l.take i).length - (q + 1)) (by omega) ⟨q + 1, f2, rfl, rfl, by omega, hf2, he6⟩
      · rw [List.take_of_length_le (by omega)] at hf
        have hE25 := hE24.transN he5
        have mono : ∀ p ∈ A, p ∈ l.take (i + 1) := fun p hp => by
          rw [← List.take_append_getElem hil]
          exact List.mem_append_left _ (hAm p hp)
        cases f with
        | true =>
          refine xifT rfl ?_
          refine (hb4.ext he5 fun h => h).ldA rfl ?_
          show XNew w5 [kv, u64 l[i].2] T_api_Pair _
          refine xnew fun a w6 ha hbl hz6 he6 => ?_
          have hsl : Sl w6 (tyQ T_api_Pair) (.slice (some ⟨a, 0, none⟩) 1 1) 2 1 [kv, u64 l[i].2] := hbl.sln rfl
          refine SO.app (m := [l[i]]) ei_api (hA.extN (hE25.transN he6)) ((he2.transN hE25).transN he6) hsl (PC.sing hkv (hl.get hil)) (by simp; omega) fun va' w7 hso7 he7 _ _ => ?_
          refine ⟨_, _, va', _, rfl, rfl, hso7, by simp; omega, ?_, fun p hp => ?_, he7⟩
          · rw [List.map_append, List.nodup_append]
            refine ⟨hAn, by simp, fun k1 h1 k2 h2 => ?_⟩
            obtain ⟨p, hp, rfl⟩ := List.mem_map.1 h1
            have e : k2 = l[i].1 := by simpa using h2
            rw [e]
            exact hf.1 rfl p (hAm p hp)
          · rcases List.mem_append.1 hp with h | h
            · exact mono p h
            · rw [List.mem_singleton.1 h, ← List.take_append_getElem hil]
              exact List.mem_append_right _ (List.mem_singleton.2 rfl)
        | false =>
          exact xifF rfl ⟨_, _, va, A, rfl, rfl, hA.extN hE25, by omega, hAn, mono, he2.transN hE25⟩
    rintro vs g w3 ⟨x3, y3, va3, A3, rfl, rfl, hA3, hAl3, hAn3, hAm3, he3⟩
    refine xi (r := ((i + 1 : Nat) : Int)) (by rw [wrapI (by omega)]; omega) ?_
    exact xnext (l.length - (i + 1)) (by omega) ⟨i + 1, _, _, va3, A3, rfl, rfl, by omega, hA3, hAl3, hAn3, hAm3, he3⟩
  · have hAk : ∀ p ∈ A, p.1.length ≤ 300 := fun p hp => hl3 p (List.mem_of_mem_take (hAm p hp))
    obtain ⟨cells, hoA, hpA⟩ := hA
    have hA : SO w1 w2 T_api_Pair va A := ⟨cells, hoA, hpA⟩
    refine SO.app (l := []) (m := A) ei_api (SO.nil w1 w2 T_api_Pair) he2 hoA.sl hpA (by simp; omega) fun vl w3 hL3 he3 hb3 hx3 => ?_
    have hX3 : Ext No w2 w3 := hx3.mono fun b _ h => by cases h
    have hA3 := hA.extN hX3
    refine xloop (fun n vs w' => ∃ (i : Nat) (vl x vb : Value) (L Bl : Kv), vs = [vl, x, .int .i64 i, vb] ∧ n = L.length ∧ i + L.length ≤ A.length ∧ (Bl ++ L).Perm A ∧ SO w1 w' T_api_Pair vl L ∧ SO w1 w' T_api_Pair vb Bl ∧ SO w1 w' T_api_Pair va A ∧
        (∀ b, vl.ownBlock = some b → vb.ownBlock ≠ some b ∧ va.ownBlock ≠ some b) ∧ (∀ b, vb.ownBlock = some b → va.ownBlock ≠ some b) ∧ Ext No w1 w') A.length
      ⟨0, vl, _, _, A, [], rfl, rfl, by omega, List.Perm.refl _, by simpa using hL3, SO.nil _ _ _, hA3, fun b hb => ⟨(fun h => by cases h), fun h => ?_⟩, (fun b hb => by cases hb), he3⟩ ?_
    · rcases hb3 b hb with h1 | h1
      · cases h1
      · have := (hoA.ge h).2; omega
    rintro nn vs g w4 ⟨i, vl4, x, vb4, L, Bl, rfl, rfl, hiL, hperm, hL4, hB4, hA4, hd1, hd2, he4⟩
    unfold S_law21_LoadOrder_l2
    have hlenP := hperm.length_eq
    rw [List.length_append] at hlenP
    refine SO.len hL4 ?_
    refine xifD (fun hpos => ?_) fun hno => ?_
    · have hpos : 0 < L.length := by omega
      refine SO.len hL4 ?_
      refine xi (r := ((L.length - 1 : Nat) : Int)) (by rw [wrapI (by omega)]; omega) ?_
      refine xj (fun vs w' => ∃ j : Nat, vs = [.int .i64 j] ∧ j < L.length ∧ w4 = w') ?_ ?_
      · refine ho1.len ?_
        refine xifD (fun hlt2 => ?_) fun hge2 => ⟨L.length - 1, rfl, by omega, rfl⟩
        have hin : i < ns.length := by omega
        have hn16 := hns _ (List.getElem_mem hin)
        refine (ho1.extN he4).rd i rfl hin ?_
        refine xi (r := (ns[i] : Int)) (wrapI (by omega)) ?_
        refine SO.len hL4 ?_
        refine xrem (a := ns[i]) (b := L.length) (by omega) ?_
        exact ⟨_, rfl, Nat.mod_lt _ hpos, rfl⟩
      rintro vs g w5 ⟨j, rfl, hj, rfl⟩
      refine SO.rd hL4 j rfl hj fun kv hkv h64 => ?_
      obtain ⟨ad, cap, rfl⟩ := hkv.slice
      show XNew w4 [_, u64 L[j].2] T_api_Pair _
      refine xnew fun a w5 ha hbl hz5 he5 => ?_
      have hsl : Sl w5 (tyQ T_api_Pair) (.slice (some ⟨a, 0, none⟩) 1 1) 2 1 [.slice ad L[j].1.length cap, u64 L[j].2] := hbl.sln rfl
      have hE15 := he4.transN he5
      refine SO.app (m := [L[j]]) ei_api (hB4.extN he5) hE15 hsl (PC.sing hkv h64) (by simp; omega) fun vb6 w6 hB6 hE16 hb6 hx6 => ?_
      have hL5 := hL4.extN he5
      have hA5 := hA4.extN he5
      have hL6 := hL5.ext hx6 fun b hb hb2 => (hd1 b hb).1 hb2
      have hA6 := hA5.ext hx6 fun b hb hb2 => hd2 b hb2 hb
      have hd3 : ∀ b, vl4.ownBlock = some b → vb6.ownBlock ≠ some b := fun b hb h => by
        rcases hb6 b h with h1 | h1
        · exact (hd1 b hb).1 h1
        · obtain ⟨cs, ho', -⟩ := hL5
          have := (ho'.ge hb).2; omega
      have hd4 : ∀ b, vb6.ownBlock = some b → va.ownBlock ≠ some b := fun b hb h => by
        rcases hb6 b hb with h1 | h1
        · exact hd2 b h1 h
        · obtain ⟨cs, ho', -⟩ := hA5
          have := (ho'.ge h).2; omega
      refine SO.len hL6 ?_
      refine xi (r := ((L.length - 1 : Nat) : Int)) (by rw [wrapI (by omega)]; omega) ?_
      refine SO.rd hL6 (L.length - 1) rfl (by omega) fun kz hkz hz64 => ?_
      refine SO.stP hL6 j rfl hj hkz hz64 (by kernel_rfl) fun w7 hL7 hx7 => ?_
      have hE17 : Ext No w1 w7 := hL6.own hE16 hx7
      have hB7 := hB6.ext hx7 fun b hb hb2 => hd3 b hb2 hb
      have hA7 := hA6.ext hx7 fun b hb hb2 => (hd1 b hb2).2 hb
      refine SO.len hL7 ?_
      refine xi (r := ((L.length - 1 : Nat) : Int)) (by rw [List.length_set, wrapI (by omega)]; omega) ?_
      refine SO.cut hL7 (L.length - 1) rfl (by rw [List.length_set]; omega) fun vl8 hL8 hown8 => ?_
      refine xi (r := ((i + 1 : Nat) : Int)) (by rw [wrapI (by omega)]; omega) ?_
      refine xnext (L.length - 1) (by omega) ⟨i + 1, vl8, _, vb6, _, _, rfl, ?_, ?_, ?_, hL8, hB7, hA7, fun b hb => ?_, hd4, hE17⟩
      · rw [List.length_take, List.length_set]; omega
      · rw [List.length_take, List.length_set]; omega
      · refine List.Perm.trans ?_ hperm
        rw [List.append_assoc]
        exact List.Perm.append_left Bl (swap_out hj)
      · rw [hown8] at hb
        exact ⟨hd3 b hb, (hd1 b hb).2⟩
    · have hL0 : L = [] := List.eq_nil_of_length_eq_zero (by omega)
      subst hL0
      rw [List.append_nil] at hperm
      have hBk : ∀ p ∈ Bl, p.1.length ≤ 300 := fun p hp => hAk p (hperm.mem_iff.1 hp)
      have hBl := hperm.length_eq
      have hw4 := hw1.extN he4
      refine (c_WNew (B := w4.heap.size) hw4 (Nat.le_refl _) hw4.fl).mono ?_
      rintro _ w5 ⟨rfl, hI5, he5⟩
      have hAp : Ps w5 va A := (hA4.ps he4 (.inl rfl)).extN he5
      have hBp : Ps w5 vb4 Bl := (hB4.ps he4 (.inl rfl)).extN he5
      refine (c_Fresh hI5 hAp (fun p hp => by have := hAk p hp; omega) (by omega) (by omega)).mono ?_
      rintro _ w6 ⟨v0, t0, rfl, -, -, hI6, hE6⟩
      have hv0 : updV (fun _ => none) v0 (t0, sortK A) v0 = some (t0, sortK A) := updV_same _ _ _
      generalize updV (fun _ => none) v0 (t0, sortK A) = V6 at hI6 hv0
      refine (c_Fresh hI6 (hE6.ps hBp) (fun p hp => by have := hBk p hp; omega) (by omega) (by omega)).mono ?_
      rintro _ w7 ⟨v1, t1, rfl, hn1, -, hI7, hE7⟩
      have hv1 : updV V6 v1 (t1, sortK Bl) v1 = some (t1, sortK Bl) := updV_same _ _ _
      have hv0 : updV V6 v1 (t1, sortK Bl) v0 = some (t0, sortK A) := updV_keep hn1 hv0
      generalize updV V6 v1 (t1, sortK Bl) = V7 at hI7 hv0 hv1
      have hE57 := hE6.trans hE7
      refine xj (fun vs w' => vs = [.bool true] ∧ VE w4.heap.size w7 w') ?_ ?_
      · refine xifT rfl ?_
        refine xifT rfl ?_
        refine (c_VShape hI7 hv0).mono ?_
        rintro _ w8 ⟨rfl, he8⟩
        refine (c_VShape (hI7.extN he8) hv1).mono ?_
        rintro _ w9 ⟨rfl, he9⟩
        refine xseq ?_
        refine xifT (decide_eq_true ((hI7.ver _ _ _ hv0).ct.shapes (hI7.ver _ _ _ hv1).ct (sortK_perm hAn hperm).symm)) ?_
        have he79 := he8.transN he9
        refine (c_VLen (hI7.extN he79) hv0).mono ?_
        rintro _ w10 ⟨rfl, hI10, hE10⟩
        refine (hAp.len (K := fun x => _) ?_)
        refine xifT (by rw [sortK_len hAn]; simp) ?_
        refine (c_alive hI10.lw).mono ?_
        rintro _ w11 ⟨rfl, he11⟩
        exact ⟨rfl, ((VE.no he79).trans hE10).transN he11⟩
      · rintro vs g w8 ⟨rfl, hE8⟩
        exact ⟨rfl, (hE57.trans hE8).start ((he1.transN he4).transN he5) (by have := (he1.transN he4).size; omega)⟩
end
end law21
end Go.Proofs.YtlhjfenpmnejoaaGreatDoor
