/-  the references of layer 18.  -/
import Derived.Test.YthnegkjhciakpaaGreatDoorSAr18
import Derived.Test.YthnegkjhciakpaaGreatDoorRefK
import Derived.Test.YthnegkjhciakpaaGreatDoorMap
namespace Go.Proofs.YthnegkjhciakpaaGreatDoor
open Go Go.RowKit X
set_option linter.unusedSimpArgs false
set_option linter.unusedVariables false
set_option linter.unusedSectionVars false
variable [Floor]
section
variable {w0 : World} {v vp : Value} {l : Kv} {p : Key}
theorem subK_take {i : Nat} (h : i < l.length) : subK p (l.take (i + 1)) = subK p (l.take i) ++ (if p <+: l[i].1 then [l[i]] else []) := by
  rw [← List.take_append_getElem h]
  unfold subK
  rw [List.filter_append]
  congr 1
  by_cases e : p <+: l[i].1
  · rw [if_pos e]; simp [e]
  · rw [if_neg e]; simp [e]
theorem c_r18Sub (h : Ps w0 v l) (hp : Bs w0 vp p) (hl : l.length ≤ 100000) (hk : ∀ x ∈ l, x.1.length ≤ 65535) : Ret P n_ref18_Sub [v, vp] w0 fun r w' => SO w0 w' T_ref01_Pair r (subK p l) ∧ Ext No w0 w' := by
  refine W_ref18_Sub ?_
  refine xloop (fun n vs w' => ∃ (i : Nat) (out : Value), vs = [.int .i64 i, out] ∧ n = l.length - i ∧ i ≤ l.length ∧ SO w0 w' T_ref01_Pair out (subK p (l.take i)) ∧ Ext No w0 w') l.length ⟨0, _, rfl, rfl, by omega, SO.nil _ _ _, Ext.refl _ _⟩ ?_
  rintro n vs g w1 ⟨i, out, rfl, rfl, hi, hso, he⟩
  refine h.len ?_
  refine xifD (fun hlt => ?_) fun hge => ?_
  · have hil : i < l.length := by omega
    refine xj (fun vs w' => ∃ out', vs = [out'] ∧ SO w0 w' T_ref01_Pair out' (subK p (l.take (i + 1))) ∧ Ext No w0 w') ?_ ?_
    · rw [subK_take hil]
      refine (h.extN he).key i rfl hil fun kv hkv => ?_
      refine (c_rBegins hkv (hp.extN he) (by have := hk _ (List.getElem_mem hil); omega)).mono ?_
      rintro r w2 ⟨rfl, he2⟩
      refine xifD (fun hb => ?_) fun hb => ?_
      · rw [if_pos hb]
        refine h.rd0 (he.transN he2) i rfl hil fun kv hkv => ?_
        show XNew w2 [kv, u64 l[i].2] T_ref01_Pair _
        refine xnew fun a w3 ha hbl hz he3 => ?_
        have hsl : Sl w3 (tyQ T_ref01_Pair) (.slice (some ⟨a, 0, none⟩) 1 1) 2 1 [kv, u64 l[i].2] := hbl.sln rfl
        have hle := subK_length p (l.take i)
        refine SO.app (m := [l[i]]) ei_ref (hso.extN (he2.transN he3)) ((he.transN he2).transN he3) hsl (PC.sing hkv (h.get hil)) (by simp at hle ⊢; omega) fun out' w4 hso4 he4 _ _ => ⟨_, rfl, hso4, he4⟩
      · rw [if_neg hb, List.append_nil]
        exact ⟨_, rfl, hso.extN he2, he.transN he2⟩
    · rintro vs g w2 ⟨out', rfl, hso2, he2⟩
      refine xi (r := ((i + 1 : Nat) : Int)) (by rw [wrapI (by omega)]; omega) ?_
      exact xnext (l.length - (i + 1)) (by omega) ⟨i + 1, _, rfl, rfl, by omega, hso2, he2⟩
  · have : i = l.length := by omega
    subst this
    rw [List.take_length] at hso
    exact ⟨hso, he⟩
theorem c_r18Strip (h : Ps w0 v l) (hp : Bs w0 vp p) (hl : l.length ≤ 100000) (hk : ∀ x ∈ l, x.1.length ≤ 65535) : Ret P n_ref18_Strip [v, vp] w0 fun r w' => SO w0 w' T_ref01_Pair r (stripK p l) ∧ Ext No w0 w' := by
  refine W_ref18_Strip ?_
  refine (c_r18Sub h hp hl hk).mono ?_
  rintro out w1 ⟨hso1, he1⟩
  have hle := subK_length p l
  generalize hm : subK p l = m at hso1
  have hmp : ∀ x ∈ m, p <+: x.1 := fun x hx => by rw [← hm] at hx; exact (subK_mem hx).2
  have hml : m.length ≤ 100000 := by rw [← hm]; omega
  have hst : stripK p l = m.map fun x => (x.1.drop p.length, x.2) := by rw [← hm]; rfl
  rw [hst]
  refine xloop (fun n vs w' => ∃ (i : Nat), vs = [.int .i64 i] ∧ n = m.length - i ∧ i ≤ m.length ∧ SO w0 w' T_ref01_Pair out (((m.take i).map fun x => (x.1.drop p.length, x.2)) ++ m.drop i) ∧ Ext No w0 w') m.length ⟨0, rfl, rfl, by omega, by simpa using hso1, he1⟩ ?_
  rintro n vs g w2 ⟨i, rfl, rfl, hi, hso, he⟩
  have hlen : (((m.take i).map fun x => (x.1.drop p.length, x.2)) ++ m.drop i).length = m.length := by simp; omega
  refine hso.len ?_
  rw [hlen]
  refine xifD (fun hlt => ?_) fun hge => ?_
  · have hil : i < m.length := by omega
    have hget : (((m.take i).map fun x => (x.1.drop p.length, x.2)) ++ m.drop i)[i]'(by omega) = m[i] := by
      rw [List.getElem_append_right (by simp; omega)]
      simp [show i - min i m.length = 0 by omega]
    refine hso.key i rfl (by omega) fun kv hkv => ?_
    rw [hget] at hkv
    refine hp.len ?_
    refine hkv.drop p.length rfl (hmp _ (List.getElem_mem hil)).length_le fun kv' hkv' => ?_
    refine hso.stK i rfl (by omega) hkv' fun w3 hso3 he3 => ?_
    refine xi (r := ((i + 1 : Nat) : Int)) (by rw [wrapI (by omega)]; omega) ?_
    refine xnext (m.length - (i + 1)) (by omega) ⟨i + 1, rfl, rfl, by omega, ?_, hso.own he he3⟩
    rw [hget] at hso3
    have e1 : (((m.take i).map fun x => (x.1.drop p.length, x.2)) ++ m.drop i).set i (m[i].1.drop p.length, m[i].2) = ((m.take (i + 1)).map fun x => (x.1.drop p.length, x.2)) ++ m.drop (i + 1) := by
      rw [List.set_append_right _ _ (by simp; omega)]
      have e0 : i - ((m.take i).map fun x => (x.1.drop p.length, x.2)).length = 0 := by simp; omega
      rw [e0, List.drop_eq_getElem_cons hil, List.set_cons_zero, ← List.take_append_getElem hil, List.map_append, List.append_assoc]
      rfl
    rw [e1] at hso3
    exact hso3
  · have : i = m.length := by omega
    subst this
    rw [List.take_length, List.drop_length, List.append_nil] at hso
    exact ⟨hso, he⟩
theorem c_r18Longest (h : Ps w0 v l) (hl : l.length ≤ 100000) : Ret P n_ref18_Longest [v] w0 fun r w' => r = .int .i64 (maxL (l.map fun p => p.1.length) : Nat) ∧ w' = w0 := by
  refine W_ref18_Longest ?_
  refine xloop (fun n vs w' => ∃ (i : Nat), vs = [.int .i64 i, .int .i64 (maxL ((l.take i).map fun p => p.1.length) : Nat)] ∧ n = l.length - i ∧ i ≤ l.length ∧ w' = w0) l.length ⟨0, rfl, rfl, by omega, rfl⟩ ?_
  rintro n vs g w1 ⟨i, rfl, rfl, hi, rfl⟩
  refine h.len ?_
  refine xifD (fun hlt => ?_) fun hge => ?_
  · have hil : i < l.length := by omega
    refine h.key i rfl hil fun kv hkv => ?_
    refine hkv.len ?_
    refine xi (r := ((i + 1 : Nat) : Int)) (by rw [wrapI (by omega)]; omega) ?_
    refine xnext (l.length - (i + 1)) (by omega) ⟨i + 1, ?_, rfl, by omega, rfl⟩
    have hmx : maxL ((l.take (i + 1)).map fun p => p.1.length) = max (maxL ((l.take i).map fun p => p.1.length)) l[i].1.length := by
      have : ∀ (a : List Nat) (b : Nat), maxL (a ++ [b]) = max (maxL a) b := by
        intro a b
        induction a with
        | nil => simp [maxL]
        | cons x a ih => rw [List.cons_append, maxL, maxL, ih, Nat.max_assoc]
      rw [← List.take_append_getElem hil, List.map_append]
      exact this _ _
    rw [hmx]
    congr 2
    congr 1
    show (if ((maxL ((l.take i).map fun p => p.1.length) : Nat) : Int) < ((l[i].1.length : Nat) : Int) then ((l[i].1.length : Nat) : Int) else ((maxL ((l.take i).map fun p => p.1.length) : Nat) : Int)) = _
    split <;> omega
  · have : i = l.length := by omega
    subst this
    rw [List.take_length]
    exact ⟨rfl, rfl⟩
theorem Ps.keyK0 {w : World} {K : Value → Value → Prop} {kd : IntKind} {i : Int} (h : Ps w0 v l) (he : Ext No w0 w) (m : Nat) (hi : i = (m : Int)) (hm : m < l.length) (k : ∀ p kv, Bs w0 kv l[m].1 → (∀ w', Ext No w0 w' → xKeep1 w' p kv) → K p kv) :
    xIxS v (.int kd i) 2 fun u => xFld u 0 fun p => xAt p fun a => XLd w a fun x => K p x := by
  obtain ⟨T, cells, hT, h1, h2⟩ := h
  obtain ⟨kv, h3, h4, -⟩ := h2.at_ m l[m] (List.getElem?_eq_getElem hm)
  have key : ∀ w', Ext No w0 w' → ∃ a cap, v = .slice (some a) l.length cap ∧ w'.cell? ((a.add (m * 2)).add 0) = some kv := fun w' e => by
    obtain ⟨a, cap, hv, hc⟩ := (h1.extN e).cell hm (show 0 < 2 by omega)
    exact ⟨a, cap, hv, by rw [hc]; exact h3⟩
  obtain ⟨a, cap, rfl, hc⟩ := key w he
  refine ⟨m, hi, hm, ⟨_, hc, k _ _ h4 fun w' e' => ?_⟩⟩
  obtain ⟨a', cap', e, hc'⟩ := key w' e'
  simp only [Value.slice.injEq, Option.some.injEq] at e
  obtain ⟨rfl, -, rfl⟩ := e
  exact hc'
theorem Ps.valK0 {w : World} {K : Value → Value → Prop} {kd : IntKind} {i : Int} (h : Ps w0 v l) (he : Ext No w0 w) (m : Nat) (hi : i = (m : Int)) (hm : m < l.length) (k : ∀ p, (∀ w', Ext No w0 w' → xKeep1 w' p (u64 l[m].2)) → K p (u64 l[m].2)) :
    xIxS v (.int kd i) 2 fun u => xFld u 1 fun p => xAt p fun a => XLd w a fun x => K p x :=
  (h.extN he).valK m hi hm fun p hp => k p fun w' e => hp w' (h.extN e)
theorem Own.nb {w : World} {B : Nat} {e : TypeId} {sz n : Nat} {v : Value} {xs : List Value} (h : Own w B e sz v n xs) (hf : Floor.n ≤ B) {T : TypeId} (ht : e ≠ T) : NBT T w (fun b => v.ownBlock = some b) := fun b hb _ => by
  rcases h.2 with ⟨rfl, -⟩ | ⟨g, cap, cur, rfl, hg, hc, -⟩
  · cases hb
  · simp only [Value.ownBlock, Option.some.injEq] at hb
    subst hb
    exact ⟨by omega, cur.toList, e, ⟨hc⟩, ht⟩
theorem c_r18Under (hfl : Floor.n ≤ w0.heap.size) (h : Ps w0 v l) (hp : Bs w0 vp p) (hl : l.length ≤ 100000) (hk : ∀ x ∈ l, x.1.length ≤ 65535) (hpl : p.length ≤ 1000000) (hfit : l = [] ∨ p.length + maxL (l.map fun x => x.1.length) ≤ 65535) :
    Ret P n_ref18_Under [v, vp] w0 fun r w' => ∃ v', r = .tuple #[v', .int .i64 0] ∧ Ps w' v' (underK p l) ∧ Ext No w0 w' := by
  have hmax : maxL (l.map fun x => x.1.length) ≤ 65535 := maxL_le' fun m hm => by
    obtain ⟨x, hx, rfl⟩ := List.mem_map.1 hm
    exact hk x hx
  refine W_ref18_Under ?_
  refine xj (fun vs w' => vs = [.bool false] ∧ w' = w0) ?_ ?_
  · refine h.len ?_
    refine xifD (fun h0 => ?_) fun h0 => ⟨rfl, rfl⟩
    have hne : l ≠ [] := fun e => by rw [e] at h0; simp at h0
    refine hp.len ?_
    refine (c_r18Longest h hl).mono ?_
    rintro r w1 ⟨rfl, rfl⟩
    refine xi (r := ((65535 - maxL (l.map fun x => x.1.length) : Nat) : Int)) (by rw [wrapI (by omega)]; omega) ?_
    have := hfit.resolve_left hne
    exact ⟨by rw [decide_eq_false (by omega)], rfl⟩
  rintro vs g w1 ⟨rfl, rfl⟩
  refine xifF rfl ?_
  refine xloop (fun n vs w' => ∃ (i : Nat) (out : Value), vs = [.int .i64 i, out] ∧ n = l.length - i ∧ i ≤ l.length ∧ PsO w' w1.heap.size T_ref01_Pair out (underK p (l.take i)) ∧ Ext No w1 w') l.length ⟨0, _, rfl, rfl, by omega, PsO.nil _ _ _, Ext.refl _ _⟩ ?_
  rintro n vs g w2 ⟨i, out, rfl, rfl, hi, ⟨cells, hown, hpc⟩, he⟩
  refine h.len ?_
  refine xifD (fun hlt => ?_) fun hge => ?_
  · have hil : i < l.length := by omega
    have hki := hk _ (List.getElem_mem hil)
    have hul : (underK p (l.take i)).length = i := by unfold underK; simp; omega
    refine h.keyK0 he.drew i rfl hil fun pk kv hkv hkeepk => ?_
    refine h.valK0 he.drew i rfl hil fun pv hkeepv => ?_
    refine app_own ei_u8 (B := w1.heap.size) (n := 0) (xs := []) (Own.nil w2.drew _ _ _) (by have := he.size; exact this) (hp.extN he.drew) (Bs.one hp) (by omega) (by omega) fun v3 w3 ho3 hE3 _ hb3 => ?_
    have hEw3 : Ext No w1 w3 := he.drew.transN (hE3.mono fun b _ hb => by cases hb)
    refine ⟨hkeepv _ hEw3, hkeepk _ hEw3, ?_⟩
    refine app_own ei_u8 ho3 hEw3.size (hkv.extN hEw3) (Bs.one hkv) (by omega) (by omega) fun v4 w4 ho4 hE4 _ hb4 => ?_
    have hEw4 : Ext No w1 w4 := hEw3.own ho3 (Nat.le_refl _) hE4
    refine ⟨hkeepv _ hEw4, ?_⟩
    obtain ⟨sa, sc, rfl⟩ : ∃ a c, v4 = .slice a (0 + p.length + l[i].1.length) c := by
      rcases ho4.2 with ⟨h1, h2⟩ | ⟨g, cap, cur, h1, -⟩
      · exact ⟨none, 0, by rw [h1, h2]⟩
      · exact ⟨_, _, h1⟩
    have hbs4 : Bs w4 (.slice sa (0 + p.length + l[i].1.length) sc) (p ++ l[i].1) := by
      refine Bs.of ?_
      have := ho4.sl
      rw [List.nil_append] at this
      rw [List.length_append, List.map_append]
      simpa using this
    show XNew w4 [.slice sa (0 + p.length + l[i].1.length) sc, u64 l[i].2] T_ref01_Pair _
    refine xnew fun a w5 ha hbl hz he5 => ?_
    have hsl : Sl w5 (tyQ T_ref01_Pair) (.slice (some ⟨a, 0, none⟩) 1 1) 2 1 [.slice sa (0 + p.length + l[i].1.length) sc, u64 l[i].2] := hbl.sln rfl
    have hE23 : Ext No w2 w3 := (Ext.refl No w2).drew.transN (hE3.mono fun b _ hb => by cases hb)
    have hE24 : Ext No w2 w4 := hE23.trans hE4 fun b hb hX => by
      rcases hb3 b hX with h' | h'
      · cases h'
      · have h' : w2.heap.size ≤ b := h'
        omega
    have hE25 : Ext No w2 w5 := hE24.transN he5
    have hown5 : Own w5 w1.heap.size T_ref01_Pair 2 out (underK p (l.take i)).length cells := Own.extN hown hE25
    have hpc5 := hpc.extN hE25
    have hv64 := h.get hil
    have hs := PC.sing (hbs4.extN he5) hv64
    refine app_own ei_ref hown5 (by have := (hEw4.transN he5).size; exact this) hsl hs.one (by omega) (by omega) fun v6 w6 ho6 hE6 _ _ => ?_
    refine xi (r := ((i + 1 : Nat) : Int)) (by rw [wrapI (by omega)]; omega) ?_
    have hsnoc : underK p (l.take (i + 1)) = underK p (l.take i) ++ [(p ++ l[i].1, l[i].2)] := by
      rw [← List.take_append_getElem hil]
      unfold underK
      rw [List.map_append]; rfl
    refine xnext (l.length - (i + 1)) (by omega) ⟨i + 1, v6, rfl, rfl, by omega, ⟨_, ?_, (hpc5.app hs).ext hE6 (Own.nb hown5 hfl (by decide)) |> fun h => by rw [hsnoc]; exact h⟩, (hEw4.transN he5).own hown5 (Nat.le_refl _) hE6⟩
    rw [hsnoc, List.length_append]
    exact ho6
  · have : i = l.length := by omega
    subst this
    rw [List.take_length] at hpc hown
    exact ⟨out, rfl, PsO.ps ⟨cells, hown, hpc⟩ (.inr rfl), he⟩
end
end Go.Proofs.YthnegkjhciakpaaGreatDoor
