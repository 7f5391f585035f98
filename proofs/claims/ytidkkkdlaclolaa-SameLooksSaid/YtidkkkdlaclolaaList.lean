/-  canon: how many pairs a tree has, and which.  -/
import Derived.Test.YtidkkkdlaclolaaEach
import Derived.Test.YtidkkkdlaclolaaPs
import Derived.Test.YtidkkkdlaclolaaRefK
namespace Go.Proofs.Ytidkkkdlaclolaa
open Go Go.RowKit X
set_option linter.unusedSimpArgs false
set_option linter.unusedVariables false
set_option linter.unusedSectionVars false
/-- the pairs of nodes that were come to -/
def kvOf (s : List (Key × T)) : Kv := s.flatMap fun x => valL x.1 x.2.val
theorem kvOf_app (s t : List (Key × T)) : kvOf (s ++ t) = kvOf s ++ kvOf t := List.flatMap_append
theorem kvOf_nodes : ∀ (t : T) (way : Key), kvOf (t.nodes way) = t.er.list way := by
  intro t
  induction t with
  | nil => intro way; rfl
  | node a ow part val ks kids ih =>
    intro way
    rw [T.nodes_node]
    show valL (way ++ part) val ++ kvOf _ = (E.node part val fun c => (kids c).er).list way
    rw [E.list]
    congr 1
    have e : dom (fun c => ((kids c).er).opt) = dom (ptrs kids) := X.cnt_congr fun c => T.er_opt (kids c)
    rw [e]
    unfold kvOf
    rw [List.flatMap_assoc]
    congr 1
    funext c
    exact ih c _
variable [Floor]
theorem oth_api : Oth T_api_Pair := by unfold Oth; decide
theorem Own.nb1 {w : World} {B : Nat} {e : TypeId} {sz n : Nat} {v : Value} {xs : List Value} (h : Own w B e sz v n xs) (hf : Floor.n ≤ B) {T : TypeId} (ht : e ≠ T) : NBT T w (fun b => v.ownBlock = some b) := fun b hb _ => by
  rcases h.2 with ⟨rfl, -⟩ | ⟨g, cap, cur, rfl, hg, hc, -⟩
  · cases hb
  · simp only [Value.ownBlock, Option.some.injEq] at hb
    subst hb
    exact ⟨by omega, cur.toList, e, ⟨hc⟩, ht⟩
theorem one_own {w : World} {B : Nat} {e : TypeId} {sz n : Nat} {v : Value} {xs : List Value} (h : Own w B e sz v n xs) : v.oneCell' = true := by
  rcases h.2 with ⟨rfl, -⟩ | ⟨g, cap, cur, rfl, -⟩ <;> rfl
/-- a copy of bytes is the call's own -/
theorem c_CloneO {w : World} {va : Value} {a : List UInt8} (ha : Bs w va a) (la : a.length ≤ 140737488355328) : Ret P n_bytes_Clone [va] w fun v w' => Own w' w.heap.size T_uint8 1 v a.length (a.map bv) ∧ Ext No w w' := by
  refine W_bytes_Clone ?_
  obtain ⟨ad, cap, rfl⟩ := ha.slice
  cases ad with
  | none =>
    have : a = [] := by
      obtain ⟨ad, cap', h, hl, hc, hx⟩ := ha
      simp only [Value.slice.injEq] at h
      obtain ⟨rfl, -, rfl⟩ := h
      exact List.eq_nil_of_length_eq_zero (by have : cap = 0 := hx; omega)
    subst this
    exact ⟨Own.nil w _ T_uint8 1, Ext.refl _ _⟩
  | some ad =>
    refine xnew fun b w1 hb hblk hsz he => ?_
    refine app_own ei_u8 (B := w.heap.size) (n := 0) (xs := []) (m := a.length) ⟨rfl, .inr ⟨b, 0, _, rfl, by omega, hblk.h, by omega, by decide, rfl, rfl⟩⟩ (by omega) (ha.extN he) ha.one (by omega) (by omega) fun v' w' ho h1 _ _ => ?_
    refine ⟨by simpa using ho, he.trans1 (b := b) (h1.mono fun c _ h => ?_) (by omega)⟩
    simp only [Value.ownBlock, Option.some.injEq] at h
    exact h.symm
theorem Own.neK {w : World} {B : Nat} {e : TypeId} {sz n : Nat} {v : Value} {xs : List Value} (h : Own w B e sz v n xs) {b : Nat} {cs : List Value} {T : TypeId} (hb : Blk w b cs T) (ht : e ≠ T) (hv : v.ownBlock = some b) : False := by
  rcases h.2 with ⟨rfl, -⟩ | ⟨g, cap, cur, rfl, -, hg, -⟩
  · cases hv
  · simp only [Value.ownBlock, Option.some.injEq] at hv
    subst hv
    have := hg.symm.trans hb.h
    simp at this
    exact ht this.2
/-- the keys that are come to are not long -/
theorem T.nodes_len : ∀ {t : T} {way : Key}, ∀ x ∈ t.nodes way, x.1.length ≤ way.length + t.er.long := by
  intro t
  induction t with
  | nil => intro way x hx; cases hx
  | node a ow part val ks kids ih =>
    intro way x hx
    rw [T.nodes_node] at hx
    have hlong : (T.node a ow part val ks kids).er.long = maxL ((dom (ptrs kids)).map fun c => (kids c).er.long + 1) + part.length := by
      show (E.node part val fun c => (kids c).er).long = _
      rw [E.long_node, dom_er]
    rw [hlong]
    rcases List.mem_cons.1 hx with rfl | hx
    · simp
    · obtain ⟨c, hc, hx⟩ := List.mem_flatMap.1 hx
      have hcl := maxL_le (l := (dom (ptrs kids)).map fun c => (kids c).er.long + 1) (List.mem_map.2 ⟨c, hc, rfl⟩)
      have h1 := ih c x hx
      simp at h1
      omega
/-- pairs whose keys are the call's own -/
structure PCo (w : World) (B : Nat) (l : Kv) (cells : List Value) : Prop where
  len : cells.length = l.length * 2
  at_ : ∀ i p, l[i]? = some p → ∃ kv, cells[i * 2]? = some kv ∧ Own w B T_uint8 1 kv p.1.length (p.1.map bv) ∧ cells[i * 2 + 1]? = some (u64 p.2) ∧ p.2 < 18446744073709551616
theorem PCo.pc {w : World} {B : Nat} {l : Kv} {cells : List Value} (h : PCo w B l cells) : PC w l cells :=
  ⟨h.len, fun i p hp => let ⟨kv, h1, h2, h3⟩ := h.at_ i p hp; ⟨kv, h1, Bs.of h2.sl, h3⟩⟩
theorem PCo.ext {w w' : World} {B : Nat} {X : Nat → Prop} {l : Kv} {cells : List Value} (h : PCo w B l cells) (e : Ext X w w') (hx : ∀ kv ∈ cells, ∀ b, kv.ownBlock = some b → ¬ X b) : PCo w' B l cells :=
  ⟨h.len, fun i p hp => let ⟨kv, h1, h2, h3⟩ := h.at_ i p hp; ⟨kv, h1, h2.ext e (hx kv (List.mem_of_getElem? h1)), h3⟩⟩
theorem PCo.app1 {w : World} {B : Nat} {l : Kv} {cells : List Value} {k : Key} {x : Nat} {kv : Value} (h : PCo w B l cells) (hk : Own w B T_uint8 1 kv k.length (k.map bv)) (hx : x < 18446744073709551616) : PCo w B (l ++ [(k, x)]) (cells ++ [kv, u64 x]) := by
  refine ⟨by simp [h.len]; omega, fun i p hp => ?_⟩
  have hl := h.len
  rcases Nat.lt_or_ge i l.length with hi | hi
  · rw [List.getElem?_append_left hi] at hp
    rw [List.getElem?_append_left (by omega), List.getElem?_append_left (by omega)]
    exact h.at_ i p hp
  · rw [List.getElem?_append_right hi] at hp
    have : i - l.length = 0 := by
      rcases Nat.eq_zero_or_pos (i - l.length) with h | h
      · exact h
      · rw [List.getElem?_eq_none (by simp; omega)] at hp; cases hp
    have hi : i = l.length := by omega
    subst hi
    simp at hp
    subst hp
    refine ⟨kv, by rw [List.getElem?_append_right (by omega), hl]; simp, hk, by rw [List.getElem?_append_right (by omega), hl]; simp, hx⟩
/-- the blocks that pairs hang on -/
def KB (cells : List Value) (b : Nat) : Prop := ∃ kv ∈ cells, kv.ownBlock = some b
theorem PCo.kb {w : World} {B : Nat} {l : Kv} {cells : List Value} (h : PCo w B l cells) {b : Nat} (hb : KB cells b) : ∃ k : Key, ∃ kv, kv.ownBlock = some b ∧ Own w B T_uint8 1 kv k.length (k.map bv) := by
  obtain ⟨kv, hm, hk⟩ := hb
  obtain ⟨j, hj, rfl⟩ := List.mem_iff_getElem.1 hm
  have hl := h.len
  obtain ⟨kv', h1, h2, h3, -⟩ := h.at_ (j / 2) l[j / 2] (List.getElem?_eq_getElem (by omega))
  rcases Nat.mod_two_eq_zero_or_one j with e | e
  · rw [show j / 2 * 2 = j by omega, List.getElem?_eq_getElem hj] at h1
    obtain rfl := Option.some.inj h1
    exact ⟨_, _, hk, h2⟩
  · rw [show j / 2 * 2 + 1 = j by omega, List.getElem?_eq_getElem hj] at h3
    rw [Option.some.inj h3] at hk
    cases hk
/-- the row of pairs that a variable holds -/
def RowV (B qb : Nat) (w : World) (l : Kv) (D : Nat → Prop) : Prop :=
  ∃ v cells, D = (fun b => b = qb ∨ v.ownBlock = some b ∨ KB cells b) ∧ Blk w qb [v] T_s_api_Pair ∧ B ≤ qb ∧ Own w B T_api_Pair 2 v l.length cells ∧ PCo w B l cells
set_option maxRecDepth 100000 in
theorem c_List {w : World} {t : T} (ht : Tree w t) (hlong : t.er.long ≤ 65535) (hl : (t.er.list []).length ≤ 1000000) : Ret P n_canon_List [t.v] w fun r w' => PsO w' w.heap.size T_api_Pair r (t.er.list []) ∧ Ext No w w' := by
  refine W_canon_List ?_
  refine xnew fun qb w1 hqb hqblk hz1 he1 => ?_
  have hqblk1 : Blk w1 qb [.slice none 0 0] T_s_api_Pair := hqblk
  have hF : EachF w n_canon_List_1 #[.pointer (some ⟨qb, 0, none⟩)] (fun w' s D => RowV w.heap.size qb w' (kvOf s) D) (fun key t => key.length ≤ 100000000) (t.nodes []) := by
    refine ⟨by kernel_rfl, fun h e hx => ?_, fun h b hb => ?_, ?_⟩
    · obtain ⟨v, cells, rfl, h1, h2, h3, h4⟩ := h
      exact ⟨v, cells, rfl, h1.ext e (hx qb (.inl rfl)), h2, h3.ext e fun b hb => hx b (.inr (.inl hb)), h4.ext e fun kv hkv b hb => hx b (.inr (.inr ⟨kv, hkv, hb⟩))⟩
    · obtain ⟨v, cells, rfl, h1, h2, h3, h4⟩ := h
      rcases hb with rfl | hb | hb
      · exact ⟨h2, h1.lt⟩
      · exact h3.ge hb
      · obtain ⟨k, kv, hk, ho⟩ := h4.kb hb
        exact ho.ge hk
    · rintro w3 s D key vk t' ⟨v, cells, rfl, hb, hge, hown, hpc⟩ hE ht' hkl ⟨rr, hrr⟩ hk
      show Ret P n_canon_List_1 [vk, t'.v, .pointer (some ⟨qb, 0, none⟩)] w3 _
      refine W_canon_List_1 ?_
      refine (c_Val ht').mono ?_
      rintro _ w4 ⟨rfl, rfl⟩
      have hap : kvOf (s ++ [(key, t')]) = kvOf s ++ valL key t'.val := by rw [kvOf_app]; simp [kvOf]
      have hv64 : t'.val.getD 0 < 18446744073709551616 := by
        cases t' with
        | nil => show 0 < _; omega
        | node a ow part val ks kids =>
          show val.getD 0 < _
          cases val with
          | none => show 0 < _; omega
          | some v => exact ht'.1.v64 v rfl
      have hlen : (kvOf s).length ≤ 1000000 := by
        have h1 : (kvOf (s ++ (key, t') :: rr)).length ≤ 1000000 := by rw [hrr, kvOf_nodes]; exact hl
        rw [kvOf_app, List.length_append] at h1
        omega
      cases hv : t'.val with
      | none =>
        refine xifF rfl ⟨_, ⟨v, cells, rfl, hb, hge, ?_, ?_⟩, fun b h => .inl h, Ext.refl _ _⟩
        · rw [hap, hv]; simpa [valL] using hown
        · rw [hap, hv]; simpa [valL] using hpc
      | some x =>
        rw [hv] at hv64
        have hx : x < 18446744073709551616 := hv64
        refine xifT rfl ?_
        have hd := Ext.drew (Ext.refl No w4)
        refine hb.drew.ld (v := v) rfl ?_
        refine (c_CloneO (hk.extN hd) (by omega)).mono ?_
        rintro kv w5 ⟨hkv, he5⟩
        have he45 := hd.transN he5
        have hs45 : w4.heap.size ≤ w5.heap.size := he45.size
        have hb5 := hb.ext he45 fun h => h
        refine ⟨by show w5.cell? ⟨qb, 0, none⟩ = _; rw [hb5.cell]; rfl, ?_⟩
        obtain ⟨ad, cap, rfl⟩ := (Bs.of hkv.sl : Bs w5 kv key).slice
        show XNew w5 [.slice ad key.length cap, u64 x] T_api_Pair _
        refine xnew fun a w6 ha hbl hz6 he6 => ?_
        have hb6 := hb5.ext he6 fun h => h
        refine ⟨by show w6.cell? ⟨qb, 0, none⟩ = _; rw [hb6.cell]; rfl, ?_⟩
        have he46 := he45.transN he6
        have hsl : Sl w6 (tyQ T_api_Pair) (.slice (some ⟨a, 0, none⟩) 1 1) 2 1 [.slice ad key.length cap, u64 x] := hbl.sln rfl
        have hown6 := hown.extN he46
        have hpc6 := hpc.ext he46 fun _ _ _ _ h => h
        have hkv6 := hkv.extN he6
        have hsz : w.heap.size ≤ w4.heap.size := hE.size
        have hkvB : Own w6 w.heap.size T_uint8 1 (.slice ad key.length cap) key.length (key.map bv) := hkv6.mono (by show w.heap.size ≤ w4.heap.size; omega)
        refine app_own ei_api hown6 (by have := he46.size; omega) hsl (by intro u hu; simp only [List.mem_cons, List.mem_nil_iff, or_false] at hu; rcases hu with rfl | rfl <;> rfl) (by omega) (by omega) fun v' w7 hown7 he7 _ hnew7 => ?_
        have hb7 := hb6.ext he7 fun h => Own.neK hown6 hb6 (by decide) h
        refine hb7.st (o := 0) (by simp) (one_own hown7) fun w8 hb8 hz8 he8 => ?_
        have hpc7 := (hpc6.app1 hkvB hx).ext he7 fun kv' hkv' b hb' hX => by
          obtain ⟨k', kv2, h1, h2⟩ := (hpc6.app1 hkvB hx).kb ⟨kv', hkv', hb'⟩
          exact Own.ne h2 hown6 (by decide) h1 hX
        have hq8 : ∀ b, v'.ownBlock = some b → b ≠ qb := fun b hb' e => by subst e; exact Own.neK hown7 hb7 (by decide) hb'
        have hown8 := hown7.ext he8 fun b hb' e => hq8 b hb' e
        have hpc8 := hpc7.ext he8 fun kv' hkv' b hb' e => by
          obtain ⟨k', kv2, h1, h2⟩ := hpc7.kb ⟨kv', hkv', hb'⟩
          have e : b = qb := e
          subst e
          exact Own.neK h2 hb7 (by decide) h1
        refine ⟨_, ⟨v', cells ++ [.slice ad key.length cap, u64 x], rfl, by simpa using hb8, hge, ?_, ?_⟩, fun b hbb => ?_, ?_⟩
        · rw [hap, hv]; simpa [valL] using hown8
        · rw [hap, hv]; simpa [valL] using hpc8
        · rcases hbb with rfl | hbb | ⟨kv', hkv', hbb⟩
          · exact .inl (.inl rfl)
          · rcases hnew7 b hbb with h | h
            · exact .inl (.inr (.inl h))
            · exact .inr (by have := he46.size; omega)
          · rcases List.mem_append.1 hkv' with h | h
            · exact .inl (.inr (.inr ⟨kv', h, hbb⟩))
            · simp only [List.mem_cons, List.mem_nil_iff, or_false] at h
              rcases h with rfl | rfl
              · exact .inr (by have := (hkv.ge hbb).1; exact this)
              · cases hbb
        · exact ((he46.mono fun _ _ h => h.elim).transS (he7.mono fun b _ h => .inr (.inl h))).transS (he8.mono fun b _ h => .inl h)
  refine (c_each hF (w := w1) (D := fun b => b = qb ∨ (Value.slice none 0 0).ownBlock = some b ∨ KB [] b) he1 ht (fun x hx => ?_) ⟨.slice none 0 0, [], rfl, hqblk1, by omega, Own.nil w1 _ T_api_Pair 2, ⟨rfl, fun i p h => by cases h⟩⟩ (by omega)).mono ?_
  · have := T.nodes_len x hx
    simp at this
    omega
  rintro _ w3 ⟨D', ⟨v, cells, rfl, hb, hge, hown, hpc⟩, hD', he3⟩
  rw [kvOf_nodes] at hown hpc
  refine hb.ld rfl ?_
  refine ⟨⟨cells, hown, hpc.pc⟩, he1.trans he3 fun b hlt h => ?_⟩
  rcases h with h | h | ⟨kv, h, -⟩
  · omega
  · cases h
  · cases h
end Go.Proofs.Ytidkkkdlaclolaa
