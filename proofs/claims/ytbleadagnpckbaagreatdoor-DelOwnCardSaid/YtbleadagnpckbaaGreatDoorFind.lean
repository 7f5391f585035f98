/-  what is found by a key.  -/
import Derived.Test.YtbleadagnpckbaaGreatDoorHeap
section
namespace Go.Proofs.YtbleadagnpckbaaGreatDoor
open Go Go.RowKit X
set_option linter.unusedSimpArgs false
set_option linter.unusedVariables false
set_option linter.unusedSectionVars false
variable [Floor]

/-- a type of no tree's blocks, nor of bytes -/
def Oth (T : TypeId) : Prop := T ≠ T_node_Node ∧ T ≠ T_kids_Kids ∧ T ≠ T_small_Row ∧ T ≠ T_wide_Board ∧ T ≠ T_p_node_Node ∧ T ≠ T_uint16 ∧ T ≠ T_uint8
theorem Oth.nt {T T' : TypeId} (h : Oth T) (h' : T' = T_node_Node ∨ KT T') : T' ≠ T := by
  obtain ⟨h1, h2, h3, h4, h5, h6, h7⟩ := h
  rcases h' with rfl | rfl | rfl | rfl | rfl | rfl
  · exact h1.symm
  · exact h2.symm
  · exact h3.symm
  · exact h4.symm
  · exact h5.symm
  · exact h6.symm
theorem nb1 {w : World} {b : Nat} {cs : List Value} {T : TypeId} (hb : Blk w b cs T) (ho : Oth T) (hf : Floor.n ≤ b) : NB w (· = b) := fun c e _ => by
  have e : c = b := e
  subst e
  exact ⟨hf, _, _, hb, ho.2.2.2.2.2.2⟩
theorem Tree.ext1 {w w' : World} {t : T} {b : Nat} {cs : List Value} {T : TypeId} (h : Tree w t) (e : Ext (· = b) w w') (hb : Blk w b cs T) (ho : Oth T) (hf : Floor.n ≤ b) : Tree w' t :=
  h.ext e (nb1 hb ho hf) fun c hc he => by
    have he : c = b := he
    subst he
    obtain ⟨cs', T', h1, h2⟩ := h.ty hc
    exact ho.nt h2 (h1.inj hb).2
theorem Bs.ext1 {w w' : World} {v : Value} {bs : Key} {b : Nat} {cs : List Value} {T : TypeId} (h : Bs w v bs) (e : Ext (· = b) w w') (hb : Blk w b cs T) (ho : Oth T) (hf : Floor.n ≤ b) : Bs w' v bs := h.ext e (nb1 hb ho hf)
theorem oth_walk : Oth T_find_walk := by unfold Oth; decide

/-- how many nodes are gone into for a key -/
def E.steps : E → Key → Nat
  | .nil, _ => 0
  | .node part _ kids, k => if part <+: k then (match k.drop part.length with | [] => 1 | c :: r => (kids c).steps r + 1) else 1
def T.steps (t : T) (k : Key) : Nat := t.er.steps k

section
variable {w : World} {t : T} {wb j s : Nat} {vk : Value} {k : Key}
theorem c_WInto (hf : Floor.n ≤ wb) (hw : Blk w wb [t.v, vk, .int .i64 j, .int .i64 s] T_find_walk) (ht : Tree w t) (hk : Bs w vk k) (hj : j ≤ k.length) (hs : s < 4611686018427387904) (hkl : k.length ≤ 4611686018427387904) : Ret P n_find_walk_into [rp wb] w fun v w' =>
    Ext (· = wb) w w' ∧ ((t = .nil ∧ v = .bool false ∧ w' = w) ∨ (t ≠ .nil ∧ ¬ t.part <+: k.drop j ∧ v = .bool false ∧ Blk w' wb [t.v, vk, .int .i64 j, .int .i64 (s + 1 : Nat)] T_find_walk) ∨
      (t ≠ .nil ∧ t.part <+: k.drop j ∧ v = .bool true ∧ Blk w' wb [t.v, vk, .int .i64 (j + t.part.length : Nat), .int .i64 (s + 1 : Nat)] T_find_walk)) := by
  refine W_find_walk_into ?_
  refine hw.ld (v := t.v) rfl ?_
  cases t with
  | nil => exact xifT rfl ⟨Ext.refl _ _, .inl ⟨rfl, rfl, rfl⟩⟩
  | node a ow part val ks kids =>
    refine xifF rfl ?_
    refine hw.ld (v := .int .i64 s) rfl ?_
    refine xi (r := ((s + 1 : Nat) : Int)) (by rw [wrapI (by omega)]; omega) ?_
    refine hw.st (o := 3) (by simp) rfl fun w1 hw1 hz1 he1 => ?_
    have ht1 := ht.ext1 he1 hw oth_walk hf
    have hk1 := hk.ext1 he1 hw oth_walk hf
    refine hw1.ld (v := (T.node a ow part val ks kids).v) rfl ?_
    refine (c_Part ht1).mono ?_
    rintro pv w2 ⟨hp, he2⟩
    have hw2 := hw1.ext he2 fun h => h
    refine hw2.drew.ld (v := vk) rfl ?_
    refine hw2.drew.ld (v := .int .i64 j) rfl ?_
    have hk2 : Bs w2.drew vk k := (hk1.extN he2).extN (Ext.refl No w2).drew
    have hp2 : Bs w2.drew pv part := hp.extN (Ext.refl No w2).drew
    refine hk2.drop j rfl hj fun v' hv' => ?_
    refine (c_HasPrefix hv' hp2).mono ?_
    rintro v w3 ⟨rfl, rfl⟩
    have hE : Ext (· = wb) w w2.drew := (he1.transN he2).drew
    by_cases h : part <+: k.drop j
    · refine xifF (by rw [decide_eq_true h]; rfl) ?_
      have hl := h.length_le
      rw [List.length_drop] at hl
      refine hw2.drew.ld (v := .int .i64 j) rfl ?_
      refine hp2.len ?_
      refine xi (r := ((j + part.length : Nat) : Int)) (by rw [wrapI (by omega)]; omega) ?_
      refine hw2.drew.st (o := 2) (by simp) rfl fun w4 hw4 hz4 he4 => ?_
      exact ⟨hE.transS he4, .inr (.inr ⟨by simp, h, rfl, hw4⟩)⟩
    · refine xifT (by rw [decide_eq_false h]; rfl) ⟨hE, .inr (.inl ⟨by simp, h, rfl, hw2.drew⟩)⟩
theorem c_WEnds (hw : Blk w wb [t.v, vk, .int .i64 j, .int .i64 s] T_find_walk) (hk : Bs w vk k) : Ret P n_find_walk_ends [rp wb] w fun v w' => v = .bool (decide (j = k.length)) ∧ Ext No w w' := by
  refine W_find_walk_ends ?_
  refine hw.drew.ld (v := .int .i64 j) rfl ?_
  refine hw.drew.ld (v := vk) rfl ?_
  refine hk.len ?_
  refine ⟨?_, (Ext.refl No w).drew⟩
  by_cases h : j = k.length
  · simp [h]
  · rw [decide_eq_false h]
    simp
    omega
theorem c_WDown (hw : Blk w wb [t.v, vk, .int .i64 j, .int .i64 s] T_find_walk) (ht : Tree w t) (hk : Bs w vk k) {c : UInt8} {r : Key} (hc : k.drop j = c :: r) (hkl : k.length ≤ 4611686018427387904) : Ret P n_find_walk_down [rp wb] w fun v w' =>
    Blk w' wb [(t.kid c).v, vk, .int .i64 (j + 1 : Nat), .int .i64 s] T_find_walk ∧ Ext (· = wb) w w' := by
  have hjl : j < k.length := by
    have := congrArg List.length hc
    simp at this
    omega
  have hkc : k[j] = c := by
    have := congrArg (·[0]?) hc
    simp at this
    rw [List.getElem?_eq_getElem hjl] at this
    simpa using this
  refine W_find_walk_down ?_
  refine hw.drew.ld (v := t.v) rfl ?_
  refine hw.drew.ld (v := vk) rfl ?_
  refine hw.drew.ld (v := .int .i64 j) rfl ?_
  refine (hk.extN (Ext.refl No w).drew).rd j hjl rfl ?_
  rw [hkc]
  refine (c_Kid (ht.extN (Ext.refl No w).drew)).mono ?_
  rintro v w1 ⟨rfl, he1⟩
  have hw1 := hw.drew.ext he1 fun h => h
  refine hw1.st (o := 0) (by simp) rfl fun w2 hw2 hz2 he2 => ?_
  refine hw2.ld (v := .int .i64 j) rfl ?_
  refine xi (r := ((j + 1 : Nat) : Int)) (by rw [wrapI (by omega)]; omega) ?_
  refine hw2.st (o := 2) (by simp) rfl fun w3 hw3 hz3 he3 => ?_
  exact ⟨hw3, ((he1.undrew.mono fun _ _ h => h.elim).transS he2).transS he3⟩
end
end Go.Proofs.YtbleadagnpckbaaGreatDoor
end
section
namespace Go.Proofs.YtbleadagnpckbaaGreatDoor
open Go Go.RowKit X
set_option linter.unusedSimpArgs false
set_option linter.unusedVariables false
set_option linter.unusedSectionVars false
variable [Floor]

theorem T.get_node {a ow : Nat} {part : Key} {val : Option Nat} {ks : List Nat} {kids : UInt8 → T} {k : Key} : (T.node a ow part val ks kids).get k = if part <+: k then (match k.drop part.length with | [] => val | c :: r => (kids c).get r) else none := by
  show (E.node part val fun c => (kids c).er).get k = _
  rw [E.get]
  split <;> rfl
theorem T.steps_node {a ow : Nat} {part : Key} {val : Option Nat} {ks : List Nat} {kids : UInt8 → T} {k : Key} : (T.node a ow part val ks kids).steps k = if part <+: k then (match k.drop part.length with | [] => 1 | c :: r => (kids c).steps r + 1) else 1 := by
  show (E.node part val fun c => (kids c).er).steps k = _
  rw [E.steps]
  split <;> rfl
theorem E.steps_le : ∀ (e : E) (k : Key), e.steps k ≤ k.length + 1 := by
  intro e
  induction e with
  | nil => intro k; simp [E.steps]
  | node part val kids ih =>
    intro k
    rw [E.steps]
    split
    · split
      · omega
      · rename_i h c r hd
        have := congrArg List.length hd
        simp at this
        have := ih c r
        omega
    · omega
section
variable {w : World} {t : T} {vk : Value} {k : Key}
theorem c_Get (hfl : Floor.n ≤ w.heap.size) (ht : Tree w t) (hk : Bs w vk k) (hkl : k.length ≤ 4611686018427387000) : Ret P n_find_Get [t.v, vk] w fun v w' => v = valV (t.get k) ∧ Ext No w w' := by
  refine W_find_Get ?_
  obtain ⟨ka, kc, rfl⟩ := hk.slice
  refine xnew fun wb w1 hb hblk hz he => ?_
  have hf : Floor.n ≤ wb := by omega
  have hk1 := hk.extN he
  have ht1 := ht.extN he
  refine xloop (fun nn vs w' => ∃ (u : T) (j s : Nat) (x y : Value), vs = [x, y] ∧ Blk w' wb [u.v, .slice ka k.length kc, .int .i64 j, .int .i64 s] T_find_walk ∧ Tree w' u ∧ Bs w' (.slice ka k.length kc) k ∧ j ≤ k.length ∧ s ≤ j ∧ nn = k.length - j ∧ t.get k = u.get (k.drop j) ∧ Ext No w w') k.length
    ⟨t, 0, 0, _, _, rfl, hblk, ht1, hk1, by omega, by omega, rfl, rfl, he⟩ ?_
  rintro nn vs g w2 ⟨u, j, s, x, y, rfl, hw, hu, hk2, hj, hs, rfl, hget, hE⟩
  refine (c_WInto hf hw hu hk2 hj (by omega) (by omega)).mono ?_
  rintro v w3 ⟨he3, ⟨rfl, rfl, rfl⟩ | ⟨hn, hp, rfl, hw3⟩ | ⟨hn, hp, rfl, hw3⟩⟩
  · refine xifF rfl ⟨?_, hE⟩
    rw [hget]; rfl
  · refine xifF rfl ⟨?_, hE.trans1 he3 (by omega)⟩
    cases u with
    | nil => exact absurd rfl hn
    | node a ow part val ks kids =>
      have hp : ¬ part <+: k.drop j := hp
      rw [hget, T.get_node, if_neg hp]
      rfl
  · refine xifT rfl ?_
    have hE3 := hE.trans1 he3 (by omega)
    have hu3 := hu.ext1 he3 hw oth_walk hf
    have hk3 := hk2.ext1 he3 hw oth_walk hf
    cases u with
    | nil => exact absurd rfl hn
    | node a ow part val ks kids =>
      have hp : part <+: k.drop j := hp
      have hl := hp.length_le
      rw [List.length_drop] at hl
      have hl : part.length ≤ k.length - j := hl
      rw [T.get_node, if_pos hp, List.drop_drop] at hget
      refine (c_WEnds hw3 hk3).mono ?_
      rintro v w4 ⟨rfl, he4⟩
      have hw4 := hw3.ext he4 fun h => h
      have hu4 := hu3.extN he4
      have hk4 := hk3.extN he4
      refine xifD (fun he => ?_) fun hne => ?_
      · have he : j + part.length = k.length := he
        refine hw4.ld (v := (T.node a ow part val ks kids).v) rfl ?_
        refine (c_Val hu4).mono ?_
        rintro v w5 ⟨rfl, rfl⟩
        rw [List.drop_eq_nil_of_le (by omega)] at hget
        exact ⟨by rw [hget]; rfl, hE3.transN he4⟩
      · have hne : j + part.length ≠ k.length := hne
        cases hd : k.drop (j + part.length) with
        | nil =>
          have := congrArg List.length hd
          simp at this
          omega
        | cons c r =>
          rw [hd] at hget
          refine (c_WDown (c := c) (r := r) hw4 hu4 hk4 hd (by omega)).mono ?_
          rintro v w5 ⟨hw5, he5⟩
          have hr : k.drop (j + part.length + 1) = r := by
            rw [← List.drop_drop, hd]; rfl
          refine xnext (k.length - (j + part.length + 1)) (by omega) ⟨kids c, j + part.length + 1, s + 1, _, _, rfl, hw5, (hu4.kid c).ext1 he5 hw4 oth_walk hf, hk4.ext1 he5 hw4 oth_walk hf, by omega, by omega, rfl, by rw [hget, hr], (hE3.transN he4).trans1 he5 (by omega)⟩
theorem c_Has (hfl : Floor.n ≤ w.heap.size) (ht : Tree w t) (hk : Bs w vk k) (hkl : k.length ≤ 4611686018427387000) : Ret P n_find_Has [t.v, vk] w fun v w' => v = .bool (t.get k).isSome ∧ Ext No w w' := by
  refine W_find_Has ?_
  refine (c_Get hfl ht hk hkl).mono ?_
  rintro v w' ⟨rfl, he⟩
  exact ⟨rfl, he⟩
theorem X.xfunc {f : FuncId} {first captured : Array Value} {args : List Value} {K : FuncId → List Value → Prop} (h : K f (first.toList ++ args ++ captured.toList)) : xFunc (.func (.func f) first captured) args K := h
theorem X.xcall_ret {P : Program} {f : FuncId} {args : List Value} {w : World} {K : Value → World → Prop} (hb : bodied P f = true) (h : Ret P f args w K) : xCall P f args w K := by
  unfold xCall
  rw [hb]
  exact h
set_option maxRecDepth 100000 in
theorem c_Steps (hfl : Floor.n ≤ w.heap.size) (ht : Tree w t) (hk : Bs w vk k) (hkl : k.length ≤ 4611686018427387000) : Ret P n_find_Steps [t.v, vk] w fun v w' => v = .int .i64 (t.steps k) ∧ Ext No w w' := by
  refine W_find_Steps ?_
  refine W_find_each ?_
  obtain ⟨ka, kc, rfl⟩ := hk.slice
  refine xnew fun wb w1 hb hblk hz he => ?_
  have hf : Floor.n ≤ wb := by omega
  have hk1 := hk.extN he
  have ht1 := ht.extN he
  refine xj (fun vs w' => ∃ (u : T) (j : Nat), Blk w' wb [u.v, .slice ka k.length kc, .int .i64 j, .int .i64 (t.steps k)] T_find_walk ∧ Ext No w w') ?_ ?_
  · refine xloop (fun nn vs w' => ∃ (u : T) (j s : Nat) (x y : Value), vs = [x, y] ∧ Blk w' wb [u.v, .slice ka k.length kc, .int .i64 j, .int .i64 s] T_find_walk ∧ Tree w' u ∧ Bs w' (.slice ka k.length kc) k ∧ j ≤ k.length ∧ s ≤ j ∧ nn = k.length - j ∧ t.steps k = s + u.steps (k.drop j) ∧ Ext No w w') k.length
      ⟨t, 0, 0, _, _, rfl, hblk, ht1, hk1, by omega, by omega, rfl, by simp, he⟩ ?_
    rintro nn vs g w2 ⟨u, j, s, x, y, rfl, hw, hu, hk2, hj, hs, rfl, hget, hE⟩
    refine (c_WInto hf hw hu hk2 hj (by omega) (by omega)).mono ?_
    rintro v w3 ⟨he3, ⟨rfl, rfl, rfl⟩ | ⟨hn, hp, rfl, hw3⟩ | ⟨hn, hp, rfl, hw3⟩⟩
    · refine xifF rfl ⟨.nil, j, ?_, hE⟩
      rw [hget]; exact hw
    · refine xifF rfl ⟨u, j, ?_, hE.trans1 he3 (by omega)⟩
      cases u with
      | nil => exact absurd rfl hn
      | node a ow part val ks kids =>
        have hp : ¬ part <+: k.drop j := hp
        rw [hget, T.steps_node, if_neg hp]
        exact hw3
    · refine xifT rfl ?_
      have hE3 := hE.trans1 he3 (by omega)
      have hu3 := hu.ext1 he3 hw oth_walk hf
      have hk3 := hk2.ext1 he3 hw oth_walk hf
      cases u with
      | nil => exact absurd rfl hn
      | node a ow part val ks kids =>
        have hp : part <+: k.drop j := hp
        have hl := hp.length_le
        rw [List.length_drop] at hl
        have hw3 : Blk w3 wb [(T.node a ow part val ks kids).v, .slice ka k.length kc, .int .i64 (j + part.length : Nat), .int .i64 (s + 1 : Nat)] T_find_walk := hw3
        rw [T.steps_node, if_pos hp, List.drop_drop] at hget
        refine xj (fun vs w' => ∃ x y, vs = [x, y] ∧ w' = w3) ?_ ?_
        · refine hw3.ld (v := (T.node a ow part val ks kids).v) rfl ?_
          refine (c_Val hu3).mono ?_
          rintro v w4 ⟨rfl, rfl⟩
          cases val with
          | none => exact xifF rfl ⟨_, _, rfl, rfl⟩
          | some n =>
            refine xifT rfl ?_
            refine hw3.ld (v := .int .i64 (j + part.length : Nat)) rfl ?_
            refine xfunc ?_
            refine xcall_ret (by kernel_rfl) ?_
            refine W_find_Steps_1 ?_
            exact ⟨_, _, rfl, rfl⟩
        · rintro vs g w' ⟨x, y, rfl, rfl⟩
          refine (c_WEnds hw3 hk3).mono ?_
          rintro v w4 ⟨rfl, he4⟩
          have hw4 := hw3.ext he4 fun h => h
          have hu4 := hu3.extN he4
          have hk4 := hk3.extN he4
          refine xifD (fun he => ?_) fun hne => ?_
          · rw [List.drop_eq_nil_of_le (by omega)] at hget
            exact ⟨_, _, by rw [hget]; exact hw4, hE3.transN he4⟩
          · cases hd : k.drop (j + part.length) with
            | nil =>
              have := congrArg List.length hd
              simp at this
              omega
            | cons c r =>
              rw [hd] at hget
              have hget : t.steps k = s + ((kids c).steps r + 1) := hget
              refine (c_WDown (c := c) (r := r) hw4 hu4 hk4 hd (by omega)).mono ?_
              rintro v w5 ⟨hw5, he5⟩
              have hr : k.drop (j + part.length + 1) = r := by
                rw [← List.drop_drop, hd]; rfl
              refine xnext (k.length - (j + part.length + 1)) (by omega) ⟨kids c, j + part.length + 1, s + 1, _, _, rfl, hw5, (hu4.kid c).ext1 he5 hw4 oth_walk hf, hk4.ext1 he5 hw4 oth_walk hf, by omega, by omega, rfl, by rw [hget, hr]; omega, (hE3.transN he4).trans1 he5 (by omega)⟩
  · rintro vs g w2 ⟨u, j, hw, hE⟩
    exact hw.ld (v := .int .i64 (t.steps k)) rfl ⟨rfl, hE⟩
end
end Go.Proofs.YtbleadagnpckbaaGreatDoor
end
