/-  union: the recursion; one tree under the other.  -/
import Derived.Test.YtbgfmgkimccbeaaGreatDoorUni
section
namespace Go.Proofs.YtbgfmgkimccbeaaGreatDoor
open Go Go.RowKit X
set_option linter.unusedSimpArgs false
set_option linter.unusedVariables false
set_option linter.unusedSectionVars false
variable [Floor]
/-- what two trees together are -/
structure UR (w w' : World) (p : Nat) (a b : T) (oa ob : Nat) (t' : T) (mt : Option Mtr) (n n' : Nat) : Prop where
  tree : Tree w' t'
  cnt : Mt w' mt n'
  ext : Ext (MX mt) w w'
  all : ∀ c, t'.All c → a.All c ∨ b.All c ∨ w.heap.size ≤ c
  leafy : t'.Leafy
  can : Can t'.er (fun k => mergeO p ((offE oa a.er).get k) ((offE ob b.er).get k))
  idle : oa = 0 → (∀ k, mergeO p (a.er.get k) ((offE ob b.er).get k) = a.er.get k) → t'.ptr = a.ptr ∧ n' = n
theorem UR.from' {w w1 w2 : World} {p oa ob n n' : Nat} {a b t' : T} {mt : Option Mtr} (he : Ext No w w1) (h : UR w1 w2 p a b oa ob t' mt n n') : UR w w2 p a b oa ob t' mt n n' :=
  ⟨h.tree, h.cnt, (he.mono fun _ _ h => h.elim).transS h.ext, fun c hc => (h.all c hc).imp id (Or.imp id fun h => by have := he.size; omega), h.leafy, h.can, h.idle⟩
/-- a tree that may be put together with another -/
structure Go1 (w : World) (a : T) (oa : Nat) : Prop where
  tree : Tree w a
  fine : a.er.Fine
  leafy : a.Leafy
  long : a.er.long ≤ 100000
  off : oa ≤ a.part.length
theorem Go1.extN {w w' : World} {a : T} {oa : Nat} (h : Go1 w a oa) (e : Ext No w w') : Go1 w' a oa := ⟨h.tree.extN e, h.fine, h.leafy, h.long, h.off⟩
theorem Go1.extM {w w' : World} {a : T} {oa n : Nat} {mt : Option Mtr} (h : Go1 w a oa) (hm : Mt w mt n) (e : Ext (MX mt) w w') : Go1 w' a oa := ⟨h.tree.extM hm e, h.fine, h.leafy, h.long, h.off⟩
def OfS (p o : Nat) (mt : Option Mtr) (M : Nat) : Prop := ∀ {w : World} {a b : T} {oa ob n : Nat}, (a.er.long + 1 - oa) + (b.er.long + 1 - ob) < M → Go1 w a oa → Go1 w b ob → Mt w mt n →
  Ret P n_union_joiner_of [joiV p o mt, endV a oa, endV b ob] w fun r w' => ∃ t' n', r = t'.v ∧ UR w w' p a b oa ob t' mt n n'
/-- what comes of the kid under which the lower tree goes -/
structure KR (w w' : World) (kid low t2 : T) (mt : Option Mtr) (n2 : Nat) : Prop where
  tree : Tree w' t2
  cnt : Mt w' mt n2
  ext : Ext (MX mt) w w'
  all : ∀ c, t2.All c → kid.All c ∨ low.All c ∨ w.heap.size ≤ c
  leafy : t2.Leafy
  some : t2 ≠ .nil
section
variable {w : World} {a ow o p n ou jb ub kb fb sb : Nat} {part : Key} {val : Option Nat} {ks : List Nat} {kids : UInt8 → T} {mt : Option Mtr} {c : UInt8} {low : T} {v1 v2 : Value} {G : T → Nat → Prop}
theorem updE_id (k : UInt8 → E) (c : UInt8) : updE k c (k c) = k := by
  funext d
  by_cases h : d = c
  · subst h; rw [updE_same]
  · rw [updE_other _ _ h]
theorem c_uTail (ht : Tree w (.node a ow part val ks kids)) (hl : (T.node a ow part val ks kids).Leafy) (hks : ks ≠ []) (hm : Mt w mt n) (ho : o ≠ 0) (hou : ou ≤ part.length) (hlow : ∀ x, low.All x → x < w.heap.size)
    (hj : Blk w jb (joiC p o mt) T_union_joiner) (hu : Blk w ub [(T.node a ow part val ks kids).v, .int .i64 ou] T_union_end) (hk : Blk w kb [(kids c).v, .int .i64 0] T_union_end)
    (hf : Blk w fb [v1, .int .i64 0] T_union_end ∨ True)
    {K : Value → World → Prop} (hKK : ∀ r w', (∃ t' n' t2 n2, r = t'.v ∧ G t2 n2 ∧ Tree w' t' ∧ Mt w' mt n' ∧ Ext (MX mt) w w' ∧ t'.Leafy ∧ (∀ x, t'.All x → (T.node a ow part val ks kids).All x ∨ low.All x ∨ w.heap.size ≤ x) ∧ t'.er = .node (part.drop ou) val (updE (fun d => (kids d).er) c t2.er) ∧ (ou = 0 → t2.ptr = (kids c).ptr → n2 = n → t'.ptr = some ⟨a, 0, none⟩ ∧ n' = n)) → K r w')
    (hof : Ret P n_union_joiner_of [joiV p o mt, v1, v2] w fun r w' => ∃ t2 n2, r = t2.v ∧ KR w w' (kids c) low t2 mt n2 ∧ G t2 n2) :
    Ret P n_union_joiner_of [joiV p o mt, v1, v2] w fun v1056 w1057 =>
      XLd w1057 ((⟨kb, 0, none⟩ : Addr).add 0) fun v1058 =>
      xPEq P w1057 v1056 v1058 fun v1059 =>
      xIf v1059 (XLdN w1057 ⟨jb, 0, none⟩ 4 fun v1060 =>
      XLdN w1057 ⟨ub, 0, none⟩ 2 fun v1061 =>
      Ret P n_union_joiner_whole [v1060, v1061] w1057 fun r w' => K r w') (XLdN w1057 ⟨jb, 0, none⟩ 4 fun v1064 =>
      XLdN w1057 ⟨ub, 0, none⟩ 2 fun v1065 =>
      Ret P n_union_joiner_copy [v1064, v1065] w1057 fun v1066 w1067 =>
      XLd w1067 ((⟨jb, 0, none⟩ : Addr).add 2) fun v1068 =>
      Ret P n_node_Node_SetKid [v1066, v1068, bv c, v1056] w1067 fun _ w' => K v1066 w') := by
  refine hof.mono ?_
  rintro _ w1 ⟨t2, n2, rfl, hK, hG⟩
  have hj1 := hj.ext hK.ext (hm.ne hj (by decide))
  have hu1 := hu.ext hK.ext (hm.ne hu (by decide))
  have hk1 := hk.ext hK.ext (hm.ne hk (by decide))
  have ht1 := ht.extM hm hK.ext
  have hz1 := hK.ext.size
  refine hk1.ld (v := (kids c).v) rfl ?_
  obtain ⟨a2, ow2, p2, v2', ks2, kids2, ht2e⟩ : ∃ a ow p v ks k, t2 = .node a ow p v ks k := by
    cases h : t2 with
    | nil => exact absurd h hK.some
    | node => exact ⟨_, _, _, _, _, _, rfl⟩
  have hp2 : t2.ptr = some ⟨a2, 0, none⟩ := by rw [ht2e]; rfl
  have hv2 : t2.v = rp a2 := by show Value.pointer t2.ptr = _; rw [hp2]
  have hall : ∀ x, t2.All x → (T.node a ow part val ks kids).All x ∨ low.All x ∨ w.heap.size ≤ x := fun x hx => by
    rcases hK.all x hx with h | h
    · exact .inl (.inr ⟨c, h⟩)
    · exact .inr h
  have eqC : t2.ptr = (kids c).ptr → XLdN w1 ⟨jb, 0, none⟩ 4 fun v1060 => XLdN w1 ⟨ub, 0, none⟩ 2 fun v1061 => Ret P n_union_joiner_whole [v1060, v1061] w1 fun r w' => K r w' := fun e => by
    refine hj1.ldA rfl ?_
    refine hu1.ldA rfl ?_
    have her := Tree.inj hK.tree (ht1.2 c) e
    refine (c_whole (p := p) ht1 hK.cnt ho hou).mono ?_
    rintro _ w2 ⟨t', n', rfl, htr, hero, hlf, ha', hm2, -, hz, he2⟩
    refine hKK _ _ ⟨t', n', t2, n2, rfl, hG, htr, hm2, hK.ext.transS he2, hlf hl, fun x hx => (ha' x hx).imp id fun h => .inr (by omega), ?_, fun h0 _ hn => ?_⟩
    · rw [hero, her]
      show _ = E.node (part.drop ou) val (updE (fun d => (kids d).er) c ((fun d => (kids d).er) c))
      rw [updE_id]
      rfl
    · obtain ⟨rfl, rfl⟩ := hz h0
      exact ⟨rfl, hn⟩
  have neC : t2.ptr ≠ (kids c).ptr → XLdN w1 ⟨jb, 0, none⟩ 4 fun v1064 => XLdN w1 ⟨ub, 0, none⟩ 2 fun v1065 => Ret P n_union_joiner_copy [v1064, v1065] w1 fun v1066 w1067 => XLd w1067 ⟨jb, 2, none⟩ fun v1068 => Ret P n_node_Node_SetKid [v1066, v1068, bv c, t2.v] w1067 fun _ w' => K v1066 w' := fun e => by
    refine hj1.ldA rfl ?_
    refine hu1.ldA rfl ?_
    refine (c_uCopy (p := p) ht1 hK.cnt ho hou).mono ?_
    rintro _ w2 ⟨u, uks, rfl, htr, hiff, hfr, hm2, he2⟩
    have hj2 := hj1.ext he2 (hK.cnt.ne hj1 (by decide))
    refine hj2.ld (v := .int .u64 o) rfl ?_
    have hF : FN w1 w2 u o (part.drop ou) val uks kids mt (n2 + 1) := ⟨htr, hfr, fun d x hx hn => by have := hfr x hn; have := (ht1.2 d).lt hx; omega, hm2, he2⟩
    have ht2 := hK.tree.extM hK.cnt he2
    rw [hv2]
    refine (c_FKid hF ho (fun h => hks (hiff.1 h)) hp2 ht2 fun x hx hn => by have := hfr x hn; have := hK.tree.lt hx; omega).mono ?_
    rintro _ w3 ⟨uks', hF3, hne3, he3, hNX⟩
    refine hKK _ _ ⟨.node u o (part.drop ou) val uks' (updT kids c t2), n2 + 1, t2, n2, rfl, hG, hF3.tree, hF3.cnt, hK.ext.transS hF3.ext, ⟨iff_of_false hne3 (updT_cnt (by rw [hp2]; rfl)), fun d => ?_⟩, fun x hx => ?_, ?_, fun _ h _ => absurd h e⟩
    · unfold updT; split
      · exact hK.leafy
      · exact hl.2 d
    · rcases hx with hx | ⟨d, hx⟩
      · exact .inr (.inr (by have := hF3.fresh x hx; omega))
      · unfold updT at hx; split at hx
        · exact hall x hx
        · exact .inl (.inr ⟨d, hx⟩)
    · show E.node (part.drop ou) val (fun d => (updT kids c t2 d).er) = _
      rw [updT_er]
  show xPtrs P w1 (.pointer t2.ptr) (.pointer (kids c).ptr) _
  have hb1 : ∀ a1, (kids c).ptr = some ⟨a1, 0, none⟩ → ∃ cs T, Blk w1 a1 cs T := fun a1 h => by
    have h1 := ht1.2 c
    cases hkc : kids c with
    | nil => rw [hkc] at h; cases h
    | node a3 ow3 p3 v3 ks3 kids3 =>
      rw [hkc] at h h1
      obtain rfl : a3 = a1 := by simpa [T.ptr] using h
      obtain ⟨pv, hb, -⟩ := h1.1.blk
      exact ⟨_, _, hb⟩
  have hb2 : ∃ cs T, Blk w1 a2 cs T := by
    have := hK.tree
    rw [ht2e] at this
    obtain ⟨pv, hb, -⟩ := this.1.blk
    exact ⟨_, _, hb⟩
  have hpk : (kids c).ptr = none ∨ ∃ a1, (kids c).ptr = some ⟨a1, 0, none⟩ := by
    cases kids c with
    | nil => exact .inl rfl
    | node a3 => exact .inr ⟨a3, rfl⟩
  generalize (kids c).ptr = q at eqC neC hb1 hpk ⊢
  rw [hp2] at eqC neC ⊢
  obtain ⟨cs2, T2, hb2⟩ := hb2
  rcases hpk with rfl | ⟨a1, rfl⟩
  · refine xifF rfl ?_
    exact neC (by simp)
  · obtain ⟨cs1, T1, hb1⟩ := hb1 a1 rfl
    show XSame P w1 ⟨a2, 0, none⟩ ⟨a1, 0, none⟩ _
    by_cases e : a2 = a1
    · subst e
      refine xsame (run_sameAddr_same _ _) ?_
      exact xifT rfl (eqC rfl)
    · refine xsame (run_sameAddr_other _ (by simp [e]) hb2.h hb1.h) ?_
      exact xifF rfl (neC (by simp [e]))
end
end Go.Proofs.YtbgfmgkimccbeaaGreatDoor
end
section
namespace Go.Proofs.YtbgfmgkimccbeaaGreatDoor
open Go Go.RowKit X
set_option linter.unusedSimpArgs false
set_option linter.unusedVariables false
set_option linter.unusedSectionVars false
variable [Floor]
theorem xkeepU {w : World} {b o : Nat} {cs : List Value} {T : TypeId} {v : Value} (h : Blk w b cs T) (hv : cs[o]? = some v) : xKeep1 w (.pointer (some ((⟨b, 0, none⟩ : Addr).add o))) v := by
  show w.cell? ((⟨b, 0, none⟩ : Addr).add o) = some v
  rw [Addr.add_lit, h.cell, Nat.zero_add, hv]
theorem xkeepN2 {w : World} {b : Nat} {x y : Value} {T : TypeId} (h : Blk w b [x, y] T) : xKeepN w (.pointer (some ⟨b, 0, none⟩)) (.agg #[x, y]) := by
  show ∀ i, i < (#[x, y] : Array Value).size → w.cell? ((⟨b, 0, none⟩ : Addr).add i) = (#[x, y] : Array Value)[i]?
  intro i hi
  rw [Addr.add_lit, h.cell, Nat.zero_add]
  have : i = 0 ∨ i = 1 := by simp at hi; omega
  rcases this with rfl | rfl <;> rfl
section
variable {w : World} {a ow o p n ou ol : Nat} {part : Key} {val : Option Nat} {ks : List Nat} {kids : UInt8 → T} {mt : Option Mtr} {y : UInt8} {low : T} {turned : Bool}
/-- what 'under' makes, as a tree -/
structure DR (w w' : World) (up low : T) (ou ol : Nat) (y : UInt8) (p : Nat) (turned : Bool) (t' : T) (mt : Option Mtr) (n n' : Nat) : Prop where
  tree : Tree w' t'
  cnt : Mt w' mt n'
  ext : Ext (MX mt) w w'
  all : ∀ c, t'.All c → up.All c ∨ low.All c ∨ w.heap.size ≤ c
  leafy : t'.Leafy
  er : ∃ e2 : E, t'.er = .node (up.part.drop ou) up.val (updE (fun d => (up.kid d).er) y e2) ∧ Can e2 (fun r => if turned then mergeO p ((offE ol low.er).get r) ((up.kid y).er.get r) else mergeO p ((up.kid y).er.get r) ((offE ol low.er).get r))
  idle : turned = false → ou = 0 → (∀ r, mergeO p ((up.kid y).er.get r) ((offE ol low.er).get r) = (up.kid y).er.get r) → t'.ptr = up.ptr ∧ n' = n
theorem low_some {low : T} {ol : Nat} (h : low ≠ .nil) (hf : low.er.Fine) : ∃ k v, (offE ol low.er).get k = some v := by
  refine (offE_fine hf).some_key fun e => ?_
  cases low with
  | nil => exact h rfl
  | node => cases e
/-- up is a leaf -/
theorem c_uUnderLeaf (hup : Go1 w (.node a ow part val [] kids) ou) (hlow : Go1 w low ol) (hln : low ≠ .nil) (hm : Mt w mt n) (ho : o ≠ 0) :
    Ret P n_union_joiner_under [joiV p o mt, endV (.node a ow part val [] kids) ou, bv y, endV low ol, .bool turned] w fun r w' => ∃ t' n', r = t'.v ∧ DR w w' (.node a ow part val [] kids) low ou ol y p turned t' mt n n' := by
  have hkids := Tree.kids_nil hup.leafy rfl
  subst hkids
  obtain ⟨v0, rfl⟩ : ∃ v0, val = some v0 := by
    have h := hup.fine.1
    rw [if_pos (by show cnt _ = 0; simp [cnt, dom_none, T.er, E.opt])] at h
    exact Option.isSome_iff_exists.1 h
  have hv0 := hup.tree.1.v64 v0 rfl
  have hshort := hup.tree.1.short
  refine W_union_joiner_under ?_
  refine xnew fun jb w1 hjb hj hz1 he1 => ?_
  have hj : Blk w1 jb (joiC p o mt) T_union_joiner := hj
  refine xnew fun ub w2 hub hU hz2 he2 => ?_
  have hU : Blk w2 ub [(T.node a ow part (some v0) [] fun _ => .nil).v, .int .i64 ou] T_union_end := hU
  refine xnew fun lb w3 hlb hL hz3 he3 => ?_
  have hL : Blk w3 lb [low.v, .int .i64 ol] T_union_end := hL
  have hj3 := (hj.ext he2 fun h => h).ext he3 fun h => h
  have hU3 := hU.ext he3 fun h => h
  have hE3 := (he1.transN he2).transN he3
  refine hU3.ldA rfl ?_
  refine (c_endLeaf (off := ou) (hup.tree.extN hE3)).mono ?_
  rintro _ w4 ⟨rfl, he4⟩
  have hE4 := hE3.transN he4
  refine xifT rfl ?_
  have hd4 := Ext.drew (Ext.refl No w4)
  have hE4d := hE4.transN hd4
  have hj4 := (hj3.ext he4 fun h => h).drew
  have hU4 := (hU3.ext he4 fun h => h).drew
  have hL4 := (hL.ext he4 fun h => h).drew
  refine hj4.ld (v := mv mt) rfl ?_
  refine hj4.ld (v := .int .u64 o) rfl ?_
  refine hU4.ldA rfl ?_
  refine (c_endPart (off := ou) (hup.tree.extN hE4d) hup.off).mono ?_
  rintro pv w5 ⟨hpv, he5⟩
  have hpv : Bs w5 pv (part.drop ou) := hpv
  have hj5 := hj4.ext he5 fun h => h
  have hU5 := hU4.ext he5 fun h => h
  have hL5 := hL4.ext he5 fun h => h
  have hE5 := hE4d.transN he5
  have hm5 := hm.extN hE5
  refine ⟨xkeepU hj5 rfl, xkeepU hj5 rfl, ?_⟩
  refine (c_Inner (ow := o) hm5 hpv (by rw [List.length_drop]; omega)).mono ?_
  rintro _ w6 ⟨u, uks, rfl, hna, hne, hfr, hm6, he6⟩
  have hF6 : FN w5 w6 u o (part.drop ou) none uks (fun _ => .nil) mt (n + 1) := ⟨⟨hna, fun _ => trivial⟩, hfr, fun c b h => h.elim, hm6, he6⟩
  have hj6 := hj5.ext he6 (hm5.ne hj5 (by decide))
  have hU6 := hU5.ext he6 (hm5.ne hU5 (by decide))
  have hL6 := hL5.ext he6 (hm5.ne hL5 (by decide))
  refine hU6.ld (v := (T.node a ow part (some v0) [] fun _ => .nil).v) rfl ?_
  refine (c_Val (((hup.tree.extN hE5)).extM hm5 he6)).mono ?_
  rintro _ w7 ⟨rfl, rfl⟩
  refine hj6.ld (v := .int .u64 o) rfl ?_
  refine (c_FVal hF6 ho hv0).mono ?_
  rintro _ w8 ⟨hF8, he8⟩
  have hfu := hfr u (.inl rfl)
  have hjlt := hj5.lt
  have hLlt := hL5.lt
  have hj8 := (hj6.ext he8 (by show ¬ jb = u; omega)).drew
  have hL8 := (hL6.ext he8 (by show ¬ lb = u; omega)).drew
  have hd8 := Ext.drew (Ext.refl No w8)
  have hF8' := hF8.extN hd8
  have hE8 : Ext (MX mt) w w8.drew := (hE5.mono fun _ _ h => h.elim).transS hF8'.ext
  refine hj8.ld (v := .int .u64 o) rfl ?_
  refine hj8.ldA rfl ?_
  refine hL8.ldA rfl ?_
  refine (c_whole (p := p) (hlow.tree.extM hm hE8) hF8'.cnt ho hlow.off).mono ?_
  rintro _ w9 ⟨tl, n9, rfl, htl, herl, hll, halll, hm9, -, -, he9⟩
  have hF9 := hF8'.go he9 hm9
  have hj9 := hj8.ext he9 (hF8'.cnt.ne hj8 (by decide))
  obtain ⟨a2, hpl⟩ := offE_node hln herl
  have hvl : tl.v = rp a2 := by show Value.pointer tl.ptr = _; rw [hpl]
  have hz5 := hE5.size
  have hdl : ∀ c, tl.All c → ¬ NX u uks c := fun c hc hx => by
    have h1 := hF8'.fresh c hx
    have h2 := hF8'.lt hx
    rcases halll c hc with h | h
    · have := hlow.tree.lt h; omega
    · omega
  refine ⟨xkeepU hj9 rfl, ?_⟩
  rw [hvl]
  refine (c_FKid hF9 ho hne hpl htl hdl).mono ?_
  rintro _ w10 ⟨uks', hF10, hne', -, -⟩
  have hz8 := hE8.size
  refine ⟨.node u o (part.drop ou) (some v0) uks' (updT (fun _ => .nil) y tl), n9, rfl, hF10.tree, hF10.cnt, (hE5.mono fun _ _ h => h.elim).transS hF10.ext, fun c hc => ?_, ⟨iff_of_false hne' (updT_cnt (by rw [hpl]; rfl)), fun d => ?_⟩, ⟨offE ol low.er, ?_, ?_⟩, fun _ _ h => ?_⟩
  · rcases hc with hc | ⟨d, hc⟩
    · exact .inr (.inr (by have := hF10.fresh c hc; omega))
    · unfold updT at hc; split at hc
      · rcases halll c hc with h | h
        · exact .inr (.inl h)
        · exact .inr (.inr (by omega))
      · exact hc.elim
  · unfold updT; split
    · exact hll hlow.leafy
    · trivial
  · show E.node (part.drop ou) (some v0) (fun d => (updT (fun _ => .nil) y tl d).er) = _
    rw [updT_er, herl]
    rfl
  · refine ⟨offE_fine hlow.fine, fun r => ?_⟩
    show _ = if turned = true then mergeO p ((offE ol low.er).get r) none else mergeO p none ((offE ol low.er).get r)
    rw [merge_none]
    split <;> rfl
  · obtain ⟨k, v, hkv⟩ := low_some (ol := ol) hln hlow.fine
    have := h k
    rw [hkv] at this
    cases this
end
end Go.Proofs.YtbgfmgkimccbeaaGreatDoor
end
section
namespace Go.Proofs.YtbgfmgkimccbeaaGreatDoor
open Go Go.RowKit X
set_option linter.unusedSimpArgs false
set_option linter.unusedVariables false
set_option linter.unusedSectionVars false
variable [Floor]
section
variable {w : World} {a ow o p n ou ol : Nat} {part : Key} {val : Option Nat} {ks : List Nat} {kids : UInt8 → T} {mt : Option Mtr} {y : UInt8} {low : T} {turned : Bool}
set_option maxHeartbeats 1000000 in
/-- up is no leaf -/
theorem c_uUnderNode {M : Nat} (hI : OfS p o mt M) (hup : Go1 w (.node a ow part val ks kids) ou) (hks : ks ≠ []) (hlow : Go1 w low ol) (hln : low ≠ .nil) (hm : Mt w mt n) (ho : o ≠ 0) (hM : ((T.node a ow part val ks kids).er.long + 1 - ou) + (low.er.long + 1 - ol) ≤ M) :
    Ret P n_union_joiner_under [joiV p o mt, endV (.node a ow part val ks kids) ou, bv y, endV low ol, .bool turned] w fun r w' => ∃ t' n', r = t'.v ∧ DR w w' (.node a ow part val ks kids) low ou ol y p turned t' mt n n' := by
  have hkind : (T.node a ow part val ks kids).kind ≠ 1 := by
    show kindV ks (ptrs kids) ≠ 1
    unfold kindV
    rw [if_neg hks]
    intro h
    have := kindN_mem (cnt_le (ptrs kids))
    rw [h] at this
    revert this; decide
  have hoff : ou ≤ part.length := hup.off
  have hlongk : (kids y).er.long + 1 + part.length ≤ (T.node a ow part val ks kids).er.long := by
    have hlong : (T.node a ow part val ks kids).er.long = maxL ((dom (ptrs kids)).map fun c => (kids c).er.long + 1) + part.length := by
      show (E.node part val fun c => (kids c).er).long = _
      rw [E.long_node, dom_er]
    have hcnt : cnt (ptrs kids) ≠ 0 := fun e => hks (hup.leafy.1.2 e)
    obtain ⟨c, hc⟩ : ∃ c, c ∈ dom (ptrs kids) := by
      cases h : dom (ptrs kids) with
      | nil => exact absurd (by unfold cnt; rw [h]; rfl) hcnt
      | cons c r => exact ⟨c, by simp⟩
    have h1 := maxL_le (l := (dom (ptrs kids)).map fun c => (kids c).er.long + 1) (List.mem_map.2 ⟨c, hc, rfl⟩)
    by_cases hy : y ∈ dom (ptrs kids)
    · have := maxL_le (l := (dom (ptrs kids)).map fun c => (kids c).er.long + 1) (List.mem_map.2 ⟨y, hy, rfl⟩)
      omega
    · have : kids y = .nil := by
        cases e : kids y with
        | nil => rfl
        | node => exact absurd (dom_mem.2 (by simp [ptrs, e, T.ptr])) hy
      rw [this]
      show 0 + 1 + part.length ≤ _
      omega
  have hkid : Go1 w (kids y) 0 := ⟨hup.tree.2 y, hup.fine.2 y, hup.leafy.2 y, by have := hup.long; omega, Nat.zero_le _⟩
  refine W_union_joiner_under ?_
  refine xnew fun jb w1 hjb hj hz1 he1 => ?_
  have hj : Blk w1 jb (joiC p o mt) T_union_joiner := hj
  refine xnew fun ub w2 hub hU hz2 he2 => ?_
  have hU : Blk w2 ub [(T.node a ow part val ks kids).v, .int .i64 ou] T_union_end := hU
  refine xnew fun lb w3 hlb hL hz3 he3 => ?_
  have hL : Blk w3 lb [low.v, .int .i64 ol] T_union_end := hL
  have hj3 := (hj.ext he2 fun h => h).ext he3 fun h => h
  have hU3 := hU.ext he3 fun h => h
  have hE3 := (he1.transN he2).transN he3
  refine hU3.ldA rfl ?_
  refine (c_endLeaf (off := ou) (hup.tree.extN hE3)).mono ?_
  rintro _ w4 ⟨rfl, he4⟩
  have hE4 := hE3.transN he4
  refine xifF (beq_eq_false_iff_ne.2 (by omega)) ?_
  have hj4 := hj3.ext he4 fun h => h
  have hU4 := hU3.ext he4 fun h => h
  have hL4 := hL.ext he4 fun h => h
  refine hU4.ldA rfl ?_
  refine (c_endKid (off := ou) (c := y) (hup.tree.extN hE4)).mono ?_
  rintro _ w5 ⟨rfl, he5⟩
  have hE5 := hE4.transN he5
  refine xnew fun kb w6 hkb hK6 hz6 he6 => ?_
  have hK6 : Blk w6 kb [.pointer none, .int .i64 0] T_union_end := hK6
  refine store2 (a := (kids y).v) (b := .int .i64 0) hK6 (by kernel_rfl) rfl rfl fun w7 hK7 hz7 he7 => ?_
  have hs5 := hE5.size
  have hE6 := hE5.transN he6
  have hE7 := hE6.trans1 he7 (by omega)
  have hd := Ext.drew (Ext.refl No w7)
  have hE7d := hE7.transN hd
  have hjb : jb < kb := by have := hj4.lt; have := he5.size; omega
  have hub : ub < kb := by have := hU4.lt; have := he5.size; omega
  have hlb : lb < kb := by have := hL4.lt; have := he5.size; omega
  have hj7 := (((hj4.ext he5 fun h => h).ext he6 fun h => h).ext he7 (by show ¬ jb = kb; omega)).drew
  have hU7 := (((hU4.ext he5 fun h => h).ext he6 fun h => h).ext he7 (by show ¬ ub = kb; omega)).drew
  have hL7 := (((hL4.ext he5 fun h => h).ext he6 fun h => h).ext he7 (by show ¬ lb = kb; omega)).drew
  have hK7d := hK7.drew
  have hkblt := hK7d.lt
  refine hK7d.ldA rfl ?_
  refine hL7.ldA rfl ?_
  have mid : ∀ {w' : World} {fb sb : Nat}, Ext No w7.drew w' → Blk w' fb [.pointer none, .int .i64 0] T_union_end → Blk w' sb [.pointer none, .int .i64 0] T_union_end → fb ≠ sb → w7.drew.heap.size ≤ fb → w7.drew.heap.size ≤ sb →
      XDo P (storeVar T_union_end ⟨fb, 0, none⟩ (.agg #[(kids y).v, .int .i64 0])) w' fun w1043 =>
      xKeepN w1043 (.pointer (some ⟨lb, 0, none⟩)) (.agg #[low.v, .int .i64 ol]) ∧ (XDo P (storeVar T_union_end ⟨sb, 0, none⟩ (.agg #[low.v, .int .i64 ol])) w1043 fun w1044 =>
      XJ (fun J1045 =>
      xIf (.bool turned) (XLdN w1044.drew ⟨lb, 0, none⟩ 2 fun v1049 =>
      XLdN w1044.drew ⟨kb, 0, none⟩ 2 fun v1050 =>
      XDo P (storeVar T_union_end ⟨fb, 0, none⟩ v1049) w1044.drew fun w1051 =>
      xKeepN w1051 (.pointer (some ⟨kb, 0, none⟩)) v1050 ∧ (XDo P (storeVar T_union_end ⟨sb, 0, none⟩ v1050) w1051 fun w1052 =>
      J1045 [] w1052)) (J1045 [] w1044)) fun vs1046 g1047 w1048 =>
      XLdN w1048 ⟨jb, 0, none⟩ 4 fun v1053 =>
      XLdN w1048 ⟨fb, 0, none⟩ 2 fun v1054 =>
      XLdN w1048 ⟨sb, 0, none⟩ 2 fun v1055 =>
      Ret P n_union_joiner_of [v1053, v1054, v1055] w1048 fun v1056 w1057 =>
      XLd w1057 ((⟨kb, 0, none⟩ : Addr).add 0) fun v1058 =>
      xPEq P w1057 v1056 v1058 fun v1059 =>
      xIf v1059 (XLdN w1057 ⟨jb, 0, none⟩ 4 fun v1060 =>
      XLdN w1057 ⟨ub, 0, none⟩ 2 fun v1061 =>
      Ret P n_union_joiner_whole [v1060, v1061] w1057 fun r w' => ∃ t' n', r = t'.v ∧ DR w w' (.node a ow part val ks kids) low ou ol y p turned t' mt n n') (XLdN w1057 ⟨jb, 0, none⟩ 4 fun v1064 =>
      XLdN w1057 ⟨ub, 0, none⟩ 2 fun v1065 =>
      Ret P n_union_joiner_copy [v1064, v1065] w1057 fun v1066 w1067 =>
      XLd w1067 ((⟨jb, 0, none⟩ : Addr).add 2) fun v1068 =>
      Ret P n_node_Node_SetKid [v1066, v1068, bv y, v1056] w1067 fun _ w' => ∃ t' n', v1066 = t'.v ∧ DR w w' (.node a ow part val ks kids) low ou ol y p turned t' mt n n')) := by
    intro w' fb sb he' hF hS hfs hfge hsge
    refine store2 (a := (kids y).v) (b := .int .i64 0) hF (by kernel_rfl) rfl rfl fun wa hFa hza hea => ?_
    have hjlt := hj7.lt
    have hult := hU7.lt
    have hllt := hL7.lt
    have hLa := (hL7.ext he' fun h => h).ext hea (by show ¬ lb = fb; omega)
    have hKa := (hK7d.ext he' fun h => h).ext hea (by show ¬ kb = fb; omega)
    have hja := (hj7.ext he' fun h => h).ext hea (by show ¬ jb = fb; omega)
    have hUa := (hU7.ext he' fun h => h).ext hea (by show ¬ ub = fb; omega)
    have hSa := hS.ext hea (by show ¬ sb = fb; omega)
    refine ⟨xkeepN2 hLa, ?_⟩
    refine store2 (a := low.v) (b := .int .i64 ol) hSa (by kernel_rfl) rfl rfl fun wb hSb hzb heb => ?_
    have hLb := hLa.ext heb (by show ¬ lb = sb; omega)
    have hKb := hKa.ext heb (by show ¬ kb = sb; omega)
    have hjb' := hja.ext heb (by show ¬ jb = sb; omega)
    have hUb := hUa.ext heb (by show ¬ ub = sb; omega)
    have hFb := hFa.ext heb (by show ¬ fb = sb; omega)
    have hs7 := hE7d.size
    have hEb : Ext No w wb := ((hE7d.transN he').trans1 hea (by omega)).trans1 heb (by omega)
    refine xj (fun vs wc => Ext No w wc ∧ Blk wc jb (joiC p o mt) T_union_joiner ∧ Blk wc ub [(T.node a ow part val ks kids).v, .int .i64 ou] T_union_end ∧ Blk wc kb [(kids y).v, .int .i64 0] T_union_end ∧
      Blk wc fb (if turned then [low.v, .int .i64 ol] else [(kids y).v, .int .i64 0]) T_union_end ∧ Blk wc sb (if turned then [(kids y).v, .int .i64 0] else [low.v, .int .i64 ol]) T_union_end) ?_ ?_
    · cases turned with
      | false => exact xifF rfl ⟨hEb, hjb', hUb, hKb, hFb, hSb⟩
      | true =>
        refine xifT rfl ?_
        refine hLb.drew.ldA rfl ?_
        refine hKb.drew.ldA rfl ?_
        refine store2 (a := low.v) (b := .int .i64 ol) hFb.drew (by kernel_rfl) rfl rfl fun wc hFc hzc hec => ?_
        have hKc := hKb.drew.ext hec (by show ¬ kb = fb; omega)
        refine ⟨xkeepN2 hKc, ?_⟩
        refine store2 (a := (kids y).v) (b := .int .i64 0) (hSb.drew.ext hec (by show ¬ sb = fb; omega)) (by kernel_rfl) rfl rfl fun we hSe hze hee => ?_
        exact ⟨(hEb.drew.trans1 hec (by omega)).trans1 hee (by omega), (hjb'.drew.ext hec (by show ¬ jb = fb; omega)).ext hee (by show ¬ jb = sb; omega), (hUb.drew.ext hec (by show ¬ ub = fb; omega)).ext hee (by show ¬ ub = sb; omega), hKc.ext hee (by show ¬ kb = sb; omega), hFc.ext hee (by show ¬ fb = sb; omega), hSe⟩
    · rintro vs g wc ⟨hEc, hjc, hUc, hKc, hFc, hSc⟩
      have hsc := hEc.size
      refine hjc.ldA rfl ?_
      obtain ⟨k0, x0, hk0⟩ := low_some (ol := ol) hln hlow.fine
      have hmeas : ((kids y).er.long + 1 - 0) + (low.er.long + 1 - ol) < M := by have := hlow.off; omega
      cases turned with
      | false =>
        refine hFc.ldA rfl ?_
        refine hSc.ldA rfl ?_
        refine c_uTail (fb := fb) (p := p) (n := n) (c := y) (low := low) (G := fun t2 n2 => Can t2.er (fun r => mergeO p ((kids y).er.get r) ((offE ol low.er).get r)) ∧ ((∀ r, mergeO p ((kids y).er.get r) ((offE ol low.er).get r) = (kids y).er.get r) → t2.ptr = (kids y).ptr ∧ n2 = n)) (hup.tree.extN hEc) hup.leafy hks (hm.extN hEc) ho hoff (fun x hx => (hlow.tree.extN hEc).lt hx) hjc hUc hKc (.inr trivial) ?_ ?_
        · rintro r w' ⟨t', n', t2, n2, hr, ⟨hcan, hidle⟩, htr, hmt, hext, hlf, hall, her, hid⟩
          refine ⟨t', n', hr, htr, hmt, (hEc.mono fun _ _ h => h.elim).transS hext, fun x hx => (hall x hx).imp id (Or.imp id fun h => by omega), hlf, ⟨t2.er, her, hcan⟩, fun _ h0 hmg => ?_⟩
          obtain ⟨h1, h2⟩ := hidle hmg
          exact hid h0 h1 h2
        · refine (hI hmeas (hkid.extN hEc) (hlow.extN hEc) (hm.extN hEc)).mono ?_
          rintro r w' ⟨t2, n2, rfl, hU⟩
          have hcan : Can t2.er (fun r => mergeO p ((kids y).er.get r) ((offE ol low.er).get r)) := hU.can.congr fun k => by rw [offE_zero]
          refine ⟨t2, n2, rfl, ⟨hU.tree, hU.cnt, hU.ext, hU.all, hU.leafy, fun e => ?_⟩, hcan, hU.idle rfl⟩
          have := hcan.get k0
          rw [hk0, e] at this
          have h2 := congrArg Option.isSome this
          rw [merge_isSome] at h2
          simp [T.er, E.get] at h2
      | true =>
        refine hFc.ldA rfl ?_
        refine hSc.ldA rfl ?_
        refine c_uTail (fb := fb) (p := p) (n := n) (c := y) (low := low) (G := fun t2 n2 => Can t2.er (fun r => mergeO p ((offE ol low.er).get r) ((kids y).er.get r))) (hup.tree.extN hEc) hup.leafy hks (hm.extN hEc) ho hoff (fun x hx => (hlow.tree.extN hEc).lt hx) hjc hUc hKc (.inr trivial) ?_ ?_
        · rintro r w' ⟨t', n', t2, n2, hr, hcan, htr, hmt, hext, hlf, hall, her, hid⟩
          exact ⟨t', n', hr, htr, hmt, (hEc.mono fun _ _ h => h.elim).transS hext, fun x hx => (hall x hx).imp id (Or.imp id fun h => by omega), hlf, ⟨t2.er, her, hcan⟩, fun h => by cases h⟩
        · refine (hI (by omega) (hlow.extN hEc) (hkid.extN hEc) (hm.extN hEc)).mono ?_
          rintro r w' ⟨t2, n2, rfl, hU⟩
          have hcan : Can t2.er (fun r => mergeO p ((offE ol low.er).get r) ((kids y).er.get r)) := hU.can.congr fun k => by rw [offE_zero]
          refine ⟨t2, n2, rfl, ⟨hU.tree, hU.cnt, hU.ext, fun c hc => (hU.all c hc).elim (fun h => .inr (.inl h)) fun h => h.elim .inl fun h => .inr (.inr h), hU.leafy, fun e => ?_⟩, hcan⟩
          have := hcan.get k0
          rw [hk0, e] at this
          have h2 := congrArg Option.isSome this
          rw [merge_isSome] at h2
          simp [T.er, E.get] at h2
  refine ⟨?_, ?_⟩
  · refine xnew fun fb w8 hfb hF8 hz8 he8 => ⟨xkeepN2 (hL7.ext he8 fun h => h), xkeepN2 (hK7d.ext he8 fun h => h), ?_⟩
    refine xnew fun sb w9 hsb hS9 hz9 he9 => ⟨xkeepN2 ((hL7.ext he8 fun h => h).ext he9 fun h => h), xkeepN2 ((hK7d.ext he8 fun h => h).ext he9 fun h => h), ?_⟩
    have hs8 := he8.size
    exact mid (he8.transN he9) (hF8.ext he9 fun h => h) hS9 (by omega) (by omega) (by omega)
  · refine xnew fun sb w8 hsb hS8 hz8 he8 => ⟨xkeepN2 (hL7.ext he8 fun h => h), xkeepN2 (hK7d.ext he8 fun h => h), ?_⟩
    refine xnew fun fb w9 hfb hF9 hz9 he9 => ⟨xkeepN2 ((hL7.ext he8 fun h => h).ext he9 fun h => h), xkeepN2 ((hK7d.ext he8 fun h => h).ext he9 fun h => h), ?_⟩
    have hs8 := he8.size
    exact mid (he8.transN he9) hF9 (hS8.ext he9 fun h => h) (by omega) (by omega) (by omega)
end
end Go.Proofs.YtbgfmgkimccbeaaGreatDoor
end
section
namespace Go.Proofs.YtbgfmgkimccbeaaGreatDoor
open Go Go.RowKit X
set_option linter.unusedSimpArgs false
set_option linter.unusedVariables false
set_option linter.unusedSectionVars false
variable [Floor]
section
variable {w : World} {a ow o p n off u : Nat} {part : Key} {val : Option Nat} {ks : List Nat} {kids : UInt8 → T} {mt : Option Mtr} {t : T} {x : Value}
theorem c_uWriteOld : Ret P n_union_joiner_write [joiV p o mt, rp u, endV t off] w fun r w' => r = rp u ∧ Ext No w w' := by
  refine W_union_joiner_write ?_
  refine xnew fun jb w1 hjb hj hz he => ?_
  refine xnew fun eb w2 heb hE hz2 he2 => ?_
  exact xifF rfl ⟨rfl, he.transN he2⟩
theorem c_uDoneOld : Ret P n_union_joiner_done [joiV p o mt, rp u, endV t off] w fun r w' => r = rp u ∧ Ext No w w' := by
  refine W_union_joiner_done ?_
  refine xnew fun jb w1 hjb hj hz he => ?_
  refine xnew fun eb w2 heb hE hz2 he2 => ?_
  exact xifF rfl ⟨rfl, he.transN he2⟩
theorem c_uWriteNew (ht : Tree w (.node a ow part val ks kids)) (hm : Mt w mt n) (ho : o ≠ 0) (hoff : off ≤ part.length) :
    Ret P n_union_joiner_write [joiV p o mt, .pointer none, endV (.node a ow part val ks kids) off] w fun r w' => ∃ u uks, r = rp u ∧ FN w w' u o (part.drop off) val uks kids mt (n + 1) ∧ (uks = [] ↔ ks = []) := by
  refine W_union_joiner_write ?_
  refine xnew fun jb w1 hjb hj hz he => ?_
  have hj : Blk w1 jb (joiC p o mt) T_union_joiner := hj
  refine xnew fun eb w2 heb hE hz2 he2 => ?_
  have hE : Blk w2 eb [(T.node a ow part val ks kids).v, .int .i64 off] T_union_end := hE
  refine xifT rfl ?_
  refine (hj.ext he2 fun h => h).ldA rfl ?_
  refine hE.ldA rfl ?_
  have hE12 := he.transN he2
  have hs := hE12.size
  refine (c_uCopy (p := p) (ht.extN hE12) (hm.extN hE12) ho hoff).mono ?_
  rintro _ w3 ⟨u, uks, rfl, htr, hiff, hfr, hm3, he3⟩
  exact ⟨u, uks, rfl, ⟨htr, fun b hb => by have := hfr b hb; omega, fun c b hb hn => by have := hfr b hn; have := (ht.2 c).lt hb; omega, hm3, (hE12.mono fun _ _ h => h.elim).transS he3⟩, hiff⟩
theorem c_uDoneNew (ht : Tree w t) (hm : Mt w mt n) (ho : o ≠ 0) (hoff : off ≤ t.part.length) :
    Ret P n_union_joiner_done [joiV p o mt, .pointer none, endV t off] w fun r w' => ∃ t' n', r = t'.v ∧ Tree w' t' ∧ t'.er = offE off t.er ∧ (t.Leafy → t'.Leafy) ∧ (∀ b, t'.All b → t.All b ∨ w.heap.size ≤ b) ∧ Mt w' mt n' ∧ n' ≤ n + 1 ∧ (off = 0 → t' = t ∧ n' = n) ∧ Ext (MX mt) w w' := by
  refine W_union_joiner_done ?_
  refine xnew fun jb w1 hjb hj hz he => ?_
  have hj : Blk w1 jb (joiC p o mt) T_union_joiner := hj
  refine xnew fun eb w2 heb hE hz2 he2 => ?_
  have hE : Blk w2 eb [t.v, .int .i64 off] T_union_end := hE
  refine xifT rfl ?_
  refine (hj.ext he2 fun h => h).ldA rfl ?_
  refine hE.ldA rfl ?_
  have hE12 := he.transN he2
  have hs := hE12.size
  refine (c_whole (p := p) (ht.extN hE12) (hm.extN hE12) ho hoff).mono ?_
  rintro _ w3 ⟨t', n', rfl, htr, her, hl, hall, hm3, hle, hz', he3⟩
  exact ⟨t', n', rfl, htr, her, hl, fun b hb => (hall b hb).imp id fun h => by omega, hm3, hle, hz', (hE12.mono fun _ _ h => h.elim).transS he3⟩
end
end Go.Proofs.YtbgfmgkimccbeaaGreatDoor
end
section
namespace Go.Proofs.YtbgfmgkimccbeaaGreatDoor
open Go Go.RowKit X
set_option linter.unusedSimpArgs false
set_option linter.unusedVariables false
set_option linter.unusedSectionVars false
theorem fine_more {q : Key} {v : Option Nat} {k : UInt8 → E} {y : UInt8} {e : E} (h : (E.node q v k).Fine) (he : e.Fine) (hn : e ≠ .nil) : (E.node q v (updE k y e)).Fine := by
  obtain ⟨h1, h2, h3⟩ := fine_of h
  have hs : e.opt.isSome = true := by cases e with
    | nil => exact absurd rfl hn
    | node => rfl
  have hc := cntE_upd k y e
  rw [if_pos hs] at hc
  refine fine_node (fun h0 => ?_) (fun h0 => ?_) fun c => ?_
  · exact h1 (by rw [h0] at hc; split at hc <;> omega)
  · by_cases h00 : cntE k = 0
    · have := h1 h00
      have ho : one v = 1 := by unfold one; rw [if_pos this]
      rw [h00] at hc
      split at hc <;> omega
    · have := h2 h00
      split at hc <;> omega
  · unfold updE; split
    · exact he
    · exact h3 c
/-- a tree without which its bytes' rest is nothing -/
theorem off_node {part : Key} {v : Option Nat} {k : UInt8 → E} {off : Nat} : offE off (.node part v k) = .node (part.drop off) v k := rfl
theorem can_under {p : Nat} {P q' : Key} {y : UInt8} {va vb : Option Nat} {ka kb : UInt8 → E} {e2 : E} (hfa : (E.node P va ka).Fine) (hfb : (E.node q' vb kb).Fine) (h2 : Can e2 fun r => mergeO p ((ka y).get r) ((E.node q' vb kb).get r)) :
    Can (E.node P va (updE ka y e2)) fun k => mergeO p ((E.node P va ka).get k) ((E.node (P ++ y :: q') vb kb).get k) := by
  have hn : e2 ≠ .nil := fun e => by
    obtain ⟨k, v, hk⟩ := hfb.some_key (by simp)
    have := h2.get k
    rw [hk, e] at this
    have h3 := congrArg Option.isSome this
    rw [merge_isSome] at h3
    simp [E.get] at h3
  exact ⟨fine_more hfa h2.fine hn, fun K => merge_under h2.get K⟩
theorem can_under' {p : Nat} {P q' : Key} {y : UInt8} {va vb : Option Nat} {ka kb : UInt8 → E} {e2 : E} (hfa : (E.node P va ka).Fine) (hfb : (E.node q' vb kb).Fine) (h2 : Can e2 fun r => mergeO p ((E.node q' vb kb).get r) ((ka y).get r)) :
    Can (E.node P va (updE ka y e2)) fun k => mergeO p ((E.node (P ++ y :: q') vb kb).get k) ((E.node P va ka).get k) := by
  have hn : e2 ≠ .nil := fun e => by
    obtain ⟨k, v, hk⟩ := hfb.some_key (by simp)
    have := h2.get k
    rw [hk, e] at this
    have h3 := congrArg Option.isSome this
    rw [merge_isSome] at h3
    simp [E.get] at h3
  exact ⟨fine_more hfa h2.fine hn, fun K => merge_under' h2.get K⟩
/-- a node has something that is not under one of its bytes -/
theorem has_else {Q : Key} {vb : Option Nat} {kb : UInt8 → E} (hf : (E.node Q vb kb).Fine) (y : UInt8) : ∃ K v, (E.node Q vb kb).get K = some v ∧ ∀ p' va ka, (E.node (Q ++ y :: p') va ka).get K = none := by
  obtain ⟨h1, h2, h3⟩ := fine_of hf
  cases vb with
  | some v => exact ⟨Q, v, get_nil, fun p' va ka => get_nil'⟩
  | none =>
    have h0 : cntE kb ≠ 0 := fun e => by have := h1 e; cases this
    have h2' : 2 ≤ cntE kb + 0 := h2 h0
    obtain ⟨c, d, hc, hd, hcd⟩ := two_mem (l := dom fun c => (kb c).opt) ((dom_rise _).imp fun h e => by subst e; exact absurd h (by simp)) h2'
    obtain ⟨z, hz, hzy⟩ : ∃ z, z ∈ (dom fun c => (kb c).opt) ∧ z ≠ y := by
      by_cases e : c = y
      · exact ⟨d, hd, fun e' => hcd (e.trans e'.symm)⟩
      · exact ⟨c, hc, e⟩
    have hzs := dom_mem.1 hz
    obtain ⟨k, v, hk⟩ := (h3 z).some_key fun e => by rw [e] at hzs; cases hzs
    exact ⟨Q ++ z :: k, v, by rw [get_cons]; exact hk, fun p' va ka => get_other hzy⟩
theorem no_under {p : Nat} {Q p' : Key} {y : UInt8} {va vb : Option Nat} {ka kb : UInt8 → E} (hf : (E.node Q vb kb).Fine) (h : ∀ k, mergeO p ((E.node (Q ++ y :: p') va ka).get k) ((E.node Q vb kb).get k) = (E.node (Q ++ y :: p') va ka).get k) : False := by
  obtain ⟨K, v, h1, h2⟩ := has_else hf y
  have := h K
  rw [h1, h2] at this
  cases this
/-- a fork holds more than the first -/
theorem no_fork {p : Nat} {q p' q' : Key} {x y : UInt8} {va vb : Option Nat} {ka kb : UInt8 → E} (hxy : x ≠ y) (hf : (E.node (q ++ y :: q') vb kb).Fine) (h : ∀ k, mergeO p ((E.node (q ++ x :: p') va ka).get k) ((E.node (q ++ y :: q') vb kb).get k) = (E.node (q ++ x :: p') va ka).get k) : False := by
  obtain ⟨K, v, hk⟩ := hf.some_key (by simp)
  obtain ⟨r, rfl⟩ : ∃ r, K = q ++ y :: q' ++ r := by
    by_cases hp : (q ++ y :: q') <+: K
    · obtain ⟨r, rfl⟩ := hp; exact ⟨r, rfl⟩
    · rw [get_no hp] at hk; cases hk
  have := h (q ++ y :: q' ++ r)
  rw [hk, show q ++ y :: q' ++ r = q ++ y :: (q' ++ r) by simp, get_other (Ne.symm hxy)] at this
  cases this
end Go.Proofs.YtbgfmgkimccbeaaGreatDoor
end
