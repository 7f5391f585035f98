/-  union: two nodes with one part: the loop over the second one's kids.  -/
import Derived.Test.YtbgfmgkimccbeaaGreatDoorUni3
section
namespace Go.Proofs.YtbgfmgkimccbeaaGreatDoor
open Go Go.RowKit X
set_option linter.unusedSimpArgs false
set_option linter.unusedVariables false
set_option linter.unusedSectionVars false
theorem cntE_mono {k k' : UInt8 → E} (h : ∀ c, (k c).opt.isSome = true → (k' c).opt.isSome = true) : cntE k ≤ cntE k' := by
  show (byt.filter fun c => ((k c).opt).isSome).length ≤ (byt.filter fun c => ((k' c).opt).isSome).length
  rw [← List.countP_eq_length_filter, ← List.countP_eq_length_filter]
  exact List.countP_mono_left fun c _ => h c
theorem fine_grow {q : Key} {v v' : Option Nat} {k k' : UInt8 → E} (h : (E.node q v k).Fine) (hv : v.isSome = true → v'.isSome = true) (hk : ∀ c, (k c).opt.isSome = true → (k' c).opt.isSome = true) (hf : ∀ c, (k' c).Fine) : (E.node q v' k').Fine := by
  obtain ⟨h1, h2, h3⟩ := fine_of h
  have hc := cntE_mono hk
  have ho : one v ≤ one v' := by
    unfold one
    split
    · rename_i hs; rw [if_pos (hv hs)]; exact Nat.le_refl _
    · exact Nat.zero_le _
  refine fine_node (fun h0 => hv (h1 (by omega))) (fun h0 => ?_) hf
  by_cases h00 : cntE k = 0
  · have : one v = 1 := by unfold one; rw [if_pos (h1 h00)]
    omega
  · have := h2 h00
    omega
theorem get_some_opt {e : E} {k : Key} (h : (e.get k).isSome = true) : e.opt.isSome = true := by
  cases e with
  | nil => cases h
  | node => rfl
variable [Floor]
theorem long_part2 {a ow : Nat} {part : Key} {val : Option Nat} {ks : List Nat} {kids : UInt8 → T} : part.length ≤ (T.node a ow part val ks kids).er.long := by
  have hlong : (T.node a ow part val ks kids).er.long = maxL ((dom (ptrs kids)).map fun c => (kids c).er.long + 1) + part.length := by
    show (E.node part val fun c => (kids c).er).long = _
    rw [E.long_node, dom_er]
  omega
theorem long_kid2 {a ow : Nat} {part : Key} {val : Option Nat} {ks : List Nat} {kids : UInt8 → T} {c : UInt8} (h : c ∈ dom (ptrs kids)) : part.length + 1 + (kids c).er.long ≤ (T.node a ow part val ks kids).er.long := by
  have hlong : (T.node a ow part val ks kids).er.long = maxL ((dom (ptrs kids)).map fun c => (kids c).er.long + 1) + part.length := by
    show (E.node part val fun c => (kids c).er).long = _
    rw [E.long_node, dom_er]
  have := maxL_le (l := (dom (ptrs kids)).map fun c => (kids c).er.long + 1) (List.mem_map.2 ⟨c, h, rfl⟩)
  omega
theorem FN.base {wS w w' : World} {u o n : Nat} {q : Key} {val : Option Nat} {uks : List Nat} {kids : UInt8 → T} {mt : Option Mtr} (e : Ext (MX mt) wS w) (h : FN w w' u o q val uks kids mt n) : FN wS w' u o q val uks kids mt n :=
  ⟨h.tree, fun b hb => by have := h.fresh b hb; have := e.size; omega, h.apart, h.cnt, e.transS h.ext⟩
/-- what has been made so far of the first node: nothing yet, or a node of the call's own -/
def LS (wS : World) (aval : Option Nat) (aks : List Nat) (akids : UInt8 → T) (q : Key) (o : Nat) (mt : Option Mtr) (w : World) (m : Nat) (nv : Value) (val : Option Nat) (kids : UInt8 → T) : Prop :=
  (nv = .pointer none ∧ val = aval ∧ kids = akids ∧ Mt w mt m ∧ Ext (MX mt) wS w) ∨ ∃ u uks, nv = rp u ∧ FN wS w u o q val uks kids mt m ∧ (uks = [] ↔ aks = [])
section
variable {wS w : World} {aa aow ba bow o p n oa ob jb bb oo M : Nat} {apart bpart : Key} {aval bval V : Option Nat} {aks bks : List Nat} {akids bkids : UInt8 → T} {mt : Option Mtr} {nv : Value} {q : Key} {m : Nat} {kids : UInt8 → T}
theorem LS.cn (h : LS wS aval aks akids q o mt w m nv V kids) : Mt w mt m ∧ Ext (MX mt) wS w := by
  rcases h with ⟨-, -, -, h1, h2⟩ | ⟨u, uks, -, h, -⟩
  · exact ⟨h1, h2⟩
  · exact ⟨h.cnt, h.ext⟩
theorem LS.go (h : LS wS aval aks akids q o mt w m nv V kids) {w' : World} {m' : Nat} (e : Ext (MX mt) w w') (hm : Mt w' mt m') : LS wS aval aks akids q o mt w' m' nv V kids := by
  rcases h with ⟨h1, h2, h3, h4, h5⟩ | ⟨u, uks, h1, h2, h3⟩
  · exact .inl ⟨h1, h2, h3, hm, h5.transS e⟩
  · exact .inr ⟨u, uks, h1, h2.go e hm, h3⟩
theorem LS.extN (h : LS wS aval aks akids q o mt w m nv V kids) {w' : World} (e : Ext No w w') : LS wS aval aks akids q o mt w' m nv V kids := h.go (e.mono fun _ _ h => h.elim) (h.cn.1.extN e)
theorem c_uLoop {K : Value → World → Prop} (hI : OfS p o mt M) (ha : Go1 wS (.node aa aow apart aval aks akids) oa) (hb : Go1 wS (.node ba bow bpart bval bks bkids) ob) (haks : aks ≠ []) (ho : o ≠ 0) (hMm : ((T.node aa aow apart aval aks akids).er.long + 1 - oa) + ((T.node ba bow bpart bval bks bkids).er.long + 1 - ob) ≤ M)
    (hmS : Mt wS mt n) (hj : Blk wS jb (joiC p o mt) T_union_joiner) (hB : Blk wS bb [(T.node aa aow apart aval aks akids).v, .int .i64 oa] T_union_end) (hO : Blk wS oo [(T.node ba bow bpart bval bks bkids).v, .int .i64 ob] T_union_end)
    (hls : LS wS aval aks akids (apart.drop oa) o mt w m nv V akids) (hid : V = aval → (∀ c r, mergeO p ((akids c).er.get r) ((bkids c).er.get r) = (akids c).er.get r) → nv = .pointer none ∧ m = n)
    (hK : ∀ w' nv' m' kids', LS wS aval aks akids (apart.drop oa) o mt w' m' nv' V kids' → (∀ c, Can (kids' c).er fun r => mergeO p ((akids c).er.get r) ((bkids c).er.get r)) → (∀ c, (kids' c).Leafy) →
      (∀ c x, (kids' c).All x → (T.node aa aow apart aval aks akids).All x ∨ (T.node ba bow bpart bval bks bkids).All x ∨ wS.heap.size ≤ x) →
      (V = aval → (∀ c r, mergeO p ((akids c).er.get r) ((bkids c).er.get r) = (akids c).er.get r) → nv' = .pointer none ∧ m' = n) →
      Ret P n_union_joiner_done [joiV p o mt, nv', endV (.node aa aow apart aval aks akids) oa] w' K) :
    Ret P n_node_Node_Next [(T.node ba bow bpart bval bks bkids).v, .int .i64 0] w fun v1070 w1071 =>
      xTup v1070 0 fun v1072 => xTup v1070 1 fun v1073 =>
      XLoop [v1073, v1072, undef, undef, nv] w1071 (S_union_joiner_level_l1 K ⟨jb, 0, none⟩ ⟨bb, 0, none⟩ ⟨oo, 0, none⟩) := by
  have hoffa : oa ≤ apart.length := ha.off
  have hoffb : ob ≤ bpart.length := hb.off
  obtain ⟨hm0, hE0⟩ := hls.cn
  have la := long_part2 (a := aa) (ow := aow) (part := apart) (val := aval) (ks := aks) (kids := akids)
  refine (c_Next ((hb.tree.extM hmS hE0)) (i := 0) (by omega)).mono ?_
  rintro _ w1 ⟨rfl, he1⟩
  have hnx0 : next2 (ptrs (T.node ba bow bpart bval bks bkids).kid) 0 = .tuple #[nxB (dom (ptrs bkids)), nxP (ptrs bkids) (dom (ptrs bkids))] := next2_of (nextB_zero _)
  rw [hnx0]
  refine xloop (fun nn vs w' => ∃ (d rest : List UInt8) (x2 x3 nv' : Value) (kids' : UInt8 → T) (m' : Nat), vs = [nxP (ptrs bkids) rest, nxB rest, x2, x3, nv'] ∧ nn = rest.length ∧ dom (ptrs bkids) = d ++ rest ∧
      LS wS aval aks akids (apart.drop oa) o mt w' m' nv' V kids' ∧ (∀ c ∈ d, Can (kids' c).er fun r => mergeO p ((akids c).er.get r) ((bkids c).er.get r)) ∧ (∀ c, c ∉ d → kids' c = akids c) ∧ (∀ c, (kids' c).Leafy) ∧
      (∀ c x, (kids' c).All x → (T.node aa aow apart aval aks akids).All x ∨ (T.node ba bow bpart bval bks bkids).All x ∨ wS.heap.size ≤ x) ∧
      (V = aval → (∀ c r, mergeO p ((akids c).er.get r) ((bkids c).er.get r) = (akids c).er.get r) → nv' = .pointer none ∧ m' = n)) (dom (ptrs bkids)).length
    ⟨[], _, _, _, _, akids, m, rfl, rfl, rfl, hls.extN he1, (fun c h => by cases h), fun c _ => rfl, ha.leafy.2, fun c x h => .inl (.inr ⟨c, h⟩), hid⟩ ?_
  rintro nn vs g w2 ⟨d, rest, x2, x3, nv2, kids2, m2, rfl, rfl, hdr, hL, hcan, hrest, hlf, hall, hid2⟩
  unfold S_union_joiner_level_l1
  obtain ⟨hm2, hE2⟩ := hL.cn
  have hj2 := hj.ext hE2 (hmS.ne hj (by decide))
  have hB2 := hB.ext hE2 (hmS.ne hB (by decide))
  have hO2 := hO.ext hE2 (hmS.ne hO (by decide))
  have ha2 := ha.extM hmS hE2
  have hb2 := hb.extM hmS hE2
  cases rest with
  | nil =>
    rw [List.append_nil] at hdr
    have hn0 : ∀ K : Value → Prop, K (.bool false) → xPNe P w2 (nxP (ptrs bkids) []) (.pointer none) K := fun K k => k
    refine hn0 _ ?_
    refine xifF rfl ?_
    refine hj2.ldA rfl ?_
    refine hB2.ldA rfl ?_
    refine (hK w2 nv2 m2 kids2 hL (fun c => ?_) hlf hall hid2).mono fun v w' h => h
    by_cases hc : c ∈ d
    · exact hcan c hc
    · rw [hrest c hc]
      have hbn : bkids c = .nil := by
        cases e : bkids c with
        | nil => rfl
        | node => exact absurd (by rw [← hdr]; exact dom_mem.2 (by simp [ptrs, e, T.ptr])) hc
      exact ⟨ha.fine.2 c, fun r => by rw [hbn]; show _ = mergeO p _ none; rw [merge_none]⟩
  | cons c rest =>
    have hcd : c ∈ dom (ptrs bkids) := by rw [hdr]; simp
    have hcnd : c ∉ d := fun h => by
      have := dom_rise (ptrs bkids)
      rw [hdr] at this
      have h2 := (List.pairwise_append.1 this).2.2 c h c (by simp)
      exact absurd h2 (by simp)
    have hkc : kids2 c = akids c := hrest c hcnd
    obtain ⟨ka, hka⟩ := Option.isSome_iff_exists.1 (dom_mem.1 hcd)
    have hka : (bkids c).ptr = some ka := hka
    have hbn : bkids c ≠ .nil := fun e => by rw [e] at hka; cases hka
    have hne : ∀ K : Value → Prop, K (.bool true) → xPNe P w2 (nxP (ptrs bkids) (c :: rest)) (.pointer none) K := fun K k => by
      show xPNe P w2 (.pointer (bkids c).ptr) (.pointer none) K
      rw [hka]; exact k
    have hlA : (akids c).er.long ≤ (T.node aa aow apart aval aks akids).er.long := by
      by_cases h : c ∈ dom (ptrs akids)
      · have := long_kid2 (a := aa) (ow := aow) (part := apart) (val := aval) (ks := aks) h; omega
      · have : akids c = .nil := by
          cases e : akids c with
          | nil => rfl
          | node => exact absurd (dom_mem.2 (by simp [ptrs, e, T.ptr])) h
        rw [this]; exact Nat.zero_le _
    have hlB := long_kid2 (a := ba) (ow := bow) (part := bpart) (val := bval) (ks := bks) hcd
    have hzS := hE2.size
    refine hne _ ?_
    refine xifT rfl ?_
    refine xj (fun vs w' => ∃ (z0 z1 nv3 : Value) (kids3 : UInt8 → T) (m3 : Nat), vs = [z0, z1, nv3] ∧ LS wS aval aks akids (apart.drop oa) o mt w' m3 nv3 V kids3 ∧
        (∀ e ∈ d ++ [c], Can (kids3 e).er fun r => mergeO p ((akids e).er.get r) ((bkids e).er.get r)) ∧ (∀ e, e ∉ d ++ [c] → kids3 e = akids e) ∧ (∀ e, (kids3 e).Leafy) ∧
        (∀ e x, (kids3 e).All x → (T.node aa aow apart aval aks akids).All x ∨ (T.node ba bow bpart bval bks bkids).All x ∨ wS.heap.size ≤ x) ∧
        (V = aval → (∀ e r, mergeO p ((akids e).er.get r) ((bkids e).er.get r) = (akids e).er.get r) → nv3 = .pointer none ∧ m3 = n)) ?_ ?_
    · refine hB2.ld (v := (T.node aa aow apart aval aks akids).v) rfl ?_
      refine (c_Kid ha2.tree (b := c)).mono ?_
      rintro _ w3 ⟨rfl, he3⟩
      have hj3 := hj2.ext he3 fun h => h
      have hB3 := hB2.ext he3 fun h => h
      refine hj3.ldA rfl ?_
      show Ret P n_union_joiner_of [joiV p o mt, endV (akids c) 0, endV (bkids c) 0] w3 _
      have ha3 := ha2.extN he3
      have hb3 := hb2.extN he3
      have hL3 := hL.extN he3
      have hm3 := hL3.cn.1
      have hz3 := he3.size
      have ga : Go1 w3 (akids c) 0 := ⟨ha3.tree.2 c, ha.fine.2 c, ha.leafy.2 c, by have := ha.long; omega, Nat.zero_le _⟩
      have gb : Go1 w3 (bkids c) 0 := ⟨hb3.tree.2 c, hb.fine.2 c, hb.leafy.2 c, by have := hb.long; omega, Nat.zero_le _⟩
      have hmeas : ((akids c).er.long + 1 - 0) + ((bkids c).er.long + 1 - 0) < M := by
        by_cases h : c ∈ dom (ptrs akids)
        · have := long_kid2 (a := aa) (ow := aow) (part := apart) (val := aval) (ks := aks) h; omega
        · have : akids c = .nil := by
            cases e : akids c with
            | nil => rfl
            | node => exact absurd (dom_mem.2 (by simp [ptrs, e, T.ptr])) h
          rw [this]; show (0 + 1 - 0) + _ < M; omega
      refine (hI hmeas ga gb hm3).mono ?_
      rintro _ w4 ⟨t2, n2, rfl, hU⟩
      have hcan2 : Can t2.er (fun r => mergeO p ((akids c).er.get r) ((bkids c).er.get r)) := hU.can.congr fun r => by rw [offE_zero, offE_zero]
      have hidle2 : (∀ r, mergeO p ((akids c).er.get r) ((bkids c).er.get r) = (akids c).er.get r) → t2.ptr = (akids c).ptr ∧ n2 = m2 := fun h => hU.idle rfl fun r => by rw [offE_zero]; exact h r
      have ht2n : t2 ≠ .nil := fun e => by
        have hbne : (bkids c).er ≠ .nil := by
          cases e : bkids c with
          | nil => exact absurd e hbn
          | node => simp [T.er]
        obtain ⟨k, v, hk⟩ := E.Fine.some_key (hb.fine.2 c) hbne
        have := hcan2.get k
        rw [e] at this
        have h2 := congrArg Option.isSome this
        rw [merge_isSome, hk] at h2
        simp [T.er, E.get] at h2
      obtain ⟨a2, ow2, p2, v2, ks2, kids2', ht2e⟩ : ∃ a ow p v ks k, t2 = .node a ow p v ks k := by
        cases h : t2 with
        | nil => exact absurd h ht2n
        | node => exact ⟨_, _, _, _, _, _, rfl⟩
      have hp2 : t2.ptr = some ⟨a2, 0, none⟩ := by rw [ht2e]; rfl
      have hv2 : t2.v = rp a2 := by show Value.pointer t2.ptr = _; rw [hp2]
      have hj4 := hj3.ext hU.ext (hm3.ne hj3 (by decide))
      have hB4 := hB3.ext hU.ext (hm3.ne hB3 (by decide))
      have hL4 := hL3.go hU.ext hU.cnt
      have ha4 := ha3.extM hm3 hU.ext
      have hz4 := hU.ext.size
      have hallc : ∀ x, t2.All x → (T.node aa aow apart aval aks akids).All x ∨ (T.node ba bow bpart bval bks bkids).All x ∨ wS.heap.size ≤ x := fun x hx => by
        rcases hU.all x hx with h | h | h
        · exact .inl (.inr ⟨c, h⟩)
        · exact .inr (.inl (.inr ⟨c, h⟩))
        · exact .inr (.inr (by omega))
      have eqC : t2.ptr = (akids c).ptr → ∃ (z0 z1 nv3 : Value) (kids3 : UInt8 → T) (m3 : Nat), [(akids c).v, t2.v, nv2] = [z0, z1, nv3] ∧ LS wS aval aks akids (apart.drop oa) o mt w4 m3 nv3 V kids3 ∧
          (∀ e ∈ d ++ [c], Can (kids3 e).er fun r => mergeO p ((akids e).er.get r) ((bkids e).er.get r)) ∧ (∀ e, e ∉ d ++ [c] → kids3 e = akids e) ∧ (∀ e, (kids3 e).Leafy) ∧
          (∀ e x, (kids3 e).All x → (T.node aa aow apart aval aks akids).All x ∨ (T.node ba bow bpart bval bks bkids).All x ∨ wS.heap.size ≤ x) ∧
          (V = aval → (∀ e r, mergeO p ((akids e).er.get r) ((bkids e).er.get r) = (akids e).er.get r) → nv3 = .pointer none ∧ m3 = n) := fun e => by
        have her := Tree.inj hU.tree (ha4.tree.2 c) e
        refine ⟨_, _, nv2, kids2, n2, rfl, hL4, fun e he => ?_, fun e he => hrest e fun h => he (List.mem_append_left _ h), hlf, hall, fun hV hmg => ?_⟩
        · rcases List.mem_append.1 he with h | h
          · exact hcan e h
          · have h2 : (kids2 c).er = t2.er := by rw [hkc, her]
            rw [List.mem_singleton.1 h, h2]; exact hcan2
        · obtain ⟨h1, h2⟩ := hid2 hV hmg
          exact ⟨h1, by rw [(hidle2 (hmg c)).2]; exact h2⟩
      have fin : t2.ptr ≠ (akids c).ptr → ∀ {w5 : World} {u : Nat} {uks : List Nat} {m5 : Nat}, FN wS w5 u o (apart.drop oa) V uks kids2 mt m5 → (uks = [] ↔ aks = []) → Ext (MX mt) w4 w5 → (∀ x, t2.All x → ¬ NX u uks x) → Blk w5 jb (joiC p o mt) T_union_joiner →
          XLd w5 ⟨jb, 2, none⟩ fun v1097 => Ret P n_node_Node_SetKid [rp u, v1097, bv c, t2.v] w5 fun _ w' => ∃ (z0 z1 nv3 : Value) (kids3 : UInt8 → T) (m3 : Nat), [(akids c).v, t2.v, rp u] = [z0, z1, nv3] ∧ LS wS aval aks akids (apart.drop oa) o mt w' m3 nv3 V kids3 ∧
          (∀ e ∈ d ++ [c], Can (kids3 e).er fun r => mergeO p ((akids e).er.get r) ((bkids e).er.get r)) ∧ (∀ e, e ∉ d ++ [c] → kids3 e = akids e) ∧ (∀ e, (kids3 e).Leafy) ∧
          (∀ e x, (kids3 e).All x → (T.node aa aow apart aval aks akids).All x ∨ (T.node ba bow bpart bval bks bkids).All x ∨ wS.heap.size ≤ x) ∧
          (V = aval → (∀ e r, mergeO p ((akids e).er.get r) ((bkids e).er.get r) = (akids e).er.get r) → nv3 = .pointer none ∧ m3 = n) := by
        intro hne2 w5 u uks m5 hF hiff he45 hd hj5
        refine hj5.ld (v := .int .u64 o) rfl ?_
        rw [hv2]
        refine (c_FKid hF ho (fun h => haks (hiff.1 h)) hp2 (hU.tree.extM hU.cnt he45) hd).mono ?_
        rintro _ w6 ⟨uks', hF6, hne6, -, -⟩
        refine ⟨_, _, rp u, updT kids2 c t2, m5, rfl, .inr ⟨u, uks', rfl, hF6, iff_of_false hne6 haks⟩, fun e he => ?_, fun e he => ?_, fun e => ?_, fun e x hx => ?_, fun hV hmg => absurd (hidle2 (hmg c)).1 hne2⟩
        · by_cases h : e = c
          · subst h; rw [updT_same]; exact hcan2
          · rw [updT_other _ _ h]
            rcases List.mem_append.1 he with h' | h'
            · exact hcan e h'
            · exact absurd (List.mem_singleton.1 h') h
        · have h : e ≠ c := fun h => he (by rw [h]; simp)
          rw [updT_other _ _ h]
          exact hrest e fun h => he (List.mem_append_left _ h)
        · unfold updT; split
          · exact hU.leafy
          · exact hlf e
        · unfold updT at hx; split at hx
          · exact hallc x hx
          · exact hall e x hx
      have neC : t2.ptr ≠ (akids c).ptr → XLdN w4 ⟨jb, 0, none⟩ 4 fun v1093 => XLdN w4 ⟨bb, 0, none⟩ 2 fun v1094 => Ret P n_union_joiner_write [v1093, nv2, v1094] w4 fun v1095 w1096 => XLd w1096 ⟨jb, 2, none⟩ fun v1097 => Ret P n_node_Node_SetKid [v1095, v1097, bv c, t2.v] w1096 fun _ w' => ∃ (z0 z1 nv3 : Value) (kids3 : UInt8 → T) (m3 : Nat), [(akids c).v, t2.v, v1095] = [z0, z1, nv3] ∧ LS wS aval aks akids (apart.drop oa) o mt w' m3 nv3 V kids3 ∧
          (∀ e ∈ d ++ [c], Can (kids3 e).er fun r => mergeO p ((akids e).er.get r) ((bkids e).er.get r)) ∧ (∀ e, e ∉ d ++ [c] → kids3 e = akids e) ∧ (∀ e, (kids3 e).Leafy) ∧
          (∀ e x, (kids3 e).All x → (T.node aa aow apart aval aks akids).All x ∨ (T.node ba bow bpart bval bks bkids).All x ∨ wS.heap.size ≤ x) ∧
          (V = aval → (∀ e r, mergeO p ((akids e).er.get r) ((bkids e).er.get r) = (akids e).er.get r) → nv3 = .pointer none ∧ m3 = n) := fun hne2 => by
        refine hj4.ldA rfl ?_
        refine hB4.ldA rfl ?_
        rcases hL with ⟨rfl, rfl, rfl, -, -⟩ | ⟨u, uks, rfl, hF, hiff⟩
        · refine (c_uWriteNew (p := p) ha4.tree hU.cnt ho hoffa).mono ?_
          rintro _ w5 ⟨u, uks, rfl, hF5, hiff⟩
          have hF5' : FN wS w5 u o (apart.drop oa) V uks kids2 mt (n2 + 1) := hF5.base hL4.cn.2
          refine fin hne2 hF5' hiff hF5.ext (fun x hx hn => ?_) (hj4.ext hF5.ext (hU.cnt.ne hj4 (by decide)))
          have := hF5.fresh x hn
          have := hU.tree.lt hx
          omega
        · refine c_uWriteOld.mono ?_
          rintro _ w5 ⟨rfl, he5⟩
          have hF5 := ((hF.extN he3).go hU.ext hU.cnt).extN he5
          refine fin hne2 hF5 hiff (he5.mono fun _ _ h => h.elim) (fun x hx hn => ?_) (hj4.ext he5 fun h => h)
          have h1 := hF.fresh x hn
          have h2 := hF.lt hn
          rcases hU.all x hx with h | h | h
          · exact hF.apart c x (by rw [hkc]; exact h) hn
          · have := hb.tree.lt (b := x) (.inr ⟨c, h⟩); omega
          · omega
      have hb1 : ∀ a1, (akids c).ptr = some ⟨a1, 0, none⟩ → ∃ cs T, Blk w4 a1 cs T := fun a1 h => by
        have h1 := ha4.tree.2 c
        cases hkc' : akids c with
        | nil => rw [hkc'] at h; cases h
        | node a3 ow3 p3 v3 ks3 kids3 =>
          rw [hkc'] at h h1
          obtain rfl : a3 = a1 := by simpa [T.ptr] using h
          obtain ⟨pv, hb, -⟩ := h1.1.blk
          exact ⟨_, _, hb⟩
      have hb2' : ∃ cs T, Blk w4 a2 cs T := by
        have := hU.tree
        rw [ht2e] at this
        obtain ⟨pv, hb, -⟩ := this.1.blk
        exact ⟨_, _, hb⟩
      have hpk : (akids c).ptr = none ∨ ∃ a1, (akids c).ptr = some ⟨a1, 0, none⟩ := by
        cases akids c with
        | nil => exact .inl rfl
        | node a3 => exact .inr ⟨a3, rfl⟩
      obtain ⟨cs2, T2, hb2'⟩ := hb2'
      rcases hpk with h | ⟨a1, h⟩
      · have e0 : ∀ K : Value → Prop, K (.bool true) → xPNe P w4 t2.v (akids c).v K := fun K k => by
          show xPtrs P w4 (.pointer t2.ptr) (.pointer (akids c).ptr) _
          rw [hp2, h]; exact k
        refine e0 _ ?_
        refine xifT rfl ?_
        exact neC (by rw [hp2, h]; simp)
      · obtain ⟨cs1, T1, hb1⟩ := hb1 a1 h
        by_cases e : a2 = a1
        · have e0 : ∀ K : Value → Prop, K (.bool false) → xPNe P w4 t2.v (akids c).v K := fun K k => by
            show xPtrs P w4 (.pointer t2.ptr) (.pointer (akids c).ptr) _
            rw [hp2, h, e]
            exact xsame (t := true) (run_sameAddr_same _ _) k
          refine e0 _ ?_
          refine xifF rfl ?_
          exact eqC (by rw [hp2, h, e])
        · have e0 : ∀ K : Value → Prop, K (.bool true) → xPNe P w4 t2.v (akids c).v K := fun K k => by
            show xPtrs P w4 (.pointer t2.ptr) (.pointer (akids c).ptr) _
            rw [hp2, h]
            exact xsame (t := false) (run_sameAddr_other _ (by simp [e]) hb2'.h hb1.h) k
          refine e0 _ ?_
          refine xifT rfl ?_
          exact neC (by rw [hp2, h]; simp [e])
    · rintro vs g w3 ⟨z0, z1, nv3, kids3, m3, rfl, hL3, hcan3, hrest3, hlf3, hall3, hid3⟩
      obtain ⟨hm3, hE3⟩ := hL3.cn
      refine (hO.ext hE3 (hmS.ne hO (by decide))).ld (v := (T.node ba bow bpart bval bks bkids).v) rfl ?_
      have hcb := u8_lt c
      refine xi (r := (c.toNat : Int)) (wrapI (by omega)) ?_
      refine xi (r := ((c.toNat + 1 : Nat) : Int)) (by rw [wrapI (by omega)]; omega) ?_
      refine (c_Next (hb.extM hmS hE3).tree (i := c.toNat + 1) (by omega)).mono ?_
      rintro r w4 ⟨rfl, he4⟩
      have hnx : next2 (ptrs (T.node ba bow bpart bval bks bkids).kid) (c.toNat + 1) = .tuple #[nxB rest, nxP (ptrs bkids) rest] := next2_of (nextB_succ hdr)
      rw [hnx]
      exact xnext rest.length (by simp) ⟨d ++ [c], rest, z0, z1, nv3, kids3, m3, rfl, rfl, by rw [hdr]; simp, hL3.extN he4, hcan3, hrest3, hlf3, hall3, hid3⟩
end
end Go.Proofs.YtbgfmgkimccbeaaGreatDoor
end
section
namespace Go.Proofs.YtbgfmgkimccbeaaGreatDoor
open Go Go.RowKit X
set_option linter.unusedSimpArgs false
set_option linter.unusedVariables false
set_option linter.unusedSectionVars false
variable [Floor]
/-- what follows in joiner.level, when it is told which of the two is written to -/
def RestT (K : Value → World → Prop) (j ea eb bb oo : Nat) (w1017 : World) : Prop :=
  XLdN w1017 ⟨j, 0, none⟩ 4 fun v1033 =>
  XLd w1017 ((⟨ea, 0, none⟩ : Addr).add 0) fun v1034 =>
  XLd w1017 ((⟨eb, 0, none⟩ : Addr).add 0) fun v1035 =>
  Ret P n_union_joiner_value [v1033, v1034, v1035] w1017 fun v1036 w1037 =>
  xTup v1036 0 fun v1038 =>
  xTup v1036 1 fun v1039 =>
  XLd w1037 ((⟨bb, 0, none⟩ : Addr).add 0) fun v1040 =>
  Ret P n_node_Node_Val [v1040] w1037 fun v1041 w1042 =>
  xTup v1041 0 fun v1043 =>
  xTup v1041 1 fun v1044 =>
  XJ (fun J1045 =>
  XJ (fun J1049 =>
  xBNe v1039 v1044 fun v1053 =>
  xIf v1053 (J1049 [(.bool true)] w1042) (xNe v1038 v1043 fun v1054 =>
  J1049 [v1054] w1042)) fun vs1050 g1051 w1052 =>
  xIf (vs1050.getD 0 undef) (XLdN w1052 ⟨j, 0, none⟩ 4 fun v1055 =>
  XLdN w1052 ⟨bb, 0, none⟩ 2 fun v1056 =>
  Ret P n_union_joiner_write [v1055, (.pointer none), v1056] w1052 fun v1057 w1058 =>
  XLd w1058 ((⟨j, 0, none⟩ : Addr).add 2) fun v1059 =>
  Ret P n_node_Node_SetVal [v1057, v1059, v1038] w1058 fun v1060 w1061 =>
  J1045 [v1057] w1061) (J1045 [(.pointer none)] w1052)) fun vs1046 g1047 w1048 =>
  XLdN w1048 ⟨oo, 0, none⟩ 2 fun v1062 =>
  Ret P n_union_end_leaf [v1062] w1048 fun v1063 w1064 =>
  xIf v1063 (XLdN w1064 ⟨j, 0, none⟩ 4 fun v1065 =>
  XLdN w1064 ⟨bb, 0, none⟩ 2 fun v1066 =>
  Ret P n_union_joiner_done [v1065, (vs1046.getD 0 undef), v1066] w1064 fun v1067 w1068 =>
  K v1067 w1068) (XLd w1064 ((⟨oo, 0, none⟩ : Addr).add 0) fun v1069 =>
  Ret P n_node_Node_Next [v1069, (.int .i64 0)] w1064 fun v1070 w1071 =>
  xTup v1070 0 fun v1072 =>
  xTup v1070 1 fun v1073 =>
  XLoop [v1073, v1072, undef, undef, (vs1046.getD 0 undef)] w1071 (S_union_joiner_level_l1 K ⟨j, 0, none⟩ ⟨bb, 0, none⟩ ⟨oo, 0, none⟩))
theorem xbne {a b : Bool} {K : Value → Prop} (k : K (.bool (!(a == b)))) : xBNe (.bool a) (.bool b) K := k
theorem kind_ne {ks : List Nat} {m : UInt8 → Option Addr} (h : ks ≠ []) : kindV ks m ≠ 1 := by
  unfold kindV
  rw [if_neg h]
  intro h
  have := kindN_mem (cnt_le m)
  rw [h] at this
  revert this; decide
section
variable {wS w : World} {a b : T} {xa xow ya yow o p n oa ob ox jb ea eb bb oo M m : Nat} {xpart : Key} {xval V : Option Nat} {xks : List Nat} {xkids kids : UInt8 → T} {mt : Option Mtr} {nv : Value}
/-- the value is written, if it is another one -/
theorem c_uVal (hX : Go1 wS (.node xa xow xpart xval xks xkids) ox) (ho : o ≠ 0) (hm : Mt wS mt n) (hj : Blk wS jb (joiC p o mt) T_union_joiner) (hB : Blk wS bb [(T.node xa xow xpart xval xks xkids).v, .int .i64 ox] T_union_end)
    (hV : V.isSome = false → xval = none) (h64 : V.getD 0 < 18446744073709551616) :
    XJ (fun J1049 => xBNe (.bool V.isSome) (.bool xval.isSome) fun v1053 => xIf v1053 (J1049 [(.bool true)] wS) (xNe (.int .u64 (V.getD 0 : Nat)) (.int .u64 (xval.getD 0 : Nat)) fun v1054 => J1049 [v1054] wS)) fun vs1050 g1051 w1052 =>
      xIf (vs1050.getD 0 undef) (XLdN w1052 ⟨jb, 0, none⟩ 4 fun v1055 => XLdN w1052 ⟨bb, 0, none⟩ 2 fun v1056 => Ret P n_union_joiner_write [v1055, (.pointer none), v1056] w1052 fun v1057 w1058 =>
        XLd w1058 ((⟨jb, 0, none⟩ : Addr).add 2) fun v1059 => Ret P n_node_Node_SetVal [v1057, v1059, .int .u64 (V.getD 0 : Nat)] w1058 fun v1060 w1061 =>
        (fun vs w' => ∃ nv m, vs = [nv] ∧ LS wS xval xks xkids (xpart.drop ox) o mt w' m nv V xkids ∧ (V = xval → nv = .pointer none ∧ m = n)) [v1057] w1061)
        ((fun vs w' => ∃ nv m, vs = [nv] ∧ LS wS xval xks xkids (xpart.drop ox) o mt w' m nv V xkids ∧ (V = xval → nv = .pointer none ∧ m = n)) [(.pointer none)] w1052) := by
  refine xj (fun vs w' => vs = [.bool (!decide (V = xval))] ∧ w' = wS) ?_ ?_
  · cases V with
    | none =>
      obtain rfl := hV rfl
      refine xbne ?_
      refine xifF rfl ?_
      exact ⟨rfl, rfl⟩
    | some v =>
      cases xval with
      | none =>
        refine xbne ?_
        refine xifT rfl ?_
        exact ⟨rfl, rfl⟩
      | some u =>
        refine xbne ?_
        refine xifF rfl ?_
        refine ⟨?_, rfl⟩
        show [Value.bool (((v : Nat) : Int) != ((u : Nat) : Int))] = _
        by_cases e : v = u
        · subst e; simp
        · rw [decide_eq_false (by simpa using e)]
          congr 2
          simp; omega
  · rintro vs g w1 ⟨rfl, rfl⟩
    by_cases e : V = xval
    · rw [decide_eq_true e]
      refine xifF rfl ⟨_, n, rfl, .inl ⟨rfl, e, rfl, hm, Ext.refl _ _⟩, fun _ => ⟨rfl, rfl⟩⟩
    · rw [decide_eq_false e]
      obtain ⟨v, rfl⟩ : ∃ v, V = some v := by
        cases V with
        | none => exact absurd (hV rfl).symm e
        | some v => exact ⟨v, rfl⟩
      refine xifT rfl ?_
      refine hj.ldA rfl ?_
      refine hB.ldA rfl ?_
      refine (c_uWriteNew (p := p) hX.tree hm ho hX.off).mono ?_
      rintro _ w2 ⟨u, uks, rfl, hF, hiff⟩
      have hj2 := hj.ext hF.ext (hm.ne hj (by decide))
      refine hj2.ld (v := .int .u64 o) rfl ?_
      refine (c_FVal hF ho h64).mono ?_
      rintro _ w3 ⟨hF3, -⟩
      exact ⟨_, _, rfl, .inr ⟨u, uks, rfl, hF3, hiff⟩, fun h => absurd h e⟩
/-- what is answered in the end -/
theorem c_uEnd (hX : Go1 wS (.node xa xow xpart xval xks xkids) ox) (ho : o ≠ 0) (hmS : Mt wS mt n) (hL : LS wS xval xks xkids (xpart.drop ox) o mt w m nv V kids) (hcnt : xks = [] ↔ cnt (ptrs kids) = 0) (hlf : ∀ c, (kids c).Leafy) :
    Ret P n_union_joiner_done [joiV p o mt, nv, endV (.node xa xow xpart xval xks xkids) ox] w fun r w' => ∃ t' n', r = t'.v ∧ Tree w' t' ∧ Mt w' mt n' ∧ Ext (MX mt) wS w' ∧ t'.Leafy ∧ t'.er = .node (xpart.drop ox) V (fun c => (kids c).er) ∧
      (∀ x, t'.All x → (T.node xa xow xpart xval xks xkids).All x ∨ (∃ c, (kids c).All x) ∨ wS.heap.size ≤ x) ∧ (nv = .pointer none → ox = 0 → t'.ptr = (T.node xa xow xpart xval xks xkids).ptr ∧ n' = m) := by
  have hz := hL.cn.2.size
  rcases hL with ⟨rfl, rfl, rfl, hm, hE⟩ | ⟨u, uks, rfl, hF, hiff⟩
  · have hX' := hX.extM hmS hE
    refine (c_uDoneNew (p := p) hX'.tree hm ho hX.off).mono ?_
    rintro _ w2 ⟨t', n', rfl, htr, her, hl, hall, hm2, -, hz', he2⟩
    exact ⟨t', n', rfl, htr, hm2, hE.transS he2, hl hX.leafy, her, fun x hx => (hall x hx).imp id fun h => .inr (by omega), fun _ h0 => by obtain ⟨rfl, rfl⟩ := hz' h0; exact ⟨rfl, rfl⟩⟩
  · refine c_uDoneOld.mono ?_
    rintro _ w2 ⟨rfl, he2⟩
    refine ⟨.node u o (xpart.drop ox) V uks kids, m, rfl, hF.tree.extN he2, hF.cnt.extN he2, hF.ext.transN he2, ⟨hiff.trans hcnt, hlf⟩, rfl, fun x hx => ?_, fun h => by cases h⟩
    rcases hx with hx | hx
    · exact .inr (.inr (hF.fresh x hx))
    · exact .inr (.inl hx)
end
end Go.Proofs.YtbgfmgkimccbeaaGreatDoor
end
section
namespace Go.Proofs.YtbgfmgkimccbeaaGreatDoor
open Go Go.RowKit X
set_option linter.unusedSimpArgs false
set_option linter.unusedVariables false
set_option linter.unusedSectionVars false
variable [Floor]
theorem kids_none {kids : UInt8 → T} (h : cnt (ptrs kids) = 0) (c : UInt8) : kids c = .nil := by
  have h1 := cnt_zero h c
  cases e : kids c with
  | nil => rfl
  | node => simp [ptrs, e, T.ptr] at h1
theorem mt_ne {kids : UInt8 → T} (h : cnt (ptrs kids) ≠ 0) : ∃ c, c ∈ dom (ptrs kids) := by
  cases e : dom (ptrs kids) with
  | nil => exact absurd (by unfold cnt; rw [e]; rfl) h
  | cons c r => exact ⟨c, by simp⟩
section
variable {wS w : World} {aa aow ba bow o p n oa ob jb ea eb bb oo M : Nat} {apart bpart : Key} {aval bval : Option Nat} {aks bks : List Nat} {akids bkids : UInt8 → T} {mt : Option Mtr}
theorem v64_of {w : World} {a ow : Nat} {part : Key} {val : Option Nat} {ks : List Nat} {kids : UInt8 → T} (h : Tree w (.node a ow part val ks kids)) : val.getD 0 < 18446744073709551616 := by
  cases val with
  | none => show 0 < _; omega
  | some v => exact h.1.v64 v rfl
theorem merge64 {x y : Option Nat} (hx : x.getD 0 < 18446744073709551616) (hy : y.getD 0 < 18446744073709551616) : (mergeO p x y).getD 0 < 18446744073709551616 := by
  cases x with
  | none => exact hy
  | some a =>
    cases y with
    | none => exact hx
    | some b => exact pick_lt hx hy
/-- the first one is written to -/
theorem c_uRestA (hI : OfS p o mt M) (ha : Go1 wS (.node aa aow apart aval aks akids) oa) (hb : Go1 wS (.node ba bow bpart bval bks bkids) ob) (ho : o ≠ 0) (hp : 1 ≤ p ∧ p ≤ 5) (hM : ((T.node aa aow apart aval aks akids).er.long + 1 - oa) + ((T.node ba bow bpart bval bks bkids).er.long + 1 - ob) ≤ M)
    (hq : apart.drop oa = bpart.drop ob) (hns : aks = [] → bks = []) (hm : Mt wS mt n) (hj : Blk wS jb (joiC p o mt) T_union_joiner)
    (hA : Blk wS ea [(T.node aa aow apart aval aks akids).v, .int .i64 oa] T_union_end) (hBe : Blk wS eb [(T.node ba bow bpart bval bks bkids).v, .int .i64 ob] T_union_end)
    (hB : Blk wS bb [(T.node aa aow apart aval aks akids).v, .int .i64 oa] T_union_end) (hO : Blk wS oo [(T.node ba bow bpart bval bks bkids).v, .int .i64 ob] T_union_end)
    {K : Value → World → Prop} (hK : ∀ t' n' w', UR wS w' p (.node aa aow apart aval aks akids) (.node ba bow bpart bval bks bkids) oa ob t' mt n n' → K t'.v w') : RestT K jb ea eb bb oo wS := by
  have hva := v64_of ha.tree
  have hvb := v64_of hb.tree
  unfold RestT
  refine hj.ldA rfl ?_
  refine hA.ld (v := (T.node aa aow apart aval aks akids).v) rfl ?_
  refine hBe.ld (v := (T.node ba bow bpart bval bks bkids).v) rfl ?_
  refine (c_uValue (p := p) ha.tree hb.tree hp).mono ?_
  rintro _ w1 ⟨rfl, he1⟩
  refine (hB.ext he1 fun h => h).ld (v := (T.node aa aow apart aval aks akids).v) rfl ?_
  refine (c_Val (ha.tree.extN he1)).mono ?_
  rintro _ w2 ⟨rfl, rfl⟩
  have ha1 := ha.extN he1
  have hb1 := hb.extN he1
  have hm1 := hm.extN he1
  have hj1 := hj.ext he1 fun h => h
  have hB1 := hB.ext he1 fun h => h
  have hO1 := hO.ext he1 fun h => h
  have hz1 := he1.size
  generalize hV : mergeO p (T.node aa aow apart aval aks akids).val (T.node ba bow bpart bval bks bkids).val = V
  have hV : mergeO p aval bval = V := hV
  have hVs : V.isSome = (aval.isSome || bval.isSome) := by rw [← hV, merge_isSome]
  -- what is known in the end
  have fin : ∀ (t' : T) (n' : Nat) (kids' : UInt8 → T) (nv' : Value) (m' : Nat) (w' : World), Tree w' t' → Mt w' mt n' → Ext (MX mt) w2 w' → t'.Leafy → t'.er = .node (apart.drop oa) V (fun c => (kids' c).er) →
      (∀ x, t'.All x → (T.node aa aow apart aval aks akids).All x ∨ (T.node ba bow bpart bval bks bkids).All x ∨ w2.heap.size ≤ x) → (∀ c, Can (kids' c).er fun r => mergeO p ((akids c).er.get r) ((bkids c).er.get r)) →
      (V = aval → (∀ c r, mergeO p ((akids c).er.get r) ((bkids c).er.get r) = (akids c).er.get r) → nv' = .pointer none ∧ m' = n) → (nv' = .pointer none → oa = 0 → t'.ptr = (T.node aa aow apart aval aks akids).ptr ∧ n' = m') →
      UR wS w' p (.node aa aow apart aval aks akids) (.node ba bow bpart bval bks bkids) oa ob t' mt n n' := by
    intro t' n' kids' nv' m' w' h1 h2 h3 h4 h5 h6 h7 h8 h9
    refine ⟨h1, h2, (he1.mono fun _ _ h => h.elim).transS h3, fun x hx => (h6 x hx).imp id (Or.imp id fun h => by omega), h4, ⟨?_, fun k => ?_⟩, fun h0 hmg => ?_⟩
    · rw [h5]
      refine fine_grow (offE_fine (off := oa) ha.fine) (fun h => by rw [hVs, h, Bool.true_or]) (fun c h => ?_) fun c => (h7 c).fine
      obtain ⟨k, v, hk⟩ := E.Fine.some_key (ha.fine.2 c) (fun e => by have e : (akids c).er = .nil := e; rw [e] at h; cases h)
      have hk : (akids c).er.get k = some v := hk
      refine get_some_opt (k := k) ?_
      rw [(h7 c).get k, merge_isSome, hk]; rfl
    · rw [h5]
      show (E.node (apart.drop oa) V fun c => (kids' c).er).get k = mergeO p ((E.node (apart.drop oa) aval fun c => (akids c).er).get k) ((E.node (bpart.drop ob) bval fun c => (bkids c).er).get k)
      rw [← hq, ← hV]
      exact merge_node (fun c r => (h7 c).get r) k
    · subst h0
      have hmg' : ∀ k, mergeO p ((E.node apart aval fun c => (akids c).er).get k) ((E.node apart bval fun c => (bkids c).er).get k) = (E.node apart aval fun c => (akids c).er).get k := fun k => by
        have := hmg k
        have hq' : bpart.drop ob = apart := by rw [← hq]; rfl
        have e : offE ob (T.node ba bow bpart bval bks bkids).er = E.node apart bval fun c => (bkids c).er := by
          show E.node (bpart.drop ob) bval _ = _
          rw [hq']
        rw [e] at this
        exact this
      have hval : V = aval := by
        have := hmg' apart
        rw [get_nil, get_nil] at this
        rw [← hV]; exact this
      have hks : ∀ c r, mergeO p ((akids c).er.get r) ((bkids c).er.get r) = (akids c).er.get r := fun c r => by
        have := hmg' (apart ++ c :: r)
        rw [get_cons, get_cons] at this
        exact this
      obtain ⟨g1, g2⟩ := h8 hval hks
      obtain ⟨g3, g4⟩ := h9 g1 rfl
      exact ⟨g3, g4.trans g2⟩
  refine xj (fun vs w' => ∃ nv m, vs = [nv] ∧ LS w2 aval aks akids (apart.drop oa) o mt w' m nv V akids ∧ (V = aval → nv = .pointer none ∧ m = n)) ?_ ?_
  · refine c_uVal (p := p) (V := V) ha1 ho hm1 hj1 hB1 (fun h => ?_) (by rw [← hV]; exact merge64 hva hvb)
    rw [hVs] at h
    cases aval with
    | none => rfl
    | some => cases h
  rintro vs g w3 ⟨nv, m, rfl, hL, hidle⟩
  obtain ⟨hm3, hE3⟩ := hL.cn
  have hj3 := hj1.ext hE3 (hm1.ne hj1 (by decide))
  have hB3 := hB1.ext hE3 (hm1.ne hB1 (by decide))
  have hO3 := hO1.ext hE3 (hm1.ne hO1 (by decide))
  refine hO3.ldA rfl ?_
  refine (c_endLeaf (off := ob) (hb1.extM hm1 hE3).tree).mono ?_
  rintro _ w4 ⟨rfl, he4⟩
  have hL4 := hL.extN he4
  have hj4 := hj3.ext he4 fun h => h
  have hB4 := hB3.ext he4 fun h => h
  have hO4 := hO3.ext he4 fun h => h
  by_cases hbl : bks = []
  · have hbn : ∀ c, bkids c = .nil := kids_none (hb.leafy.1.1 hbl)
    refine xifT (by show (((kindV bks (ptrs bkids) : Nat) : Int) == 1) = true; unfold kindV; rw [if_pos hbl]; rfl) ?_
    refine hj4.ldA rfl ?_
    refine hB4.ldA rfl ?_
    refine (c_uEnd (p := p) ha1 ho hm1 hL4 ha.leafy.1 ha.leafy.2).mono ?_
    rintro _ w5 ⟨t', n', rfl, h1, h2, h3, h4, h5, h6, h7⟩
    refine hK t' n' _ (fin t' n' akids nv m w5 h1 h2 h3 h4 h5 (fun x hx => ?_) (fun c => ⟨ha.fine.2 c, fun r => by rw [hbn c]; show _ = mergeO p _ none; rw [merge_none]⟩) (fun h _ => hidle h) h7)
    rcases h6 x hx with h | ⟨c, h⟩ | h
    · exact .inl h
    · exact .inl (.inr ⟨c, h⟩)
    · exact .inr (.inr h)
  · have haks : aks ≠ [] := fun h => hbl (hns h)
    refine xifF (beq_eq_false_iff_ne.2 (by have := kind_ne (m := ptrs bkids) hbl; show ((kindV bks (ptrs bkids) : Nat) : Int) ≠ 1; omega)) ?_
    refine hO4.ld (v := (T.node ba bow bpart bval bks bkids).v) rfl ?_
    refine c_uLoop (p := p) (n := n) hI ha1 hb1 haks ho hM hm1 hj1 hB1 hO1 hL4 (fun h _ => hidle h) ?_
    intro w5 nv5 m5 kids5 hL5 hcan5 hlf5 hall5 hid5
    refine (c_uEnd (p := p) ha1 ho hm1 hL5 ?_ hlf5).mono ?_
    · refine iff_of_false haks fun h0 => ?_
      have hc := mt_ne (kids := akids) (fun h => haks (ha.leafy.1.2 h))
      obtain ⟨c, hc⟩ := hc
      have h1 := kids_none h0 c
      obtain ⟨k, v, hk⟩ := E.Fine.some_key (ha.fine.2 c) (fun e => by
        have h2 := dom_mem.1 hc
        have h3 : (akids c).er.opt.isSome = (akids c).ptr.isSome := T.er_opt _
        rw [show (akids c).er = .nil from e] at h3
        have h2 : (akids c).ptr.isSome = true := h2
        rw [← h3] at h2; cases h2)
      have h2 := (hcan5 c).get k
      rw [h1] at h2
      have h3 := congrArg Option.isSome h2
      have hk : (akids c).er.get k = some v := hk
      rw [merge_isSome, hk] at h3
      simp [T.er, E.get] at h3
    · rintro _ w6 ⟨t', n', rfl, h1, h2, h3, h4, h5, h6, h7⟩
      refine hK t' n' _ (fin t' n' kids5 nv5 m5 w6 h1 h2 h3 h4 h5 (fun x hx => ?_) hcan5 hid5 h7)
      rcases h6 x hx with h | ⟨c, h⟩ | h
      · exact .inl h
      · exact hall5 c x h
      · exact .inr (.inr h)
end
end Go.Proofs.YtbgfmgkimccbeaaGreatDoor
end
section
namespace Go.Proofs.YtbgfmgkimccbeaaGreatDoor
open Go Go.RowKit X
set_option linter.unusedSimpArgs false
set_option linter.unusedVariables false
set_option linter.unusedSectionVars false
variable [Floor]
section
variable {wS w : World} {aa aow ba bow o p n oa ob jb ea eb bb oo M : Nat} {apart bpart : Key} {aval bval : Option Nat} {aks bks : List Nat} {akids bkids : UInt8 → T} {mt : Option Mtr}
theorem c_uRestB (ha : Go1 wS (.node aa aow apart aval aks akids) oa) (hb : Go1 wS (.node ba bow bpart bval bks bkids) ob) (ho : o ≠ 0) (hp : 1 ≤ p ∧ p ≤ 5)
    (hq : apart.drop oa = bpart.drop ob) (hal : aks = []) (hbl : bks ≠ []) (hm : Mt wS mt n) (hj : Blk wS jb (joiC p o mt) T_union_joiner)
    (hA : Blk wS ea [(T.node aa aow apart aval aks akids).v, .int .i64 oa] T_union_end) (hBe : Blk wS eb [(T.node ba bow bpart bval bks bkids).v, .int .i64 ob] T_union_end)
    (hB : Blk wS bb [(T.node ba bow bpart bval bks bkids).v, .int .i64 ob] T_union_end) (hO : Blk wS oo [(T.node aa aow apart aval aks akids).v, .int .i64 oa] T_union_end)
    {K : Value → World → Prop} (hK : ∀ t' n' w', UR wS w' p (.node aa aow apart aval aks akids) (.node ba bow bpart bval bks bkids) oa ob t' mt n n' → K t'.v w') : RestT K jb ea eb bb oo wS := by
  have hva := v64_of ha.tree
  have hvb := v64_of hb.tree
  have han : ∀ c, akids c = .nil := kids_none (ha.leafy.1.1 hal)
  unfold RestT
  refine hj.ldA rfl ?_
  refine hA.ld (v := (T.node aa aow apart aval aks akids).v) rfl ?_
  refine hBe.ld (v := (T.node ba bow bpart bval bks bkids).v) rfl ?_
  refine (c_uValue (p := p) ha.tree hb.tree hp).mono ?_
  rintro _ w1 ⟨rfl, he1⟩
  refine (hB.ext he1 fun h => h).ld (v := (T.node ba bow bpart bval bks bkids).v) rfl ?_
  refine (c_Val (hb.tree.extN he1)).mono ?_
  rintro _ w2 ⟨rfl, rfl⟩
  have ha1 := ha.extN he1
  have hb1 := hb.extN he1
  have hm1 := hm.extN he1
  have hj1 := hj.ext he1 fun h => h
  have hB1 := hB.ext he1 fun h => h
  have hO1 := hO.ext he1 fun h => h
  have hz1 := he1.size
  generalize hV : mergeO p (T.node aa aow apart aval aks akids).val (T.node ba bow bpart bval bks bkids).val = V
  have hV : mergeO p aval bval = V := hV
  have hVs : V.isSome = (aval.isSome || bval.isSome) := by rw [← hV, merge_isSome]
  refine xj (fun vs w' => ∃ nv m, vs = [nv] ∧ LS w2 bval bks bkids (bpart.drop ob) o mt w' m nv V bkids ∧ (V = bval → nv = .pointer none ∧ m = n)) ?_ ?_
  · refine c_uVal (p := p) (V := V) hb1 ho hm1 hj1 hB1 (fun h => ?_) (by rw [← hV]; exact merge64 hva hvb)
    rw [hVs] at h
    cases bval with
    | none => rfl
    | some => simp at h
  rintro vs g w3 ⟨nv, m, rfl, hL, -⟩
  obtain ⟨hm3, hE3⟩ := hL.cn
  have hj3 := hj1.ext hE3 (hm1.ne hj1 (by decide))
  have hB3 := hB1.ext hE3 (hm1.ne hB1 (by decide))
  have hO3 := hO1.ext hE3 (hm1.ne hO1 (by decide))
  refine hO3.ldA rfl ?_
  refine (c_endLeaf (off := oa) (ha1.extM hm1 hE3).tree).mono ?_
  rintro _ w4 ⟨rfl, he4⟩
  have hL4 := hL.extN he4
  have hj4 := hj3.ext he4 fun h => h
  have hB4 := hB3.ext he4 fun h => h
  refine xifT (by show (((kindV aks (ptrs akids) : Nat) : Int) == 1) = true; unfold kindV; rw [if_pos hal]; rfl) ?_
  refine hj4.ldA rfl ?_
  refine hB4.ldA rfl ?_
  refine (c_uEnd (p := p) hb1 ho hm1 hL4 hb.leafy.1 hb.leafy.2).mono ?_
  rintro _ w5 ⟨t', n', rfl, h1, h2, h3, h4, h5, h6, -⟩
  refine hK t' n' _ ⟨h1, h2, (he1.mono fun _ _ h => h.elim).transS h3, fun x hx => ?_, h4, ⟨?_, fun k => ?_⟩, fun h0 hmg => ?_⟩
  · rcases h6 x hx with h | ⟨c, h⟩ | h
    · exact .inr (.inl h)
    · exact .inr (.inl (.inr ⟨c, h⟩))
    · exact .inr (.inr (by omega))
  · rw [h5]
    exact fine_grow (offE_fine (off := ob) hb.fine) (fun h => by rw [hVs, h, Bool.or_true]) (fun c h => h) fun c => hb.fine.2 c
  · rw [h5]
    show (E.node (bpart.drop ob) V fun c => (bkids c).er).get k = mergeO p ((E.node (apart.drop oa) aval fun c => (akids c).er).get k) ((E.node (bpart.drop ob) bval fun c => (bkids c).er).get k)
    rw [hq, ← hV]
    exact merge_node (fun c r => by rw [han c]; rfl) k
  · exfalso
    subst h0
    obtain ⟨c, hc⟩ := mt_ne (kids := bkids) (fun h => hbl (hb.leafy.1.2 h))
    obtain ⟨k, v, hk⟩ := E.Fine.some_key (hb.fine.2 c) (fun e => by
      have h2 := dom_mem.1 hc
      have h3 : (bkids c).er.opt.isSome = (bkids c).ptr.isSome := T.er_opt _
      rw [show (bkids c).er = .nil from e] at h3
      have h2 : (bkids c).ptr.isSome = true := h2
      rw [← h3] at h2; cases h2)
    have hk : (bkids c).er.get k = some v := hk
    have hq' : bpart.drop ob = apart := by rw [← hq]; rfl
    have := hmg (apart ++ c :: k)
    have e : offE ob (T.node ba bow bpart bval bks bkids).er = E.node apart bval fun c => (bkids c).er := by
      show E.node (bpart.drop ob) bval _ = _
      rw [hq']
    rw [e] at this
    have this : mergeO p ((E.node apart aval fun c => (akids c).er).get (apart ++ c :: k)) ((E.node apart bval fun c => (bkids c).er).get (apart ++ c :: k)) = (E.node apart aval fun c => (akids c).er).get (apart ++ c :: k) := this
    rw [get_cons, get_cons, hk, han c] at this
    cases this
end
end Go.Proofs.YtbgfmgkimccbeaaGreatDoor
end
section
namespace Go.Proofs.YtbgfmgkimccbeaaGreatDoor
open Go Go.RowKit X
set_option linter.unusedSimpArgs false
set_option linter.unusedVariables false
set_option linter.unusedSectionVars false
variable [Floor]
def MidT (K : Value → World → Prop) (j ea eb bb oo : Nat) (w1013 : World) : Prop :=
  XJ (fun J1014 =>
  XJ (fun J1018 =>
  XLdN w1013 ⟨ea, 0, none⟩ 2 fun v1022 =>
  Ret P n_union_end_leaf [v1022] w1013 fun v1023 w1024 =>
  xIf v1023 (XLdN w1024 ⟨eb, 0, none⟩ 2 fun v1025 =>
  Ret P n_union_end_leaf [v1025] w1024 fun v1026 w1027 =>
  xNot v1026 fun v1028 =>
  J1018 [v1028] w1027) (J1018 [(.bool false)] w1024)) fun vs1019 g1020 w1021 =>
  xIf (vs1019.getD 0 undef) (XLdN w1021.drew ⟨eb, 0, none⟩ 2 fun v1029 =>
  XLdN w1021.drew ⟨ea, 0, none⟩ 2 fun v1030 =>
  XDo P (storeVar T_union_end ⟨bb, 0, none⟩ v1029) w1021.drew fun w1031 =>
  xKeepN w1031 (.pointer (some ⟨ea, 0, none⟩)) v1030 ∧ (XDo P (storeVar T_union_end ⟨oo, 0, none⟩ v1030) w1031 fun w1032 =>
  J1014 [] w1032)) (J1014 [] w1021)) fun vs1015 g1016 w1017 => RestT K j ea eb bb oo w1017
section
variable {w0 w : World} {aa aow ba bow o p n oa ob jb ea eb bb oo M : Nat} {apart bpart : Key} {aval bval : Option Nat} {aks bks : List Nat} {akids bkids : UInt8 → T} {mt : Option Mtr}
theorem c_uMid (hI : OfS p o mt M) (ha : Go1 w0 (.node aa aow apart aval aks akids) oa) (hb : Go1 w0 (.node ba bow bpart bval bks bkids) ob) (ho : o ≠ 0) (hp : 1 ≤ p ∧ p ≤ 5) (hM : ((T.node aa aow apart aval aks akids).er.long + 1 - oa) + ((T.node ba bow bpart bval bks bkids).er.long + 1 - ob) ≤ M)
    (hq : apart.drop oa = bpart.drop ob) (hm : Mt w0 mt n) (hE : Ext No w0 w) (hj : Blk w jb (joiC p o mt) T_union_joiner)
    (hA : Blk w ea [(T.node aa aow apart aval aks akids).v, .int .i64 oa] T_union_end) (hBe : Blk w eb [(T.node ba bow bpart bval bks bkids).v, .int .i64 ob] T_union_end)
    (hB : Blk w bb [(T.node aa aow apart aval aks akids).v, .int .i64 oa] T_union_end) (hO : Blk w oo [(T.node ba bow bpart bval bks bkids).v, .int .i64 ob] T_union_end)
    (h1 : w0.heap.size ≤ bb) (h2 : w0.heap.size ≤ oo) (h3 : bb ≠ oo) (h4 : bb ≠ ea ∧ bb ≠ eb ∧ oo ≠ ea ∧ oo ≠ eb ∧ bb ≠ jb ∧ oo ≠ jb)
    {K : Value → World → Prop} (hK : ∀ t' n' w', UR w0 w' p (.node aa aow apart aval aks akids) (.node ba bow bpart bval bks bkids) oa ob t' mt n n' → K t'.v w') : MidT K jb ea eb bb oo w := by
  obtain ⟨q1, q2, q3, q4, q5, q6⟩ := h4
  unfold MidT
  have hkA : (((T.node aa aow apart aval aks akids).kind : Nat) : Int) == 1 ↔ aks = [] := by
    constructor
    · intro h
      by_cases e : aks = []
      · exact e
      · have := kind_ne (m := ptrs akids) e
        have h : ((kindV aks (ptrs akids) : Nat) : Int) = 1 := eq_of_beq h
        omega
    · intro e
      show (((kindV aks (ptrs akids) : Nat) : Int) == 1) = true
      unfold kindV; rw [if_pos e]; rfl
  have hkB : (((T.node ba bow bpart bval bks bkids).kind : Nat) : Int) == 1 ↔ bks = [] := by
    constructor
    · intro h
      by_cases e : bks = []
      · exact e
      · have := kind_ne (m := ptrs bkids) e
        have h : ((kindV bks (ptrs bkids) : Nat) : Int) = 1 := eq_of_beq h
        omega
    · intro e
      show (((kindV bks (ptrs bkids) : Nat) : Int) == 1) = true
      unfold kindV; rw [if_pos e]; rfl
  refine xj (fun vs w' => Ext No w0 w' ∧ Blk w' jb (joiC p o mt) T_union_joiner ∧ Blk w' ea [(T.node aa aow apart aval aks akids).v, .int .i64 oa] T_union_end ∧ Blk w' eb [(T.node ba bow bpart bval bks bkids).v, .int .i64 ob] T_union_end ∧
      ((¬ (aks = [] ∧ bks ≠ []) ∧ Blk w' bb [(T.node aa aow apart aval aks akids).v, .int .i64 oa] T_union_end ∧ Blk w' oo [(T.node ba bow bpart bval bks bkids).v, .int .i64 ob] T_union_end) ∨
       ((aks = [] ∧ bks ≠ []) ∧ Blk w' bb [(T.node ba bow bpart bval bks bkids).v, .int .i64 ob] T_union_end ∧ Blk w' oo [(T.node aa aow apart aval aks akids).v, .int .i64 oa] T_union_end))) ?_ ?_
  · refine xj (fun vs w' => ∃ t : Bool, vs = [.bool t] ∧ (t = true ↔ (aks = [] ∧ bks ≠ [])) ∧ Ext No w w') ?_ ?_
    · refine hA.ldA rfl ?_
      refine (c_endLeaf (off := oa) (ha.tree.extN hE)).mono ?_
      rintro _ w1 ⟨rfl, he1⟩
      by_cases ea' : aks = []
      · refine xifT (hkA.2 ea') ?_
        refine (hBe.ext he1 fun h => h).ldA rfl ?_
        refine (c_endLeaf (off := ob) ((hb.tree.extN hE).extN he1)).mono ?_
        rintro _ w2 ⟨rfl, he2⟩
        refine ⟨_, rfl, ?_, he1.transN he2⟩
        by_cases eb' : bks = []
        · rw [hkB.2 eb']; simp [eb']
        · have : ((((T.node ba bow bpart bval bks bkids).kind : Nat) : Int) == 1) = false := by
            cases h : ((((T.node ba bow bpart bval bks bkids).kind : Nat) : Int) == 1) with
            | true => exact absurd (hkB.1 h) eb'
            | false => rfl
          rw [this]; simp [ea', eb']
      · refine xifF (by
          cases h : ((((T.node aa aow apart aval aks akids).kind : Nat) : Int) == 1) with
          | true => exact absurd (hkA.1 h) ea'
          | false => rfl) ?_
        exact ⟨false, rfl, by simp [ea'], he1⟩
    · rintro vs g w1 ⟨t, rfl, ht, he1⟩
      have hE1 := hE.transN he1
      have hj1 := hj.ext he1 fun h => h
      have hA1 := hA.ext he1 fun h => h
      have hBe1 := hBe.ext he1 fun h => h
      have hB1 := hB.ext he1 fun h => h
      have hO1 := hO.ext he1 fun h => h
      cases t with
      | false =>
        refine xifF rfl ?_
        exact ⟨hE1, hj1, hA1, hBe1, .inl ⟨(fun h => by have := ht.2 h; cases this), hB1, hO1⟩⟩
      | true =>
        refine xifT rfl ?_
        have hd := Ext.drew (Ext.refl No w1)
        refine hBe1.drew.ldA rfl ?_
        refine hA1.drew.ldA rfl ?_
        refine store2 (a := (T.node ba bow bpart bval bks bkids).v) (b := .int .i64 ob) hB1.drew (by kernel_rfl) rfl rfl fun w2 hB2 hz2 he2 => ?_
        have hA2 := hA1.drew.ext he2 (by show ¬ ea = bb; omega)
        refine ⟨xkeepN2 hA2, ?_⟩
        refine store2 (a := (T.node aa aow apart aval aks akids).v) (b := .int .i64 oa) (hO1.drew.ext he2 (by show ¬ oo = bb; omega)) (by kernel_rfl) rfl rfl fun w3 hO3 hz3 he3 => ?_
        refine ⟨((hE1.transN hd).trans1 he2 h1).trans1 he3 h2, (hj1.drew.ext he2 (by show ¬ jb = bb; omega)).ext he3 (by show ¬ jb = oo; omega), hA2.ext he3 (by show ¬ ea = oo; omega), (hBe1.drew.ext he2 (by show ¬ eb = bb; omega)).ext he3 (by show ¬ eb = oo; omega), .inr ⟨ht.1 rfl, hB2.ext he3 (by show ¬ bb = oo; omega), hO3⟩⟩
  · rintro vs g w1 ⟨hE1, hj1, hA1, hBe1, ⟨hns, hB1, hO1⟩ | ⟨⟨e1, e2⟩, hB1, hO1⟩⟩
    · exact c_uRestA hI (ha.extN hE1) (hb.extN hE1) ho hp hM hq (fun h => by
        by_cases e : bks = []
        · exact e
        · exact absurd ⟨h, e⟩ hns) (hm.extN hE1) hj1 hA1 hBe1 hB1 hO1 fun t' n' w' hU => hK t' n' w' (hU.from' hE1)
    · exact c_uRestB (ha.extN hE1) (hb.extN hE1) ho hp hq e1 e2 (hm.extN hE1) hj1 hA1 hBe1 hB1 hO1 fun t' n' w' hU => hK t' n' w' (hU.from' hE1)
end
end Go.Proofs.YtbgfmgkimccbeaaGreatDoor
end
section
namespace Go.Proofs.YtbgfmgkimccbeaaGreatDoor
open Go Go.RowKit X
set_option linter.unusedSimpArgs false
set_option linter.unusedVariables false
set_option linter.unusedSectionVars false
variable [Floor]
section
variable {w : World} {aa aow ba bow o p n oa ob M : Nat} {apart bpart : Key} {aval bval : Option Nat} {aks bks : List Nat} {akids bkids : UInt8 → T} {mt : Option Mtr}
set_option maxHeartbeats 1000000 in
theorem c_uLevel (hI : OfS p o mt M) (ha : Go1 w (.node aa aow apart aval aks akids) oa) (hb : Go1 w (.node ba bow bpart bval bks bkids) ob) (ho : o ≠ 0) (hp : 1 ≤ p ∧ p ≤ 5) (hM : ((T.node aa aow apart aval aks akids).er.long + 1 - oa) + ((T.node ba bow bpart bval bks bkids).er.long + 1 - ob) ≤ M)
    (hq : apart.drop oa = bpart.drop ob) (hm : Mt w mt n) :
    Ret P n_union_joiner_level [joiV p o mt, endV (.node aa aow apart aval aks akids) oa, endV (.node ba bow bpart bval bks bkids) ob] w fun r w' => ∃ t' n', r = t'.v ∧ UR w w' p (.node aa aow apart aval aks akids) (.node ba bow bpart bval bks bkids) oa ob t' mt n n' := by
  refine W_union_joiner_level ?_
  refine xnew fun jb w1 hjb hj hz1 he1 => ?_
  have hj : Blk w1 jb (joiC p o mt) T_union_joiner := hj
  refine xnew fun ea w2 hea hA hz2 he2 => ?_
  have hA : Blk w2 ea [(T.node aa aow apart aval aks akids).v, .int .i64 oa] T_union_end := hA
  refine xnew fun eb w3 heb hB hz3 he3 => ?_
  have hB : Blk w3 eb [(T.node ba bow bpart bval bks bkids).v, .int .i64 ob] T_union_end := hB
  have hj3 := ((hj.ext he2 fun h => h).ext he3 fun h => h).drew
  have hA3 := (hA.ext he3 fun h => h).drew
  have hB3 := hB.drew
  have hE3 := ((he1.transN he2).transN he3).transN (Ext.drew (Ext.refl No w3))
  refine hA3.ldA rfl ?_
  refine hB3.ldA rfl ?_
  have hs3 : w3.drew.heap.size = w3.heap.size := rfl
  refine ⟨?_, ?_⟩
  · refine xnew fun bb w4 hbb hb4 hz4 he4 => ⟨xkeepN2 (hB3.ext he4 fun h => h), xkeepN2 (hA3.ext he4 fun h => h), ?_⟩
    refine xnew fun oo w5 hoo ho5 hz5 he5 => ⟨xkeepN2 ((hB3.ext he4 fun h => h).ext he5 fun h => h), xkeepN2 ((hA3.ext he4 fun h => h).ext he5 fun h => h), ?_⟩
    refine store2 (a := (T.node aa aow apart aval aks akids).v) (b := .int .i64 oa) (hb4.ext he5 fun h => h) (by kernel_rfl) rfl rfl fun w6 hb6 hz6 he6 => ⟨xkeepN2 (((hB3.ext he4 fun h => h).ext he5 fun h => h).ext he6 (by show ¬ eb = bb; omega)), ?_⟩
    refine store2 (a := (T.node ba bow bpart bval bks bkids).v) (b := .int .i64 ob) (ho5.ext he6 (by show ¬ oo = bb; omega)) (by kernel_rfl) rfl rfl fun w7 ho7 hz7 he7 => ?_
    have hE5 := (hE3.transN he4).transN he5
    have hs := hE3.size
    show MidT _ jb ea eb bb oo w7
    exact c_uMid hI ha hb ho hp hM hq hm ((hE5.trans1 he6 (by omega)).trans1 he7 (by omega)) ((((hj3.ext he4 fun h => h).ext he5 fun h => h).ext he6 (by show ¬ jb = bb; omega)).ext he7 (by show ¬ jb = oo; omega))
      ((((hA3.ext he4 fun h => h).ext he5 fun h => h).ext he6 (by show ¬ ea = bb; omega)).ext he7 (by show ¬ ea = oo; omega)) ((((hB3.ext he4 fun h => h).ext he5 fun h => h).ext he6 (by show ¬ eb = bb; omega)).ext he7 (by show ¬ eb = oo; omega))
      (hb6.ext he7 (by show ¬ bb = oo; omega)) ho7 (by omega) (by omega) (by omega) ⟨by omega, by omega, by omega, by omega, by omega, by omega⟩ fun t' n' w' hU => ⟨t', n', rfl, hU⟩
  · refine xnew fun oo w4 hoo ho4 hz4 he4 => ⟨xkeepN2 (hB3.ext he4 fun h => h), xkeepN2 (hA3.ext he4 fun h => h), ?_⟩
    refine xnew fun bb w5 hbb hb5 hz5 he5 => ⟨xkeepN2 ((hB3.ext he4 fun h => h).ext he5 fun h => h), xkeepN2 ((hA3.ext he4 fun h => h).ext he5 fun h => h), ?_⟩
    refine store2 (a := (T.node aa aow apart aval aks akids).v) (b := .int .i64 oa) hb5 (by kernel_rfl) rfl rfl fun w6 hb6 hz6 he6 => ⟨xkeepN2 (((hB3.ext he4 fun h => h).ext he5 fun h => h).ext he6 (by show ¬ eb = bb; omega)), ?_⟩
    refine store2 (a := (T.node ba bow bpart bval bks bkids).v) (b := .int .i64 ob) ((ho4.ext he5 fun h => h).ext he6 (by show ¬ oo = bb; omega)) (by kernel_rfl) rfl rfl fun w7 ho7 hz7 he7 => ?_
    have hE5 := (hE3.transN he4).transN he5
    have hs := hE3.size
    show MidT _ jb ea eb bb oo w7
    exact c_uMid hI ha hb ho hp hM hq hm ((hE5.trans1 he6 (by omega)).trans1 he7 (by omega)) ((((hj3.ext he4 fun h => h).ext he5 fun h => h).ext he6 (by show ¬ jb = bb; omega)).ext he7 (by show ¬ jb = oo; omega))
      ((((hA3.ext he4 fun h => h).ext he5 fun h => h).ext he6 (by show ¬ ea = bb; omega)).ext he7 (by show ¬ ea = oo; omega)) ((((hB3.ext he4 fun h => h).ext he5 fun h => h).ext he6 (by show ¬ eb = bb; omega)).ext he7 (by show ¬ eb = oo; omega))
      (hb6.ext he7 (by show ¬ bb = oo; omega)) ho7 (by omega) (by omega) (by omega) ⟨by omega, by omega, by omega, by omega, by omega, by omega⟩ fun t' n' w' hU => ⟨t', n', rfl, hU⟩
end
end Go.Proofs.YtbgfmgkimccbeaaGreatDoor
end
