/-  inter: two nodes that end at once.  -/
import Derived.Test.YtbgfmgkimccbeaaGreatDoorInt2
namespace Go.Proofs.YtbgfmgkimccbeaaGreatDoor
open Go Go.RowKit X
set_option linter.unusedSimpArgs false
set_option linter.unusedVariables false
set_option linter.unusedSectionVars false
variable [Floor]
theorem pickN_lt' {p x y : Nat} (hp : 1 ≤ p ∧ p ≤ 5) (hx : x < 18446744073709551616) (hy : y < 18446744073709551616) : pickN p x y < 18446744073709551616 := by
  obtain ⟨h1, h2⟩ := hp
  match p, h1, h2 with
  | 1, _, _ => exact hx
  | 2, _, _ => exact hy
  | 3, _, _ => exact Nat.mod_lt _ (by omega)
  | 4, _, _ => show min x y < _; omega
  | 5, _, _ => show max x y < _; omega
/-- kids of which what both have is known -/
structure LV (w0 w' : World) (p : Nat) (akids bkids : UInt8 → T) (d : List UInt8) (l : List (UInt8 × T)) (v : Value) (mt : Option Mtr) (n n1 : Nat) : Prop where
  lo : LO w' w0.heap.size v l
  sm : ∀ q ∈ l, q.2 ≠ .nil ∧ q.2.Leafy ∧ q.1 ∈ d ∧ ∀ b, q.2.All b → (akids q.1).All b ∨ w0.heap.size ≤ b
  up : UpK l
  len : l.length ≤ d.length
  can : ∀ c ∈ d, Can (setK l c).er (gI p (akids c).er (bkids c).er 0 0)
  idle : (∀ c ∈ d, ∀ k, gI p (akids c).er (bkids c).er 0 0 k = (akids c).er.get k) → l = d.map (fun c => (c, akids c)) ∧ n1 = n
  cnt : Mt w' mt n1
  ext : Ext (MX mt) w0 w'
theorem setK_no {l : List (UInt8 × T)} {c : UInt8} (h : ∀ q ∈ l, q.1 ≠ c) : setK l c = .nil := by
  by_cases e : setK l c = .nil
  · exact e
  · obtain ⟨q, hq, e1, -⟩ := setK_some e
    exact absurd e1 (h q hq)
theorem xpne_node {w : World} {t : T} (h : t ≠ .nil) {K : Value → Prop} (k : K (.bool true)) : xPNe P w t.v (.pointer none) K := by
  cases t with
  | nil => exact absurd rfl h
  | node => exact k
section
variable {w w0 w' w9 : World} {p n n1 n2 : Nat} {akids bkids : UInt8 → T} {d rest : List UInt8} {l : List (UInt8 × T)} {v : Value} {mt : Option Mtr} {c : UInt8} {t' : T}
theorem LV.skip (h : LV w0 w p akids bkids d l v mt n n1) (hcd : c ∉ d) (hne : akids c ≠ .nil) (hR : IR w w' p (akids c) (bkids c) 0 0 .nil mt n1 n2) : LV w0 w' p akids bkids (d ++ [c]) l v mt n n2 := by
  refine ⟨h.lo.extM h.cnt hR.ext, fun q hq => ⟨(h.sm q hq).1, (h.sm q hq).2.1, List.mem_append_left _ (h.sm q hq).2.2.1, (h.sm q hq).2.2.2⟩, h.up, by simp; have := h.len; omega, fun c' hc' => ?_, fun hi => ?_, hR.cnt, h.ext.transS hR.ext⟩
  · rcases List.mem_append.1 hc' with hc' | hc'
    · exact h.can c' hc'
    · obtain rfl := List.mem_singleton.1 hc'
      rw [setK_no fun q hq e => hcd (by have := (h.sm q hq).2.2.1; rw [e] at this; exact this)]
      exact hR.can
  · exact absurd (hR.idle fun k => hi c (by simp) k).1.symm hne
theorem LV.more {v' : Value} (h : LV w0 w p akids bkids d l v mt n n1) (hcd : c ∉ d) (hup : ∀ c' ∈ d, c'.toNat < c.toNat) (hn : t' ≠ .nil) (hR : IR w w9 p (akids c) (bkids c) 0 0 t' mt n1 n2) (hlo : LO w' w0.heap.size v' (l ++ [(c, t')])) (hm : Mt w' mt n2) (he : Ext (MX mt) w0 w') : LV w0 w' p akids bkids (d ++ [c]) (l ++ [(c, t')]) v' mt n n2 := by
  have hno : ∀ q ∈ l, q.1 ≠ c := fun q hq e => hcd (e ▸ (h.sm q hq).2.2.1)
  have hz := h.ext.size
  refine ⟨hlo, fun q hq => ?_, ?_, by simp; exact h.len, fun c' hc' => ?_, fun hi => ?_, hm, he⟩
  · rcases List.mem_append.1 hq with hq | hq
    · exact ⟨(h.sm q hq).1, (h.sm q hq).2.1, List.mem_append_left _ (h.sm q hq).2.2.1, (h.sm q hq).2.2.2⟩
    · obtain rfl := List.mem_singleton.1 hq
      exact ⟨hn, hR.leafy, by simp, fun b hb => (hR.all b hb).imp id fun h => by omega⟩
  · refine List.pairwise_append.2 ⟨h.up, List.pairwise_singleton _ _, fun q hq r hr => ?_⟩
    rw [List.mem_singleton.1 hr]
    exact hup _ (h.sm q hq).2.2.1
  · rw [setK_snoc hno]
    show Can (updT (setK l) c t' c').er _
    rcases List.mem_append.1 hc' with hc' | hc'
    · rw [updT_other _ _ (fun e : c' = c => hcd (by rw [← e]; exact hc'))]
      exact h.can c' hc'
    · obtain rfl := List.mem_singleton.1 hc'
      rw [updT_same]
      exact hR.can
  · obtain ⟨h1, h2⟩ := hR.idle fun k => hi c (by simp) k
    obtain ⟨h3, h4⟩ := h.idle fun c' hc' => hi c' (List.mem_append_left _ hc')
    rw [List.map_append, ← h3, h1]
    exact ⟨rfl, h2.trans h4⟩
end
section
variable {w : World} {aa aow ba bow o p n oa ob M : Nat} {apart bpart : Key} {aval bval : Option Nat} {aks bks : List Nat} {akids bkids : UInt8 → T} {mt : Option Mtr}
set_option maxRecDepth 100000 in
theorem c_sLevel (hI : OfI p o mt M) (ho : o ≠ 0) (hp : 1 ≤ p ∧ p ≤ 5) (ha : Go1 w (.node aa aow apart aval aks akids) oa) (hb : Go1 w (.node ba bow bpart bval bks bkids) ob) (hla : (T.node aa aow apart aval aks akids).er.long ≤ 65535) (h1 : bpart.drop ob = apart.drop oa)
    (hM : ((T.node aa aow apart aval aks akids).er.long + 1 - oa) + ((T.node ba bow bpart bval bks bkids).er.long + 1 - ob) ≤ M) (hm : Mt w mt n) :
    Ret P n_inter_sieve_level [sivV p o mt, (T.node aa aow apart aval aks akids).v, (T.node ba bow bpart bval bks bkids).v] w fun r w' => ∃ t' n', r = t'.v ∧ IR w w' p (.node aa aow apart aval aks akids) (.node ba bow bpart bval bks bkids) oa ob t' mt n n' := by
  have hoff : oa ≤ apart.length := ha.off
  have hoffb : ob ≤ bpart.length := hb.off
  have hva : aval.getD 0 < 18446744073709551616 := ha.tree.v64
  have hvb : bval.getD 0 < 18446744073709551616 := hb.tree.v64
  refine W_inter_sieve_level ?_
  refine xnew fun sb w1 hsb hS hz he1 => ?_
  have hS : Blk w1 sb (sivC p o mt) T_inter_sieve := hS
  refine (c_Val (ha.tree.extN he1)).mono ?_
  rintro _ w2 ⟨rfl, rfl⟩
  refine (c_Val (hb.tree.extN he1)).mono ?_
  rintro _ w3 ⟨rfl, rfl⟩
  refine xj (fun vs w' => vs = [.bool (interO p aval bval).isSome] ∧ w3 = w') ?_ ?_
  · show xIf (.bool bval.isSome) _ _
    cases bval with
    | none => exact xifF rfl ⟨by rw [interO_none]; rfl, rfl⟩
    | some y =>
      refine xifT rfl ?_
      cases aval <;> exact ⟨rfl, rfl⟩
  rintro vs g w4 ⟨rfl, rfl⟩
  refine xj (fun vs w' => ∃ x : Nat, vs = [.int .u64 x] ∧ x < 18446744073709551616 ∧ (∀ y, interO p aval bval = some y → y = x) ∧ Ext No w3 w') ?_ ?_
  · show xIf (.bool (interO p aval bval).isSome) _ _
    cases hi : interO p aval bval with
    | none => exact xifF rfl ⟨bval.getD 0, rfl, hvb, (fun y h => by cases h), Ext.refl _ _⟩
    | some z =>
      refine xifT rfl ?_
      refine hS.ld (o := 0) (v := .int .i64 p) rfl ?_
      refine (c_UPick (z := p) hva hvb).mono ?_
      rintro _ w5 ⟨he5, ⟨p', hp1, hp5, hpp, rfl⟩ | ⟨hn, -⟩⟩
      · obtain rfl : p = p' := by omega
        refine ⟨pickN p (aval.getD 0) (bval.getD 0), rfl, pickN_lt' hp hva hvb, fun y hy => ?_, he5⟩
        obtain rfl := Option.some.inj hy
        cases aval with
        | none => cases hi
        | some x0 =>
          cases bval with
          | none => cases hi
          | some y0 => exact (Option.some.inj hi).symm
      · exact absurd (by omega) hn
  rintro vs g w5 ⟨x, rfl, hx64, hxv, he5⟩
  have hE5 := he1.transN he5
  have hS5 := hS.ext he5 fun h => h
  have ha5 := ha.extN hE5
  have hb5 := hb.extN hE5
  have hm5 := hm.extN hE5
  refine (c_Kind ha5.tree).mono ?_
  rintro _ w6 ⟨rfl, rfl⟩
  by_cases hk : aks = []
  · refine xifT (by show (((kindV aks (ptrs akids) : Nat) : Int) == 1) = true; unfold kindV; rw [if_pos hk]; rfl) ?_
    refine hS5.ldA rfl ?_
    refine (c_sLeaf (p := p) ha5.tree ha.leafy ha.fine hk hxv hx64 ho hm5).mono ?_
    rintro _ w7 ⟨t', n', rfl, htr, her, hlf, hall, hm7, he7, hid⟩
    have hc0 : cnt (ptrs akids) = 0 := ha.leafy.1.1 hk
    have e0 : cnt (fun c => ((akids c).er).opt) = cnt (ptrs akids) := X.cnt_congr' fun c => T.er_opt (akids c)
    have hkn : (fun c => (akids c).er) = noE := cntE_zero (by show cnt (fun c => ((akids c).er).opt) = 0; rw [e0, hc0])
    have hg := gI_level (p := p) (av := aval) (bv' := bval) (ak := fun c => (akids c).er) (bk := fun c => (bkids c).er) (kids := noE) hoff h1 rfl fun c => Can.nil.congr fun k => by
      have : (akids c).er = .nil := congrFun hkn c
      unfold gI
      rw [this]; rfl
    refine ⟨t', n', rfl, IR.from' ⟨htr, hm7, he7, hall, hlf, by rw [her]; exact hg, fun hk' => hid ?_⟩ hE5⟩
    have h2 := hk' apart
    have h3 := hg.get apart
    rw [normE_get, get_nil] at h3
    have h4 : (T.node aa aow apart aval aks akids).er.get apart = aval := get_nil
    rw [h4] at h2
    exact h2.symm.trans h3.symm
  · have hkv : ((kindV aks (ptrs akids) : Nat) : Int) ≠ 1 := by
      have : kindV aks (ptrs akids) ≠ 1 := by
        unfold kindV
        rw [if_neg hk]
        unfold kindN
        repeat' split
        all_goals omega
      omega
    refine xifF (beq_eq_false_iff_ne.2 hkv) ?_
    refine (c_Next ha5.tree (i := 0) (by omega)).mono ?_
    rintro _ w7 ⟨rfl, he7⟩
    rw [show next2 (ptrs (T.node aa aow apart aval aks akids).kid) 0 = .tuple #[nxB (dom (ptrs akids)), nxP (ptrs akids) (dom (ptrs akids))] from next2_of (nextB_zero _)]
    have hE7 := hE5.transN he7
    have ha7 := ha.extN hE7
    have hb7 := hb.extN hE7
    have hS7 := hS5.ext he7 fun h => h
    have hfl : Floor.n ≤ w7.heap.size := (hm.extN hE7).fl
    refine xloop (fun nn vs w' => ∃ (d rest : List UInt8) (l : List (UInt8 × T)) (v x0 : Value) (n1 : Nat), vs = [nxP (ptrs akids) rest, nxB rest, x0, v] ∧ nn = rest.length ∧ dom (ptrs akids) = d ++ rest ∧ LV w7 w' p akids bkids d l v mt n n1) (dom (ptrs akids)).length
      ⟨[], _, [], _, _, n, rfl, rfl, rfl, ⟨⟨[], Own.nil _ _ _ _, fun i p h => by simp at h⟩, fun p h => by cases h⟩, (fun q h => by cases h), List.Pairwise.nil, Nat.le_refl _, (fun c h => by cases h), fun _ => ⟨rfl, rfl⟩, hm.extN hE7, Ext.refl _ _⟩ ?_
    rintro nn vs g w8 ⟨d, rest, l, v, x0, n1, rfl, rfl, hdr, hV⟩
    unfold S_inter_sieve_level_l1
    have hm8 := hV.cnt
    have hz8 := hV.ext.size
    have ha8 := ha7.extM (hm.extN hE7) hV.ext
    have hb8 := hb7.extM (hm.extN hE7) hV.ext
    have hS8 := hS7.ext hV.ext ((hm.extN hE7).ne hS7 (by decide))
    have hrise : Rise (d ++ rest) := hdr ▸ dom_rise _
    have hdl : (dom (ptrs akids)).length ≤ 256 := cnt_le _
    cases rest with
    | cons c rest =>
      have hcd : c ∈ dom (ptrs akids) := by rw [hdr]; simp
      obtain ⟨ka, hka⟩ := Option.isSome_iff_exists.1 (dom_mem.1 hcd)
      have hka : (akids c).ptr = some ka := hka
      have hkn : akids c ≠ .nil := fun e => by rw [e] at hka; cases hka
      have hlt : ∀ c' ∈ d, c'.toNat < c.toNat := fun c' hc' => (List.pairwise_append.1 hrise).2.2 c' hc' c (by simp)
      have hcn : c ∉ d := fun h => by have := hlt c h; omega
      have hlen := hV.len
      have hdl2 : d.length + (rest.length + 1) ≤ 256 := by rw [hdr] at hdl; simpa using hdl
      have hlk := long_kid (a := aa) (ow := aow) (part := apart) (val := aval) (ks := aks) hcd
      have hal : apart.length ≤ (T.node aa aow apart aval aks akids).er.long := by show _ ≤ (E.node apart aval fun c => (akids c).er).long; rw [E.long_node]; omega
      have hbl : bpart.length ≤ (T.node ba bow bpart bval bks bkids).er.long := by show _ ≤ (E.node bpart bval fun c => (bkids c).er).long; rw [E.long_node]; omega
      have hbk : (bkids c).er.long + 1 ≤ (T.node ba bow bpart bval bks bkids).er.long + 1 - ob := by
        by_cases e : c ∈ dom (ptrs bkids)
        · have := long_kid (a := ba) (ow := bow) (part := bpart) (val := bval) (ks := bks) e
          omega
        · have : bkids c = .nil := T.nil_of fun hq => e (dom_mem.2 hq)
          rw [this]
          show 0 + 1 ≤ _
          omega
      refine xpne_node (t := akids c) hkn ?_
      refine xifT rfl ?_
      refine xj (fun vs w' => ∃ (y : Value) (l' : List (UInt8 × T)) (v' : Value) (n2 : Nat), vs = [y, v'] ∧ LV w7 w' p akids bkids (d ++ [c]) l' v' mt n n2) ?_ ?_
      · have hd8 := Ext.drew (Ext.refl No w8)
        refine hS8.drew.ldA rfl ?_
        show Ret P n_node_Node_Kid [(T.node ba bow bpart bval bks bkids).v, bv c] w8.drew _
        refine (c_Kid (hb8.tree.extN hd8) (b := c)).mono ?_
        rintro _ w9 ⟨rfl, he9⟩
        have he89 := hd8.transN he9
        refine ⟨xkeepA (hS8.ext he89 fun h => h), ?_⟩
        have hka9 : Go1 w9 (akids c) 0 := ⟨(ha8.tree.extN he89).2 c, ha.fine.2 c, ha.leafy.2 c, by have := ha.long; omega, Nat.zero_le _⟩
        have hkb9 : Go1 w9 (bkids c) 0 := ⟨(hb8.tree.extN he89).2 c, hb.fine.2 c, hb.leafy.2 c, by have := hb.long; omega, Nat.zero_le _⟩
        refine Ret.mono (show Ret P n_inter_sieve_of [sivV p o mt, restV (akids c) 0, restV (bkids c) 0] w9 _ from hI (by omega) (by omega) hka9 hkb9 (hm8.extN he89)) ?_
        rintro _ w10 ⟨t', n2, rfl, hR⟩
        have hR8 := hR.from' he89
        by_cases hn : t' = .nil
        · subst hn
          refine xpne_self T.nil ?_
          refine xifF rfl ?_
          exact ⟨_, l, v, n2, rfl, hV.skip hcn hkn hR8⟩
        · refine xpne_node hn ?_
          refine xifT rfl ?_
          have hlo10 := hV.lo.extM hm8 hR8.ext
          refine LO.push hlo10 hfl (Nat.le_trans hz8 hR8.ext.size) hR.cnt (c := c) (t := t') hR.tree (by omega) fun v' w11 hlo hm11 _ hex _ => ?_
          exact ⟨_, _, v', n2, rfl, hV.more hcn hlt hn hR8 hlo hm11 (hex w7 _ (hV.ext.transS hR8.ext) (Nat.le_refl _))⟩
      rintro vs g w9 ⟨y, l', v', n2, rfl, hV9⟩
      have hcb := u8_lt c
      refine xi (r := (c.toNat : Int)) (wrapI (by omega)) ?_
      refine xi (r := ((c.toNat + 1 : Nat) : Int)) (by rw [wrapI (by omega)]; omega) ?_
      have ha9 := ha7.extM (hm.extN hE7) hV9.ext
      refine (c_Next ha9.tree (i := c.toNat + 1) (by omega)).mono ?_
      rintro _ w10 ⟨rfl, he10⟩
      rw [show next2 (ptrs (T.node aa aow apart aval aks akids).kid) (c.toNat + 1) = .tuple #[nxB rest, nxP (ptrs akids) rest] from next2_of (nextB_succ hdr)]
      refine xnext rest.length (by simp) ⟨d ++ [c], rest, l', v', _, n2, rfl, rfl, by rw [hdr]; simp, ⟨hV9.lo.extN he10, hV9.sm, hV9.up, hV9.len, hV9.can, hV9.idle, hV9.cnt.extN he10, hV9.ext.transN he10⟩⟩
    | nil =>
      rw [List.append_nil] at hdr
      refine xpne_self T.nil ?_
      refine xifF rfl ?_
      refine hS8.ldA rfl ?_
      have hlen := hV.len
      have hL := hV.lo.lk (fun q hq => (hV.sm q hq).1) hV.up (by rw [hdr] at hdl; omega)
      have hsub : ∀ q ∈ l, q.1 ∈ dom (ptrs akids) := fun q hq => by rw [hdr]; exact (hV.sm q hq).2.2.1
      have hall2 : ∀ c, Can (setK l c).er (gI p (akids c).er (bkids c).er 0 0) := fun c => by
        by_cases e : c ∈ d
        · exact hV.can c e
        · have hk : akids c = .nil := T.nil_of fun hq => e (by rw [← hdr]; exact dom_mem.2 hq)
          rw [setK_no fun q hq e' => e (by have := (hV.sm q hq).2.2.1; rw [e'] at this; exact this), hk]
          exact Can.nil.congr fun k => rfl
      refine (c_sKeep (p := p) (val := interO p aval bval) ha8.tree hk ha.fine ha.leafy hL (fun q hq => (hV.sm q hq).2.1) hxv hx64 ho hm8 fun q hq => ?_).mono ?_
      · have h2 := hall2 q.1
        rw [setK_mem hV.up hq] at h2
        have h3 := part_long h2 (fun k v hkv => gI_some hkv) (hV.sm q hq).1
        have := long_kid (a := aa) (ow := aow) (part := apart) (val := aval) (ks := aks) (hsub q hq)
        omega
      rintro _ w9 ⟨t', n', rfl, hR, hid⟩
      have hg := gI_level (p := p) (av := aval) (bv' := bval) (ak := fun c => (akids c).er) (bk := fun c => (bkids c).er) (kids := fun c => (setK l c).er) hoff h1 rfl hall2
      have hz7 := hE7.size
      refine ⟨t', n', rfl, ⟨hR.tree, hR.cnt, ((hE7.mono fun _ _ h => h.elim).transS hV.ext).transS hR.ext, fun c hc => ?_, hR.leafy, by rw [hR.er]; exact hg, fun hk' => ?_⟩⟩
      · rcases hR.all c hc with h | ⟨q, hq, h⟩ | h
        · exact .inl h
        · rcases (hV.sm q hq).2.2.2 c h with h | h
          · exact .inl (.inr ⟨_, h⟩)
          · exact .inr (by omega)
        · exact .inr (by omega)
      · have h2 := hk' apart
        have h3 := hg.get apart
        rw [normE_get, get_nil] at h3
        have h4 : (T.node aa aow apart aval aks akids).er.get apart = aval := get_nil
        rw [h4] at h2
        obtain ⟨h5, h6⟩ := hV.idle fun c hc k => by
          have h7 := hk' (apart ++ c :: k)
          have h8 := hg.get (apart ++ c :: k)
          rw [normE_get, get_cons, (hall2 c).get k] at h8
          have h9 : (T.node aa aow apart aval aks akids).er.get (apart ++ c :: k) = (akids c).er.get k := get_cons
          rw [h9] at h7
          exact h8.trans h7
        obtain ⟨h10, h11⟩ := hid ⟨h2.symm.trans h3.symm, by rw [h5, List.length_map, ← hdr]; rfl, fun q hq => by
          rw [h5] at hq
          obtain ⟨c, -, rfl⟩ := List.mem_map.1 hq
          rfl⟩
        exact ⟨h10, h11.trans h6⟩
end
end Go.Proofs.YtbgfmgkimccbeaaGreatDoor
