/-  law15: how deep a tree is; PutMade.  -/
import Derived.Test.YtbneecjeifionaaGreatDoorL15b
namespace Go.Proofs.YtbneecjeifionaaGreatDoor
open Go Go.RowKit X
set_option linter.unusedSimpArgs false
set_option linter.unusedVariables false
set_option linter.unusedSectionVars false
theorem E.deep_node {part : Key} {val : Option Nat} {kids : UInt8 → E} : (E.node part val kids).deep = maxL ((dom fun c => (kids c).opt).map fun c => (kids c).deep) + 1 := by
  rw [E.deep]
  congr 1
  refine Nat.le_antisymm (maxL_le' fun n hn => ?_) (maxL_le' fun n hn => ?_)
  · obtain ⟨c, hc, rfl⟩ := List.mem_map.1 hn
    by_cases h : c ∈ dom fun c => (kids c).opt
    · exact maxL_le (List.mem_map.2 ⟨c, h, rfl⟩)
    · have : kids c = .nil := E.opt_none (by
        cases h' : (kids c).opt with
        | none => rfl
        | some => exact absurd (dom_mem.2 (by rw [h']; rfl)) h)
      rw [this]; exact Nat.zero_le _
  · obtain ⟨c, hc, rfl⟩ := List.mem_map.1 hn
    exact maxL_le (List.mem_map.2 ⟨c, byt_mem c, rfl⟩)
theorem E.deep_long : ∀ (e : E), e.deep ≤ e.long + 1 := by
  intro e
  induction e with
  | nil => simp [E.deep]
  | node part val kids ih =>
    rw [E.deep_node, E.long_node]
    have : maxL ((dom fun c => (kids c).opt).map fun c => (kids c).deep) ≤ maxL ((dom fun c => (kids c).opt).map fun c => (kids c).long + 1) := maxL_le' fun n hn => by
      obtain ⟨c, hc, rfl⟩ := List.mem_map.1 hn
      exact Nat.le_trans (ih c) (maxL_le (List.mem_map.2 ⟨c, hc, rfl⟩))
    omega
theorem E.steps_deep : ∀ (e : E) (k : Key), e.steps k ≤ e.deep := by
  intro e
  induction e with
  | nil => intro k; simp [E.steps, E.deep]
  | node part val kids ih =>
    intro k
    rw [E.steps]
    split
    · split
      · have := E.deep_kid (part := part) (val := val) (kids := kids) 0
        omega
      · rename_i c r hcr
        have := ih c r
        have := E.deep_kid (part := part) (val := val) (kids := kids) c
        omega
    · have := E.deep_kid (part := part) (val := val) (kids := kids) 0
      omega
variable [Floor]
theorem c_Depth : ∀ (t : T) {w : World}, Tree w t → t.er.deep ≤ 4611686018427387904 → Ret P n_canon_Depth [t.v] w fun r w' => r = .int .i64 t.er.deep ∧ Ext No w w' := by
  intro t
  induction t with
  | nil =>
    intro w ht _
    refine W_canon_Depth ?_
    exact xifT rfl ⟨rfl, Ext.refl _ _⟩
  | node na ow part val ks kids ih =>
    intro w ht hl
    have hdeep : (T.node na ow part val ks kids).er.deep = maxL ((dom (ptrs kids)).map fun c => (kids c).er.deep) + 1 := by
      show (E.node part val fun c => (kids c).er).deep = _
      rw [E.deep_node, dom_er]
    rw [hdeep] at hl ⊢
    refine W_canon_Depth ?_
    refine xifF rfl ?_
    refine (c_Next ht (i := 0) (by omega)).mono ?_
    rintro r w1 ⟨rfl, he1⟩
    have hnx0 : next2 (ptrs (T.node na ow part val ks kids).kid) 0 = .tuple #[nxB (dom (ptrs kids)), nxP (ptrs kids) (dom (ptrs kids))] := next2_of (nextB_zero _)
    rw [hnx0]
    refine xloop (fun nn vs w' => ∃ (d rest : List UInt8), vs = [nxP (ptrs kids) rest, .int .i64 (maxL (d.map fun c => (kids c).er.deep) : Nat), nxB rest] ∧ nn = rest.length ∧ dom (ptrs kids) = d ++ rest ∧ Ext No w w') (dom (ptrs kids)).length
      ⟨[], _, rfl, rfl, rfl, he1⟩ ?_
    rintro nn vs g w2 ⟨d, rest, rfl, rfl, hdr, hE2⟩
    unfold S_canon_Depth_l1
    cases rest with
    | nil =>
      rw [List.append_nil] at hdr
      have hn0 : ∀ K : Value → Prop, K (.bool false) → xPNe P w2 (nxP (ptrs kids) []) (.pointer none) K := fun K k => k
      refine hn0 _ ?_
      refine xifF rfl ?_
      rw [hdr] at hl ⊢
      refine xi (r := ((maxL (d.map fun c => (kids c).er.deep) + 1 : Nat) : Int)) (by rw [wrapI (by omega)]; omega) ?_
      exact ⟨rfl, hE2⟩
    | cons c rest =>
      have hcd : c ∈ dom (ptrs kids) := by rw [hdr]; simp
      obtain ⟨ka, hka⟩ := Option.isSome_iff_exists.1 (dom_mem.1 hcd)
      have hka : (kids c).ptr = some ka := hka
      have hne : ∀ K : Value → Prop, K (.bool true) → xPNe P w2 (nxP (ptrs kids) (c :: rest)) (.pointer none) K := fun K k => by
        show xPNe P w2 (.pointer (kids c).ptr) (.pointer none) K
        rw [hka]; exact k
      refine hne _ ?_
      refine xifT rfl ?_
      have hcl := maxL_le (l := (dom (ptrs kids)).map fun c => (kids c).er.deep) (List.mem_map.2 ⟨c, hcd, rfl⟩)
      refine (ih c ((ht.extN hE2).kid c) (by omega)).mono ?_
      rintro r w3 ⟨rfl, he3⟩
      have hcb := u8_lt c
      refine xi (r := (c.toNat : Int)) (wrapI (by omega)) ?_
      refine xi (r := ((c.toNat + 1 : Nat) : Int)) (by rw [wrapI (by omega)]; omega) ?_
      refine (c_Next (ht.extN (hE2.transN he3)) (i := c.toNat + 1) (by omega)).mono ?_
      rintro r w4 ⟨rfl, he4⟩
      have hnx : next2 (ptrs (T.node na ow part val ks kids).kid) (c.toNat + 1) = .tuple #[nxB rest, nxP (ptrs kids) rest] := next2_of (nextB_succ hdr)
      rw [hnx]
      refine xnext rest.length (by simp) ⟨d ++ [c], rest, ?_, rfl, by rw [hdr]; simp, (hE2.transN he3).transN he4⟩
      have hmx : maxL ((d ++ [c]).map fun c => (kids c).er.deep) = max (maxL (d.map fun c => (kids c).er.deep)) ((kids c).er.deep) := by
        have : ∀ (a : List Nat) (b : Nat), maxL (a ++ [b]) = max (maxL a) b := by
          intro a b
          induction a with
          | nil => simp [maxL]
          | cons x a ih => rw [List.cons_append, maxL, maxL, ih, Nat.max_assoc]
        rw [List.map_append]
        exact this _ _
      rw [hmx]
      congr 2
      congr 1
      show (if ((maxL (d.map fun c => (kids c).er.deep) : Nat) : Int) < (((kids c).er.deep : Nat) : Int) then (((kids c).er.deep : Nat) : Int) else ((maxL (d.map fun c => (kids c).er.deep) : Nat) : Int)) = _
      split <;> omega
theorem Ext.mx' {w w1 w2 : World} {b : Nat} (h : Ext No w w1) (e : Ext (MX (some b)) w1 w2) (hb : w.heap.size ≤ b) : Ext No w w2 :=
  h.trans e fun x hx hm => by
    simp only [MX] at hm
    obtain rfl := Option.some.inj hm
    omega
namespace law15
section
variable {w : World} {v kv : Value} {l : Kv} {k : Key} {x : Nat}
theorem l_PutMade (hw : Lw w) (hl : Ps w v l) (hk : Bs w kv k) (hx : x < 18446744073709551616) : Ret P n_law15_PutMade [v, .agg #[kv, u64 x]] w fun r w' => r = .bool true ∧ Ext No w w' := by
  refine W_law15_PutMade ?_
  refine xnew fun pb w0 hpb hblk hz he0 => ?_
  have hblk : Blk w0 pb [kv, u64 x] T_ref01_Pair := hblk
  have hw0 := hw.extN he0
  have hl0 := hl.extN he0
  refine xj (fun vs w' => ∃ b, vs = [.bool b] ∧ Ext No w0 w' ∧ (b = false → (l.length ≤ 200 ∧ ∀ x ∈ l, x.1.length ≤ 300) ∧ k.length ≤ 600)) ?_ ?_
  · refine (c_far (m := 200) hl0 (by omega)).mono ?_
    rintro r w1 ⟨b, rfl, he, hb⟩
    have hblk1 := hblk.ext he fun h => h
    cases b with
    | false =>
      refine xifF rfl ?_
      refine hblk1.ld (v := kv) rfl ?_
      refine hk.len ?_
      exact ⟨_, rfl, he, fun h => ⟨hb rfl, by have := of_decide_eq_false h; omega⟩⟩
    | true => exact xifT rfl ⟨true, rfl, he, fun h => by cases h⟩
  rintro vs g w1 ⟨b, rfl, he1, hb⟩
  have hw1 := hw0.extN he1
  have hblk1 := hblk.ext he1 fun h => h
  have hE1 := he0.transN he1
  cases b with
  | true =>
    refine xifT rfl ?_
    refine (c_alive hw1).mono ?_
    rintro r w2 ⟨rfl, he2⟩
    exact ⟨rfl, hE1.transN he2⟩
  | false =>
    refine xifF rfl ?_
    obtain ⟨⟨hl200, hk300⟩, hkk⟩ := hb rfl
    have hpr : Pr (sortK l) := Pr.sort (by omega) fun p h => by have := hk300 p h; omega
    have hm200 : (sortK l).length ≤ 200 := Nat.le_trans (sortK_length l) hl200
    refine (c_rSort (hl.extN hE1) (by omega) (fun p h => by have := hk300 p h; omega)).mono ?_
    rintro vl w2 ⟨hso, he2⟩
    have hps := hso.ps he2 (.inr rfl)
    have hw2 := hw1.extN he2
    generalize sortK l = m at hpr hso hps hm200
    refine (c_tree hps hpr hw2 (ow := 1) (by omega)).mono ?_
    rintro r w3 ⟨t, rfl, hct, hsep, how, hnew, he3⟩
    have hw3 := hw2.extN he3
    have hE3 := (hE1.transN he2).transN he3
    have hblk3 := hblk1.ext (he2.transN he3) fun h => h
    have hk3 := hk.extN hE3
    have hlong := hct.long hpr
    have hdeep := E.deep_long t.er
    have hsteps := E.steps_deep t.er k
    refine xnew fun mb w5 hmb hmblk hz5 he5 => ?_
    have hm5 : Mt w5 (some mb) 0 := hw3.mtNew hmb hmblk he5
    have hw5 := hw3.extN he5
    have hct5 := hct.extN he5
    have hk5 := hk3.extN he5
    have hblk5 := hblk3.ext he5 fun h => h
    have hE5 := hE3.transN he5
    have hmbw : w.heap.size ≤ mb := by have := hE3.size; omega
    refine hblk5.ld (v := kv) rfl ?_
    refine hblk5.ld (v := u64 x) rfl ?_
    have hfree : t.Free 2 := (how.q.mono fun o h => by omega).free
    refine (c_Put (o := 2) (n := 0) hct5.tree hfree.sep hct.can.fine hct.leafy hm5 (by omega) hx hk5 (by omega)).mono ?_
    rintro _ w6 ⟨t', n', rfl, hP, hsame⟩
    have he6 : Ext (MX (some mb)) w5 w6 := hP.res.ext.mono fun b _ hb => hb.elim id fun h => (hfree.foot b h).elim
    have hw6 := hw5.mt hm5 he6
    have hct6 := hct5.mt hm5 he6
    have hk6 := hk5.mt he6 hm5
    have hblk6 := hblk5.ext he6 (hm5.ne hblk5 (by decide))
    have hE6 := Ext.mx' hE5 he6 hmbw
    have hct' := hct5.put hpr.rises hP
    have hm6 := hP.res.cnt
    have hpi : Pr (insK m k x) := hpr.ins (by omega) (by omega)
    have hle : n' ≤ 0 + t.er.steps k + 2 := hP.le
    refine hblk6.ld (v := kv) rfl ?_
    refine (c_Steps hw6.fl hct6.tree hk6 (by omega)).mono ?_
    rintro _ w7 ⟨rfl, he7⟩
    have hw7 := hw6.extN he7
    have hm7 := hm6.extN he7
    have hst : t.steps k = t.er.steps k := rfl
    refine xj (fun vs w' => vs = [.bool false] ∧ Ext No w7 w') ?_ ?_
    · refine xifF rfl ?_
      refine (c_MCount hm7).mono ?_
      rintro r w8 ⟨rfl, rfl⟩
      rw [wrapI (x := (n' : Nat)) (by omega)]
      refine xi (r := ((t.steps k + 2 : Nat) : Int)) (by rw [wrapI (by omega)]; omega) ?_
      refine xifF (by simp; omega) ?_
      refine (c_MCount hm7).mono ?_
      rintro r w9 ⟨rfl, rfl⟩
      rw [wrapI (x := (n' : Nat)) (by omega)]
      refine (c_Depth t (hct6.extN he7).tree (by omega)).mono ?_
      rintro r w10 ⟨rfl, he10⟩
      refine xi (r := ((t.er.deep + 2 : Nat) : Int)) (by rw [wrapI (by omega)]; omega) ?_
      exact ⟨by simp; omega, he10⟩
    rintro vs g w8 ⟨rfl, he8⟩
    refine xifF rfl ?_
    have he78 := he7.transN he8
    have hw8 := hw6.extN he78
    have hm8 := hm6.extN he78
    have hk8 := hk6.extN he78
    have hct8 := hct6.extN he78
    have hct8' := hct'.extN he78
    have hblk8 := hblk6.ext he78 fun h => h
    have hE8 := hE6.transN he78
    refine hblk8.ld (v := kv) rfl ?_
    refine (c_Get hw8.fl hct8.tree hk8 (by omega)).mono ?_
    rintro _ w9 ⟨rfl, he9⟩
    have hm9 := hm8.extN he9
    have hblk9 := hblk8.ext he9 fun h => h
    refine xj (fun vs w' => vs = [.bool false] ∧ w9 = w') ?_ ?_
    · cases hg : t.get k with
      | none => exact xifF rfl ⟨rfl, rfl⟩
      | some y =>
        refine xifT rfl ?_
        refine hblk9.ld (v := u64 x) rfl ?_
        refine xifE (fun e => ?_) fun e => ⟨rfl, rfl⟩
        have e : y = x := by have : ((y : Nat) : Int) = (x : Int) := e; omega
        subst e
        obtain ⟨rfl, rfl⟩ := hsame hg
        refine (c_MCount hm9).mono ?_
        rintro r w10 ⟨rfl, hw10⟩
        refine xifF rfl ?_
        refine xpne_self _ ?_
        exact ⟨rfl, hw10.symm⟩
    rintro vs g w10 ⟨rfl, rfl⟩
    refine xifF rfl ?_
    refine (c_MCount hm9).mono ?_
    rintro r w10 ⟨rfl, hw10⟩
    rw [hw10]
    refine hblk9.ld (v := kv) rfl ?_
    refine hblk9.ld (v := u64 x) rfl ?_
    have hq := hP.own (· ≠ 3) (by omega) (how.q.mono fun o h => by omega)
    have hct9 := hct8'.extN he9
    refine (c_Put (o := 3) (n := n') hct9.tree hq.free.sep hct9.can.fine hct9.leafy hm9 (by omega) hx (hk8.extN he9) (by omega)).mono ?_
    rintro _ w11 ⟨t2, n2, rfl, hP2, hsame2⟩
    have he11 : Ext (MX (some mb)) _ w11 := hP2.res.ext.mono fun b _ hb => hb.elim id fun h => (hq.free.foot b h).elim
    have hw11 := (hw8.extN he9).mt hm9 he11
    have hE11 := Ext.mx' (hE8.transN he9) he11 hmbw
    have hget : t'.get k = some x := by
      show t'.er.get k = _
      rw [hP.er, putE_get, if_pos rfl]
    obtain ⟨rfl, rfl⟩ := hsame2 hget
    have hm11 := hP2.res.cnt
    obtain ⟨a1, ow1, p1, v1, ks1, kids1, ht'⟩ := T.node_of_er (t := t2) (by rw [hP.er]; exact putE_some)
    refine xj (fun vs w' => vs = [.bool true] ∧ Ext No w w') ?_ ?_
    · refine xifT rfl ?_
      refine xpeq_self _ ?_
      refine xifT rfl ?_
      have hnn : ∀ K : Value → Prop, K (.bool true) → xPNe P w11 t2.v (.pointer none) K := fun K k => by
        rw [ht']; exact k
      refine hnn _ ?_
      refine xifT rfl ?_
      refine (c_MCount hm11).mono ?_
      rintro r w12 ⟨rfl, hw12⟩
      rw [hw12]
      refine xifT (by simp) ?_
      refine (c_alive hw11).mono ?_
      rintro r w13 ⟨rfl, he13⟩
      exact ⟨rfl, hE11.transN he13⟩
    · rintro vs g w12 ⟨rfl, he⟩
      exact ⟨rfl, he⟩
end
end law15
end Go.Proofs.YtbneecjeifionaaGreatDoor
