/-  sub: parts of trees, and trees under bytes.  -/
import Derived.Test.YthnegkjhciakpaaGreatDoorNode
import Derived.Test.YthnegkjhciakpaaGreatDoorMap
import Derived.Test.YthnegkjhciakpaaGreatDoorStr
import Derived.Test.YthnegkjhciakpaaGreatDoorCanon
import Derived.Test.YthnegkjhciakpaaGreatDoorLong
import Derived.Test.YthnegkjhciakpaaGreatDoorPut
section
namespace Go.Proofs.YthnegkjhciakpaaGreatDoor
open Go Go.RowKit X
set_option linter.unusedSimpArgs false
set_option linter.unusedVariables false
set_option linter.unusedSectionVars false
variable [Floor]
section
variable {w : World} {mt : Option Mtr} {n o : Nat}
/-- a copy with another part -/
theorem c_with {t : T} {vb : Value} {bs : Key} (ht : Tree w t) (hm : Mt w mt n) (ho : o ≠ 0) (hb : Bs w vb bs) (hl : bs.length ≤ 65535) : Ret P n_sub_with [t.v, vb, .int .u64 o, mv mt] w fun r w' => ∃ t' n', r = t'.v ∧ Tree w' t' ∧ t'.er = partE bs t.er ∧ (t.Leafy → t'.Leafy) ∧ Mt w' mt n' ∧ n ≤ n' ∧ n' ≤ n + 1 ∧ Ext (MX mt) w w' ∧ (t.part = bs ∨ t = .nil → t' = t ∧ n' = n) ∧ (∀ q : Nat → Prop, (∀ b, t.All b → q b) → (∀ b, w.heap.size ≤ b → q b) → ∀ b, t'.All b → q b) ∧ (∀ q : Nat → Prop, q o → t.OwQ q → t'.OwQ q) := by
  refine W_sub_with ?_
  cases t with
  | nil =>
    refine xj (fun vs w' => vs = [.bool true] ∧ w' = w) ⟨rfl, rfl⟩ ?_
    rintro vs g w1 ⟨rfl, rfl⟩
    exact xifT rfl ⟨.nil, n, rfl, ht, rfl, fun h => h, hm, by omega, by omega, Ext.refl _ _, fun _ => ⟨rfl, rfl⟩, fun q h _ b hb => hb.elim, fun _ _ h => h⟩
  | node a ow part val ks kids =>
    refine xj (fun vs w' => vs = [.bool (decide (part = bs))] ∧ Ext No w w') ?_ ?_
    · refine (c_Part ht).mono ?_
      rintro pv w1 ⟨hp, he⟩
      refine (c_Same hp (hb.extN he)).mono ?_
      rintro r w2 ⟨rfl, rfl⟩
      exact ⟨rfl, he⟩
    · rintro vs g w1 ⟨rfl, he⟩
      have hz := he.size
      refine xifD (fun e => ?_) fun e => ?_
      · subst e
        exact ⟨.node a ow part val ks kids, n, rfl, ht.extN he, rfl, fun h => h, hm.extN he, by omega, by omega, he.mono fun _ _ h => h.elim, fun _ => ⟨rfl, rfl⟩, fun q h _ b hb => h b hb, fun _ _ h => h⟩
      · have ht1 := ht.extN he
        have hm1 := hm.extN he
        refine (c_Copy (o := o) ht1.1 hm1).mono ?_
        rintro r w2 ⟨a', ks', rfl, hna, hiff, hfr, hm2, he2⟩
        refine (c_NSetPart hna ho rfl ((hb.extN he).mt he2 hm1) hl).mono ?_
        rintro r w3 ⟨hna3, he3⟩
        obtain ⟨pv, hblk, -⟩ := hna.blk
        have hfa := hfr a' (.inl rfl)
        have hlt : ∀ c b, (kids c).All b → b < w1.heap.size := fun c b h => (ht1.2 c).lt h
        refine ⟨.node a' o bs val ks' kids, n + 1, rfl, ⟨hna3, fun c => ?_⟩, rfl, fun h => ⟨⟨fun h0 => h.1.1 (hiff.1 h0), fun h0 => hiff.2 (h.1.2 h0)⟩, h.2⟩, ?_, by omega, by omega, ?_, fun h => ?_, fun q h1 h2 b hb => ?_, fun q hq h => ⟨hq, h.2⟩⟩
        · refine ((ht1.2 c).extM hm1 he2).ext he3 (fun b e _ => ?_) fun b hb' e => ?_
          · have e : b = a' := e
            subst e
            exact ⟨hna.new.1, _, _, hblk, by decide⟩
          · have e : b = a' := e
            subst e
            have := hlt c b hb'
            omega
        · exact hm2.ext he3 fun b hb' e => by
            have e : b = a' := e
            subst e
            exact hm2.ne hblk (by decide) hb'
        · exact ((he.mono fun _ _ h => h.elim).transS he2).trans1 he3 (by omega)
        · rcases h with h | h
          · exact absurd h e
          · cases h
        · rcases hb with hb | ⟨c, hb⟩
          · exact h2 b (by have := hfr b hb; omega)
          · exact h1 b (.inr ⟨c, hb⟩)
theorem c_Longest : ∀ (t : T) {w : World}, Tree w t → t.er.long ≤ 4611686018427387904 → Ret P n_sub_Longest [t.v] w fun r w' => r = .int .i64 t.er.long ∧ Ext No w w' := by
  intro t
  induction t with
  | nil =>
    intro w ht _
    refine W_sub_Longest ?_
    exact xifT rfl ⟨rfl, Ext.refl _ _⟩
  | node na ow part val ks kids ih =>
    intro w ht hl
    have hlong : (T.node na ow part val ks kids).er.long = maxL ((dom (ptrs kids)).map fun c => (kids c).er.long + 1) + part.length := by
      show (E.node part val fun c => (kids c).er).long = _
      rw [E.long_node, dom_er]
    rw [hlong] at hl ⊢
    refine W_sub_Longest ?_
    refine xifF rfl ?_
    refine (c_Next ht (i := 0) (by omega)).mono ?_
    rintro r w1 ⟨rfl, he1⟩
    have hnx0 : next2 (ptrs (T.node na ow part val ks kids).kid) 0 = .tuple #[nxB (dom (ptrs kids)), nxP (ptrs kids) (dom (ptrs kids))] := next2_of (nextB_zero _)
    rw [hnx0]
    refine xloop (fun nn vs w' => ∃ (d rest : List UInt8), vs = [nxP (ptrs kids) rest, .int .i64 (maxL (d.map fun c => (kids c).er.long + 1) : Nat), nxB rest] ∧ nn = rest.length ∧ dom (ptrs kids) = d ++ rest ∧ Ext No w w') (dom (ptrs kids)).length
      ⟨[], _, rfl, rfl, rfl, he1⟩ ?_
    rintro nn vs g w2 ⟨d, rest, rfl, rfl, hdr, hE2⟩
    unfold S_sub_Longest_l1
    cases rest with
    | nil =>
      rw [List.append_nil] at hdr
      have hn0 : ∀ K : Value → Prop, K (.bool false) → xPNe P w2 (nxP (ptrs kids) []) (.pointer none) K := fun K k => k
      refine hn0 _ ?_
      refine xifF rfl ?_
      refine (c_Part (ht.extN hE2)).mono ?_
      rintro pv w3 ⟨hp, he3⟩
      have hp : Bs w3 pv part := hp
      refine hp.len ?_
      rw [hdr] at hl ⊢
      refine xi (r := ((maxL (d.map fun c => (kids c).er.long + 1) + part.length : Nat) : Int)) (by rw [wrapI (by omega)]; omega) ?_
      exact ⟨rfl, hE2.transN he3⟩
    | cons c rest =>
      have hcd : c ∈ dom (ptrs kids) := by rw [hdr]; simp
      obtain ⟨ka, hka⟩ := Option.isSome_iff_exists.1 (dom_mem.1 hcd)
      have hka : (kids c).ptr = some ka := hka
      have hne : ∀ K : Value → Prop, K (.bool true) → xPNe P w2 (nxP (ptrs kids) (c :: rest)) (.pointer none) K := fun K k => by
        show xPNe P w2 (.pointer (kids c).ptr) (.pointer none) K
        rw [hka]; exact k
      refine hne _ ?_
      refine xifT rfl ?_
      have hcl := maxL_le (l := (dom (ptrs kids)).map fun c => (kids c).er.long + 1) (List.mem_map.2 ⟨c, hcd, rfl⟩)
      have hdl : maxL (d.map fun c => (kids c).er.long + 1) ≤ maxL ((dom (ptrs kids)).map fun c => (kids c).er.long + 1) := maxL_le' fun m hm => by
        obtain ⟨c', hc', rfl⟩ := List.mem_map.1 hm
        exact maxL_le (List.mem_map.2 ⟨c', by rw [hdr]; exact List.mem_append_left _ hc', rfl⟩)
      refine (ih c ((ht.extN hE2).kid c) (by omega)).mono ?_
      rintro r w3 ⟨rfl, he3⟩
      refine xi (r := (((kids c).er.long + 1 : Nat) : Int)) (by rw [wrapI (by omega)]; omega) ?_
      have hcb := u8_lt c
      refine xi (r := (c.toNat : Int)) (wrapI (by omega)) ?_
      refine xi (r := ((c.toNat + 1 : Nat) : Int)) (by rw [wrapI (by omega)]; omega) ?_
      refine (c_Next (ht.extN (hE2.transN he3)) (i := c.toNat + 1) (by omega)).mono ?_
      rintro r w4 ⟨rfl, he4⟩
      have hnx : next2 (ptrs (T.node na ow part val ks kids).kid) (c.toNat + 1) = .tuple #[nxB rest, nxP (ptrs kids) rest] := next2_of (nextB_succ hdr)
      rw [hnx]
      refine xnext rest.length (by simp) ⟨d ++ [c], rest, ?_, rfl, by rw [hdr]; simp, (hE2.transN he3).transN he4⟩
      have hmx : maxL ((d ++ [c]).map fun c => (kids c).er.long + 1) = max (maxL (d.map fun c => (kids c).er.long + 1)) ((kids c).er.long + 1) := by
        have : ∀ (a : List Nat) (b : Nat), maxL (a ++ [b]) = max (maxL a) b := by
          intro a b
          induction a with
          | nil => simp [maxL]
          | cons x a ih => rw [List.cons_append, maxL, maxL, ih, Nat.max_assoc]
        rw [List.map_append]
        exact this _ _
      rw [hmx]
      congr 2
      congr 1
      show (if ((maxL (d.map fun c => (kids c).er.long + 1) : Nat) : Int) < (((kids c).er.long + 1 : Nat) : Int) then (((kids c).er.long + 1 : Nat) : Int) else ((maxL (d.map fun c => (kids c).er.long + 1) : Nat) : Int)) = _
      split <;> omega
end
end Go.Proofs.YthnegkjhciakpaaGreatDoor
end
section
namespace Go.Proofs.YthnegkjhciakpaaGreatDoor
open Go Go.RowKit X
set_option linter.unusedSimpArgs false
set_option linter.unusedVariables false
set_option linter.unusedSectionVars false
/-- where all keys that begin with p stand -/
def Seek (t : T) (p : Key) (u : T) (way : Key) : Prop := (u = .nil ∧ way = [] ∧ ∀ r, t.get (p ++ r) = none) ∨
  (u ≠ .nil ∧ way <+: p ∧ p <+: way ++ u.part ∧ (∀ r, t.get (way ++ r) = u.get r) ∧ (way = [] → u = t) ∧ (t.Leafy → u.Leafy) ∧ (t.er.Fine → u.er.Fine) ∧ ((∀ b, u.All b → t.All b) ∧ ∀ q, t.OwQ q → u.OwQ q) ∧ (way ≠ [] → t.er.Fine → ∃ k v, t.get k = some v ∧ ¬ way <+: k))
/-- a canonical node has a key that goes not down by one byte -/
theorem other_key {part : Key} {val : Option Nat} {kids : UInt8 → E} (hf : (E.node part val kids).Fine) {c : UInt8} (hc : (kids c).opt.isSome) : ∃ k v, (E.node part val kids).get k = some v ∧ ¬ (part ++ [c]) <+: k := by
  obtain ⟨h1, h2, h3⟩ := fine_of hf
  cases val with
  | some v => exact ⟨part, v, get_nil, fun h => by have := h.length_le; simp at this; omega⟩
  | none =>
    have hpos : 0 < cntE kids := cnt_pos (m := fun c => (kids c).opt) hc
    have h2 : 2 ≤ cntE kids + 0 := h2 (by omega)
    obtain ⟨a, b, ha, hb, hab⟩ := two_mem (dom_rise fun c => (kids c).opt).nodup h2
    have key : ∀ d, d ∈ dom (fun c => (kids c).opt) → d ≠ c → ∃ k v, (E.node part none kids).get k = some v ∧ ¬ (part ++ [c]) <+: k := fun d hd hdc => by
      obtain ⟨k, v, hk⟩ := (h3 d).some_key (E.isSome_iff.1 (dom_mem.1 hd))
      refine ⟨part ++ d :: k, v, by rw [get_cons, hk], fun h => ?_⟩
      rw [List.prefix_append_right_inj, List.cons_prefix_cons] at h
      exact hdc h.1.symm
    by_cases e : a = c
    · exact key b hb fun e' => hab (by rw [e, e'])
    · exact key a ha e
theorem T.get_app {a ow : Nat} {part : Key} {val : Option Nat} {ks : List Nat} {kids : UInt8 → T} (r : Key) : (T.node a ow part val ks kids).get (part ++ r) = match r with | [] => val | c :: s => (kids c).get s := E.get_app part val (fun c => (kids c).er) r
theorem T.get_no {a ow : Nat} {part : Key} {val : Option Nat} {ks : List Nat} {kids : UInt8 → T} {k : Key} (h : ¬ part <+: k) : (T.node a ow part val ks kids).get k = none := Go.Proofs.YthnegkjhciakpaaGreatDoor.get_no (kids := fun c => (kids c).er) h
variable [Floor]
section
variable {w : World} {mt : Option Mtr} {n o : Nat} {t : T} {vp : Value} {p : Key}
theorem Bs.room (h : Bs w vp p) (m : Nat) (hm : m ≤ p.length) {K : Value → Prop} {kd kd' : IntKind} {i j : Int} (hi : i = (m : Int)) (hj : j = (m : Int)) (k : ∀ v', Bs w v' (p.take m) → (∃ ad, v' = .slice ad (p.take m).length (p.take m).length) → K v') : xCutS 1 vp none (some (.int kd i)) (some (.int kd' j)) K := by
  obtain ⟨a, cap, rfl, hc, hs⟩ := Sl.cut (l := 0) (h := m) h (Nat.zero_le _) hm
  have h1 := hs m (Nat.le_refl _) (by omega)
  have hl : (p.take m).length = m := by rw [List.length_take]; omega
  refine ⟨0, m, m, ⟨hj, by omega⟩, ⟨hi, Nat.le_refl _⟩, rfl, ?_⟩
  refine k _ ?_ ⟨_, by rw [hl]; rfl⟩
  unfold Bs
  rw [hl, List.map_take]
  simpa using h1
theorem c_seek (hfl : Floor.n ≤ w.heap.size) (ht : Tree w t) (hp : Bs w vp p) (hl : p.length ≤ 4611686018427387000) : Ret P n_sub_seek [t.v, vp] w fun r w' => ∃ u way vw, r = .agg #[u.v, vw] ∧ Bs w' vw way ∧ (∃ ad, vw = .slice ad way.length way.length) ∧ Tree w' u ∧ Ext No w w' ∧ Seek t p u way := by
  refine W_sub_seek ?_
  refine xnew fun sb w1 hsb hsblk hz he1 => ?_
  have hsblk : Blk w1 sb [.pointer none, .slice none 0 0] T_sub_spot := hsblk
  have hone : ∀ (a : Option Addr) (x : Option Addr) (m c : Nat), ∀ u ∈ [Value.pointer a, .slice x m c], u.oneCell' = true := fun a x m c u hu => by
    simp only [List.mem_cons, List.mem_nil_iff, or_false] at hu
    rcases hu with rfl | rfl <;> rfl
  refine xloop (fun nn vs w' => ∃ (u : T) (at_ : Nat) (x1 x3 x4 x5 x6 : Value), vs = [u.v, x1, .int .i64 at_, x3, x4, x5, x6] ∧ nn = p.length + 1 - at_ ∧ at_ ≤ p.length ∧ (∀ r, t.get (p.take at_ ++ r) = u.get r) ∧ (at_ = 0 → u = t) ∧ (t.Leafy → u.Leafy) ∧ (t.er.Fine → u.er.Fine) ∧ ((∀ b, u.All b → t.All b) ∧ ∀ q, t.OwQ q → u.OwQ q) ∧ (u ≠ .nil → at_ ≠ 0 → t.er.Fine → ∃ k v, t.get k = some v ∧ ¬ p.take at_ <+: k) ∧ Tree w' u ∧ Blk w' sb [.pointer none, .slice none 0 0] T_sub_spot ∧ Ext No w w') (p.length + 1)
    ⟨t, 0, _, _, _, _, _, rfl, by omega, by omega, fun r => by simp, fun _ => rfl, fun h => h, fun h => h, ⟨fun b h => h, fun _ h => h⟩, fun _ h => absurd rfl h, ht.extN he1, hsblk, he1⟩ ?_
  rintro nn vs g w2 ⟨u, at_, x1, x3, x4, x5, x6, rfl, rfl, hat, hget, hat0, hleaf, hfine, hall, hoth, hu, hsb2, hE2⟩
  unfold S_sub_seek_l1
  cases u with
  | nil =>
    refine xifF (b := !true) rfl ?_
    show XDo P (storeVar T_sub_spot ⟨sb, 0, none⟩ (.agg (List.toArray [.pointer none, .slice none 0 0]))) w2 _
    refine xstoreVar hsb2 (by kernel_rfl) (by simp) (hone _ _ _ _) fun w3 hb3 hz3 he3 => ?_
    refine hb3.ldA (by simp) ?_
    refine ⟨.nil, [], .slice none 0 0, rfl, Bs.nil _, ⟨none, rfl⟩, trivial, hE2.trans1 he3 (by omega), .inl ⟨rfl, rfl, fun r => ?_⟩⟩
    have := hget (p.drop at_ ++ r)
    rw [← List.append_assoc, List.take_append_drop] at this
    rw [this]; rfl
  | node a ow part val ks kids =>
    refine xifT (b := !false) rfl ?_
    refine (c_Part hu).mono ?_
    rintro pv w3 ⟨hpv, he3⟩
    have hpv : Bs w3 pv part := hpv
    have hE3 := hE2.transN he3
    have hsb3 := hsb2.ext he3 fun h => h
    have hpl := hu.1.short
    refine (hp.extN hE3).drop at_ rfl hat fun vl hvl => ?_
    refine (c_Common hpv hvl (by omega) (by rw [List.length_drop]; omega)).mono ?_
    rintro r w4 ⟨rfl, he4⟩
    have hE4 := hE3.transN he4
    have hsb4 := hsb3.ext he4 fun h => h
    obtain ⟨aa, q, s, hpart, hleft, hcm, hne⟩ := common_split part (p.drop at_)
    rw [← hcm]
    refine (hvl.extN he4).len ?_
    refine xifE (fun e => ?_) fun e => ?_
    · have hs0 : s = [] := by
        have := congrArg List.length hleft
        simp at this e
        exact List.eq_nil_of_length_eq_zero (by omega)
      subst hs0
      refine (hp.extN hE4).room at_ hat rfl rfl fun vw hvw hroom => ?_
      obtain ⟨ad, hvwe⟩ := hroom
      subst hvwe
      show XDo P (storeVar T_sub_spot ⟨sb, 0, none⟩ (.agg (List.toArray [(T.node a ow part val ks kids).v, .slice ad (p.take at_).length (p.take at_).length]))) w4 _
      refine xstoreVar hsb4 (by kernel_rfl) (by simp) (hone _ _ _ _) fun w5 hb5 hz5 he5 => ?_
      refine hb5.ldA (by simp) ?_
      have hE5 := hE4.trans1 he5 (by omega)
      refine ⟨.node a ow part val ks kids, p.take at_, .slice ad (p.take at_).length (p.take at_).length, by simp, ?_, ⟨ad, rfl⟩, ?_, hE5, .inr ⟨by simp, List.take_prefix _ _, ?_, hget, fun h => ?_, hleaf, hfine, hall, fun h1 h2 => ?_⟩⟩
      · refine hvw.ext he5 fun b hb hlt => ?_
        have hb : b = sb := hb
        subst hb
        exact ⟨by omega, _, _, hsb4, by decide⟩
      · refine ((hu.extN he3).extN he4).ext he5 (fun b hb hlt => ?_) fun b hb hb' => ?_
        · have hb : b = sb := hb
          subst hb
          exact ⟨by omega, _, _, hsb4, by decide⟩
        · have hb' : b = sb := hb'
          subst hb'
          obtain ⟨cs, T', h1, h2⟩ := ((hu.extN he3).extN he4).ty hb
          have := (h1.inj hsb4).2
          rcases h2 with rfl | rfl | rfl | rfl | rfl | rfl <;> exact absurd this (by decide)
      · show p <+: p.take at_ ++ part
        rw [hpart]
        have : p = p.take at_ ++ aa := by
          conv => lhs; rw [← List.take_append_drop at_ p]
          rw [hleft, List.append_nil]
        conv => lhs; rw [this]
        rw [← List.append_assoc]
        exact List.prefix_append _ _
      · refine hat0 ?_
        have := congrArg List.length h
        simp at this
        rcases this with h | h
        · exact h
        · rw [h] at hat
          simp at hat
          exact hat
      · exact hoth (by simp) (fun h => h1 (by rw [h]; rfl)) h2
    · have hs0 : s ≠ [] := by
        intro hs
        apply e
        have := congrArg List.length hleft
        rw [hs] at this
        simp at this ⊢
        omega
      refine (hpv.extN he4).len ?_
      refine xifD (fun hlt => ?_) fun hge => ?_
      · have hq0 : q ≠ [] := by
          intro hq
          rw [hq] at hpart
          rw [hpart] at hlt
          simp at hlt
        show XDo P (storeVar T_sub_spot ⟨sb, 0, none⟩ (.agg (List.toArray [.pointer none, .slice none 0 0]))) w4 _
        refine xstoreVar hsb4 (by kernel_rfl) (by simp) (hone _ _ _ _) fun w5 hb5 hz5 he5 => ?_
        refine hb5.ldA (by simp) ?_
        refine ⟨.nil, [], .slice none 0 0, rfl, Bs.nil _, ⟨none, rfl⟩, trivial, hE4.trans1 he5 (by omega), .inl ⟨rfl, rfl, fun r => ?_⟩⟩
        have := hget (p.drop at_ ++ r)
        rw [← List.append_assoc, List.take_append_drop] at this
        rw [this]
        refine T.get_no fun hh => ?_
        rw [hleft, hpart, List.append_assoc, List.prefix_append_right_inj] at hh
        obtain ⟨c, q', rfl⟩ := List.exists_cons_of_ne_nil hq0
        obtain ⟨d, s', rfl⟩ := List.exists_cons_of_ne_nil hs0
        rw [List.cons_append, List.cons_prefix_cons] at hh
        exact hne c d q' s' rfl rfl hh.1
      · have hq0 : q = [] := by
          rw [hpart] at hge
          simp at hge
          exact List.eq_nil_of_length_eq_zero (by omega)
        subst hq0
        rw [List.append_nil] at hpart
        subst hpart
        obtain ⟨c, s', rfl⟩ := List.exists_cons_of_ne_nil hs0
        have hlt : part.length < (p.drop at_).length := by rw [hleft]; simp
        refine (hvl.extN he4).rd part.length hlt rfl ?_
        have hc : (p.drop at_)[part.length] = c := by simp [hleft]
        rw [hc]
        refine (c_Kid ((hu.extN he3).extN he4)).mono ?_
        rintro r w5 ⟨rfl, he5⟩
        have hplen : at_ + part.length + 1 ≤ p.length := by
          have := congrArg List.length hleft
          simp at this
          omega
        refine xi (r := ((part.length + 1 : Nat) : Int)) (by rw [wrapI (by omega)]; omega) ?_
        refine xi (r := ((at_ + (part.length + 1) : Nat) : Int)) (by rw [wrapI (by omega)]; omega) ?_
        have htk : p.take (at_ + (part.length + 1)) = p.take at_ ++ (part ++ [c]) := by
          have h1 : p = p.take at_ ++ (part ++ [c]) ++ s' := by
            conv => lhs; rw [← List.take_append_drop at_ p]
            rw [hleft]; simp
          have h2 : (p.take at_ ++ (part ++ [c])).length = at_ + (part.length + 1) := by simp; omega
          conv => lhs; rw [h1]
          rw [← h2, List.take_left]
        refine xnext (p.length + 1 - (at_ + (part.length + 1))) (by omega) ⟨kids c, at_ + (part.length + 1), _, _, _, _, _, rfl, rfl, by omega, fun r => ?_, fun h => by omega, fun h => (hleaf h).2 c, fun h => (hfine h).2 c, ⟨fun b hb => hall.1 b (.inr ⟨c, hb⟩), fun q h => (hall.2 q h).2 c⟩, fun hk0 _ hf => ?_, (((hu.extN he3).extN he4).extN he5).kid c, hsb4.ext he5 fun h => h, hE4.transN he5⟩
        · rw [htk, List.append_assoc, hget, List.append_assoc, T.get_app]
          rfl
        · have hks : ((kids c).er).opt.isSome := E.isSome_iff.2 fun h => hk0 (T.er_nil h)
          obtain ⟨k, v, hk, hn⟩ := other_key (kids := fun c => (kids c).er) (hfine hf) hks
          refine ⟨p.take at_ ++ k, v, by rw [hget]; exact hk, fun h => hn ?_⟩
          rw [htk, List.prefix_append_right_inj] at h
          exact h
theorem app_bytes {ad : Option Addr} {x : Value} {xs ys : Key} {ty : TypeId} {K : Value → World → Prop} (hv : Bs w (.slice ad xs.length xs.length) xs) (hx : Bs w x ys) (hn : xs.length + ys.length ≤ 140737488355328) (k : ∀ v' w', Bs w' v' (xs ++ ys) → Ext No w w' → K v' w') :
    XRun P (Builtin.append_ #[T_s_uint8, T_s_uint8] ty #[.slice ad xs.length xs.length, x]) w K :=
  app_full (T0 := QT T_uint8) ei_u8 hv (fun b => .inl rfl) hx (by omega) (by omega) fun v' w' h he => k v' w' (by unfold Bs; rw [List.length_append, List.map_append]; exact h) he
/-- what 'Sub' and 'Strip' make -/
structure SubR (w w' : World) (t t' : T) (mt : Option Mtr) (n n' o : Nat) : Prop where
  tree : Tree w' t'
  leafy : t.Leafy → t'.Leafy
  cnt : Mt w' mt n'
  ge : n ≤ n'
  le : n' ≤ n + 1
  ext : Ext (MX mt) w w'
  all : ∀ q : Nat → Prop, (∀ b, t.All b → q b) → (∀ b, w.heap.size ≤ b → q b) → ∀ b, t'.All b → q b
  own : ∀ q : Nat → Prop, q o → t.OwQ q → t'.OwQ q
theorem c_Sub (ht : Tree w t) (hm : Mt w mt n) (ho : o ≠ 0) (hp : Bs w vp p) (hl : p.length ≤ 1000000) {g : Key → Option Nat} (hg : Can t.er g) (hlong : t.er.long ≤ 65535) :
    Ret P n_sub_Sub [t.v, vp, .int .u64 o, mv mt] w fun r w' => ∃ t' n', r = .tuple #[t'.v, .int .i64 0] ∧ SubR w w' t t' mt n n' o ∧ Can t'.er (fun k => if p <+: k then g k else none) ∧ ((∀ k, g k ≠ none → p <+: k) → t' = t ∧ n' = n) := by
  refine W_sub_Sub ?_
  refine xifF (by simp; omega) ?_
  refine (c_seek hm.fl ht hp (by omega)).mono ?_
  rintro r w1 ⟨u, way, vw, rfl, hw, ⟨ad, rfl⟩, hu, he1, hsk⟩
  refine xnew fun sb w2 hsb hsblk hz he2 => ?_
  refine xstoreVar hsblk (by kernel_rfl) (by simp) (fun x hx => by
    simp only [List.mem_cons, List.mem_nil_iff, or_false] at hx
    rcases hx with rfl | rfl <;> rfl) fun w3 hb3 hz3 he3 => ?_
  have hb3 : Blk w3 sb [u.v, .slice ad way.length way.length] T_sub_spot := by simpa using hb3
  have hE13 : Ext No w1 w3 := he2.trans1 he3 (by omega)
  have hE3 := he1.transN hE13
  refine hb3.drew.ld (o := 0) (v := u.v) rfl ?_
  refine hb3.drew.ld (o := 1) (v := .slice ad way.length way.length) rfl ?_
  refine hb3.drew.ld (o := 0) (v := u.v) rfl ?_
  refine (c_Part (hu.extN hE13.drew)).mono ?_
  rintro pv w4 ⟨hpv, he4⟩
  have hb4 := hb3.drew.ext he4 fun h => h
  have hE4 := hE3.drew.transN he4
  refine ⟨(hb4.cell 1).trans rfl, (hb4.cell 0).trans rfl, ?_⟩
  have hwl : way.length ≤ p.length := by
    rcases hsk with ⟨-, h, -⟩ | ⟨-, h, -⟩
    · rw [h]; simp
    · exact h.length_le
  have hpl : u.part.length ≤ 65535 := by
    cases u with
    | nil => simp [T.part]
    | node a ow part val ks kids => exact hu.1.short
  refine app_bytes (hw.extN (hE13.drew.transN he4)) hpv (by omega) fun v5 w5 hv5 he5 => ?_
  have hE5 := hE4.transN he5
  refine ⟨((hb4.ext he5 fun h => h).cell 0).trans rfl, ?_⟩
  have hm5 := hm.extN hE5
  have hu5 := hu.extN ((hE13.drew.transN he4).transN he5)
  have hwp : (way ++ u.part).length ≤ 65535 := by
    cases u with
    | nil =>
      rcases hsk with ⟨-, h, -⟩ | ⟨h, -⟩
      · rw [h]; simp [T.part]
      · exact absurd rfl h
    | node a ow part val ks kids =>
      rcases hsk with ⟨h, -⟩ | ⟨-, h1, h2, h3, -, -, hf, -, -⟩
      · cases h
      · obtain ⟨k, v, hk⟩ := (hf hg.fine).some_key (by simp [T.er])
        have h4 := h3 k
        have h5 : (T.node a ow part val ks kids).get k = some v := hk
        rw [h5] at h4
        have := E.long_le (e := t.er) h4
        obtain ⟨s, rfl⟩ := E.get_pre hk
        simp [T.part] at this ⊢
        omega
  refine (c_with hu5 hm5 ho hv5 hwp).mono ?_
  rintro r w6 ⟨t', n', rfl, ht', her, hlf, hm', hn1, hn2, hE, hsame, hal, how⟩
  have hE6 : Ext (MX mt) w w6 := (hE5.mono fun _ _ h => h.elim).transS hE
  have hz5 := hE5.size
  rcases hsk with ⟨rfl, rfl, hno⟩ | ⟨hne, h1, h2, h3, h0, hl2, hf, hall, hoth⟩
  · have ht0 : t' = .nil := T.er_nil her
    refine ⟨t', n', rfl, ⟨ht', fun _ => by rw [ht0]; trivial, hm', hn1, hn2, hE6, fun q _ _ b hb => by rw [ht0] at hb; exact hb.elim, fun _ _ _ => by rw [ht0]; trivial⟩, ?_, fun hk => ?_⟩
    · rw [her]
      refine ⟨trivial, fun k => ?_⟩
      show none = _
      split
      · rename_i hp
        obtain ⟨s, rfl⟩ := hp
        rw [← hg.get]
        exact (hno s).symm
      · rfl
    · have htn : t = .nil := T.er_nil (hg.none fun k => by
        refine Classical.byContradiction fun hh => ?_
        obtain ⟨s, rfl⟩ := hk k hh
        rw [← hg.get] at hh
        exact hh (hno s))
      rw [ht0, htn]
      exact ⟨rfl, (hsame (.inr rfl)).2⟩
  · cases u with
    | nil => exact absurd rfl hne
    | node a ow part val ks kids =>
      have hcan := Can.sub (kids := fun c => (kids c).er) hg (hf hg.fine) h3 h1 h2
      refine ⟨t', n', rfl, ⟨ht', fun h => hlf (hl2 h), hm', hn1, hn2, hE6, fun q hq1 hq2 => hal q (fun b hb => hq1 b (hall.1 b hb)) fun b hb => hq2 b (by omega), fun q hq h => how q hq (hall.2 q h)⟩, ?_, fun hk => ?_⟩
      · rw [her]; exact hcan
      · have hlen : way = [] := by
          refine Classical.byContradiction fun hw0 => ?_
          obtain ⟨k, v, hk1, hk2⟩ := hoth hw0 hg.fine
          refine hk2 (h1.trans (hk k ?_))
          rw [← hg.get]
          intro h
          have hk1 : t.er.get k = some v := hk1
          rw [h] at hk1; cases hk1
        subst hlen
        have hut := h0 rfl
        have := hsame (.inl (by simp))
        rw [this.1, hut]
        exact ⟨rfl, this.2⟩
end
end Go.Proofs.YthnegkjhciakpaaGreatDoor
end
section
namespace Go.Proofs.YthnegkjhciakpaaGreatDoor
open Go Go.RowKit X
set_option linter.unusedSimpArgs false
set_option linter.unusedVariables false
set_option linter.unusedSectionVars false
variable [Floor]
section
variable {w : World} {mt : Option Mtr} {n o : Nat} {t : T} {vp : Value} {p : Key}
theorem c_Sub0 {x y : Value} : Ret P n_sub_Sub [x, vp, .int .u64 0, y] w fun r w' => r = .tuple #[.pointer none, .int .i64 1] ∧ w' = w := by
  refine W_sub_Sub ?_
  exact xifT rfl ⟨rfl, rfl⟩
theorem c_Strip0 {x y : Value} : Ret P n_sub_Strip [x, vp, .int .u64 0, y] w fun r w' => r = .tuple #[.pointer none, .int .i64 1] ∧ w' = w := by
  refine W_sub_Strip ?_
  exact xifT rfl ⟨rfl, rfl⟩
theorem c_Under0 {x y : Value} : Ret P n_sub_Under [x, vp, .int .u64 0, y] w fun r w' => r = .tuple #[.pointer none, .int .i64 1] ∧ w' = w := by
  refine W_sub_Under ?_
  exact xifT rfl ⟨rfl, rfl⟩
theorem c_UnderNil (ho : o ≠ 0) : Ret P n_sub_Under [.pointer none, vp, .int .u64 o, mv mt] w fun r w' => r = .tuple #[.pointer none, .int .i64 0] ∧ w' = w := by
  refine W_sub_Under ?_
  refine xifF (by simp; omega) ?_
  exact xifT rfl ⟨rfl, rfl⟩
theorem c_Strip (ht : Tree w t) (hm : Mt w mt n) (ho : o ≠ 0) (hp : Bs w vp p) (hl : p.length ≤ 1000000) {g : Key → Option Nat} (hg : Can t.er g) :
    Ret P n_sub_Strip [t.v, vp, .int .u64 o, mv mt] w fun r w' => ∃ t' n', r = .tuple #[t'.v, .int .i64 0] ∧ SubR w w' t t' mt n n' o ∧ Can t'.er (fun k => g (p ++ k)) ∧ (p = [] → t' = t ∧ n' = n) := by
  refine W_sub_Strip ?_
  refine xifF (by simp; omega) ?_
  refine (c_seek hm.fl ht hp (by omega)).mono ?_
  rintro r w1 ⟨u, way, vw, rfl, hw, ⟨ad, rfl⟩, hu, he1, hsk⟩
  refine xnew fun sb w2 hsb hsblk hz he2 => ?_
  refine xstoreVar hsblk (by kernel_rfl) (by simp) (fun x hx => by
    simp only [List.mem_cons, List.mem_nil_iff, or_false] at hx
    rcases hx with rfl | rfl <;> rfl) fun w3 hb3 hz3 he3 => ?_
  have hb3 : Blk w3 sb [u.v, .slice ad way.length way.length] T_sub_spot := by simpa using hb3
  have hE13 : Ext No w1 w3 := he2.trans1 he3 (by omega)
  have hE3 := he1.transN hE13
  refine hb3.ld (o := 0) (v := u.v) rfl ?_
  rcases hsk with ⟨rfl, rfl, hno⟩ | ⟨hne, h1, h2, h3, h0, hl2, hf, hall, hoth⟩
  · refine xifT rfl ⟨.nil, n, rfl, ⟨trivial, fun _ => trivial, hm.extN hE3, Nat.le_refl _, by omega, hE3.mono fun _ _ h => h.elim, fun q _ _ b hb => hb.elim, fun _ _ _ => trivial⟩, ⟨trivial, fun k => ?_⟩, fun hp0 => ?_⟩
    · show none = _
      rw [← hg.get]
      exact (hno k).symm
    · subst hp0
      have htn : t = .nil := T.er_nil (hg.none fun k => by rw [← hg.get]; exact hno k)
      exact ⟨htn.symm, rfl⟩
  · cases u with
    | nil => exact absurd rfl hne
    | node a ow part val ks kids =>
      refine xifF rfl ?_
      refine hb3.drew.ld (o := 0) (v := (T.node a ow part val ks kids).v) rfl ?_
      refine hb3.drew.ld (o := 0) (v := (T.node a ow part val ks kids).v) rfl ?_
      refine hp.len ?_
      refine hb3.drew.ld (o := 1) (v := .slice ad way.length way.length) rfl ?_
      refine xLen_sl hw ?_
      have hwl := h1.length_le
      have hpl : part.length ≤ 65535 := hu.1.short
      have h2l := h2.length_le
      have h2l : p.length ≤ way.length + part.length := by simpa [T.part] using h2l
      refine xi (r := ((p.length - way.length : Nat) : Int)) (by rw [wrapI (by omega)]; omega) ?_
      refine (c_Part (hu.extN hE13.drew)).mono ?_
      rintro pv w4 ⟨hpv, he4⟩
      have hpv : Bs w4 pv part := hpv
      have hb4 := hb3.drew.ext he4 fun h => h
      have hE4 := hE3.drew.transN he4
      refine ⟨(hb4.cell 1).trans rfl, (hb4.cell 0).trans rfl, ?_⟩
      refine hpv.drop (p.length - way.length) rfl (by omega) fun v5 hv5 => ?_
      refine (c_with (hu.extN (hE13.drew.transN he4)) (hm.extN hE4) ho hv5 (by rw [List.length_drop]; omega)).mono ?_
      rintro r w6 ⟨t', n', rfl, ht', her, hlf, hm', hn1, hn2, hE, hsame, hal, how⟩
      have hE6 : Ext (MX mt) w w6 := (hE4.mono fun _ _ h => h.elim).transS hE
      have hz4 := hE4.size
      refine ⟨t', n', rfl, ⟨ht', fun h => hlf (hl2 h), hm', hn1, hn2, hE6, fun q hq1 hq2 => hal q (fun b hb => hq1 b (hall.1 b hb)) fun b hb => hq2 b (by omega), fun q hq h => how q hq (hall.2 q h)⟩, ?_, fun hp0 => ?_⟩
      · rw [her]
        exact Can.strip (kids := fun c => (kids c).er) hg (hf hg.fine) h3 h1 h2
      · subst hp0
        have hw0 : way = [] := List.prefix_nil.1 h1
        subst hw0
        have hs := hsame (.inl (by simp [T.part]))
        rw [hs.1, h0 rfl]
        exact ⟨rfl, hs.2⟩
theorem c_Under (ht : Tree w t) (hm : Mt w mt n) (ho : o ≠ 0) (hp : Bs w vp p) {g : Key → Option Nat} (hg : Can t.er g) (hlong : t.er.long ≤ 65535) (hfit : t = .nil ∨ p.length + t.er.long ≤ 65535) :
    Ret P n_sub_Under [t.v, vp, .int .u64 o, mv mt] w fun r w' => ∃ t' n', r = .tuple #[t'.v, .int .i64 0] ∧ SubR w w' t t' mt n n' o ∧ Can t'.er (fun k => if p <+: k then g (k.drop p.length) else none) ∧ (p = [] → t' = t ∧ n' = n) ∧ t'.er = partE (p ++ t.part) t.er := by
  cases t with
  | nil =>
    refine (c_UnderNil ho).mono ?_
    rintro r w' ⟨rfl, rfl⟩
    refine ⟨.nil, n, rfl, ⟨ht, fun h => h, hm, Nat.le_refl _, by omega, Ext.refl _ _, fun q h _ b hb => h b hb, fun _ _ h => h⟩, ⟨trivial, fun k => ?_⟩, fun _ => ⟨rfl, rfl⟩, rfl⟩
    show none = _
    split
    · rw [← hg.get]; rfl
    · rfl
  | node a ow part val ks kids =>
    have hfit : p.length + (T.node a ow part val ks kids).er.long ≤ 65535 := hfit.resolve_left (by simp)
    refine W_sub_Under ?_
    refine xifF (by simp; omega) ?_
    refine xifF rfl ?_
    refine hp.len ?_
    refine (c_Longest _ ht (by omega)).mono ?_
    rintro r w1 ⟨rfl, he1⟩
    refine xi (r := ((65535 - (T.node a ow part val ks kids).er.long : Nat) : Int)) (by rw [wrapI (by omega)]; omega) ?_
    refine xifF (by simp; omega) ?_
    refine hp.len ?_
    refine hp.len ?_
    refine (hp.extN he1).room p.length (Nat.le_refl _) rfl rfl fun vw hvw hroom => ?_
    rw [List.take_length] at hvw hroom
    obtain ⟨ad, rfl⟩ := hroom
    refine (c_Part (ht.extN he1.drew)).mono ?_
    rintro pv w2 ⟨hpv, he2⟩
    have hpv : Bs w2 pv part := hpv
    have hE2 := he1.drew.transN he2
    have hlg : part.length ≤ (T.node a ow part val ks kids).er.long := by
      show _ ≤ (E.node part val fun c => (kids c).er).long
      rw [E.long_node]; omega
    refine app_bytes (hvw.extN (he2.undrew)) hpv (by omega) fun v3 w3 hv3 he3 => ?_
    have hE3 := hE2.transN he3
    refine (c_with (ht.extN hE3) (hm.extN hE3) ho hv3 (by rw [List.length_append]; omega)).mono ?_
    rintro r w4 ⟨t', n', rfl, ht', her, hlf, hm', hn1, hn2, hE, hsame, hal, how⟩
    have hE4 : Ext (MX mt) w w4 := (hE3.mono fun _ _ h => h.elim).transS hE
    have hz3 := hE3.size
    refine ⟨t', n', rfl, ⟨ht', hlf, hm', hn1, hn2, hE4, fun q hq1 hq2 => hal q hq1 fun b hb => hq2 b (by omega), how⟩, ?_, fun hp0 => ?_, her⟩
    · rw [her]
      exact hg.under p rfl
    · subst hp0
      exact hsame (.inl rfl)
theorem c_UnderBig (ht : Tree w t) (hm : Mt w mt n) (ho : o ≠ 0) (hp : Bs w vp p) (hpl : p.length ≤ 1000000) (hlong : t.er.long ≤ 65535) (hne : t ≠ .nil) (hbig : 65535 < p.length + t.er.long) :
    Ret P n_sub_Under [t.v, vp, .int .u64 o, mv mt] w fun r w' => r = .tuple #[.pointer none, .int .i64 8] ∧ Ext No w w' := by
  cases t with
  | nil => exact absurd rfl hne
  | node a ow part val ks kids =>
    refine W_sub_Under ?_
    refine xifF (by simp; omega) ?_
    refine xifF rfl ?_
    refine hp.len ?_
    refine (c_Longest _ ht (by omega)).mono ?_
    rintro r w1 ⟨rfl, he1⟩
    refine xi (r := ((65535 - (T.node a ow part val ks kids).er.long : Nat) : Int)) (by rw [wrapI (by omega)]; omega) ?_
    exact xifT (by simp; omega) ⟨rfl, he1⟩
end
end Go.Proofs.YthnegkjhciakpaaGreatDoor
end
