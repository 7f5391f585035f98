/-  inter: the recursion; inter.Of.  -/
import Derived.Test.YtbgfmgkimccbeaaGreatDoorInt3
namespace Go.Proofs.YtbgfmgkimccbeaaGreatDoor
open Go Go.RowKit X
set_option linter.unusedSimpArgs false
set_option linter.unusedVariables false
set_option linter.unusedSectionVars false
variable [Floor]
theorem setK_one (y : UInt8) (t : T) : (fun c => (setK [(y, t)] c).er) = updE noE y t.er := by
  have h : setK [(y, t)] = updT (fun _ => .nil) y t := setK_snoc (l := []) (p := (y, t)) fun q hq => by cases hq
  rw [h, updT_er]
  rfl
theorem norm_one_nil (part : Key) (y : UInt8) : normE part none (updE noE y .nil) = .nil := by
  have : updE noE y .nil = noE := funext fun c => by unfold updE; split <;> rfl
  rw [this]
  unfold normE
  rw [if_pos cntE_no]
theorem norm_one {part : Key} {y : UInt8} {e : E} (h : e ≠ .nil) : normE part none (updE noE y e) = liftE part y e := by
  rw [normE_one (c := y) (by rw [updE_same]; cases e with | nil => exact absurd rfl h | node => rfl) fun d hd => by rw [updE_other _ _ hd]; rfl, updE_same]
theorem norm_one_ne {part : Key} {y : UInt8} {e : E} {v : Option Nat} {ks : UInt8 → E} : E.node part v ks ≠ normE part none (updE noE y e) := by
  cases e with
  | nil => rw [norm_one_nil]; intro h; cases h
  | node p' v' ks' =>
    rw [norm_one (by simp)]
    intro h
    have h : E.node part v ks = .node (part ++ y :: p') v' ks' := h
    injection h with h1 _ _
    have := congrArg List.length h1
    simp at this
section
variable {w : World} {aa aow ba bow o p n oa ob M : Nat} {apart bpart : Key} {aval bval : Option Nat} {aks bks : List Nat} {akids bkids : UInt8 → T} {mt : Option Mtr} {b : T} {y : UInt8}
theorem c_sOne (hI : OfI p o mt M) (ho : o ≠ 0) (ha : Go1 w (.node aa aow apart aval aks akids) oa) (hb : Go1 w b ob) (hla : (T.node aa aow apart aval aks akids).er.long ≤ 65535) (hM : ((akids y).er.long + 1) + (b.er.long + 1 - ob) < M) (hm : Mt w mt n) :
    Ret P n_inter_sieve_one [sivV p o mt, (T.node aa aow apart aval aks akids).v, bv y, restV b ob] w fun r w' => ∃ t' n' e, r = t'.v ∧ Tree w' t' ∧ Mt w' mt n' ∧ Ext (MX mt) w w' ∧ (∀ c, t'.All c → (T.node aa aow apart aval aks akids).All c ∨ w.heap.size ≤ c) ∧ t'.Leafy ∧ Can e (gI p (akids y).er b.er 0 ob) ∧ t'.er = normE apart none (updE noE y e) := by
  refine W_inter_sieve_one ?_
  refine xnew fun sb w1 hsb hS hz1 he1 => ?_
  have hS : Blk w1 sb (sivC p o mt) T_inter_sieve := hS
  refine xnew fun rb w2 hrb hR hz2 he2 => ?_
  have hR : Blk w2 rb [b.v, .int .i64 ob] T_inter_rest := hR
  have hS2 := hS.ext he2 fun h => h
  have hd := Ext.drew (Ext.refl No w2)
  have hE2 := (he1.transN he2).transN hd
  refine hS2.drew.ldA rfl ?_
  refine hR.drew.ldA rfl ?_
  have ha2 := ha.extN hE2
  refine (c_Kid ha2.tree (b := y)).mono ?_
  rintro _ w3 ⟨rfl, he3⟩
  have hS3 := hS2.drew.ext he3 fun h => h
  refine ⟨xkeepA (hR.drew.ext he3 fun h => h), xkeepA hS3, ?_⟩
  have hE3 := hE2.transN he3
  have ha3 := ha.extN hE3
  have hb3 := hb.extN hE3
  have hm3 := hm.extN hE3
  have hkl : (akids y).er.long ≤ 65535 ∧ (akids y).er.long ≤ (T.node aa aow apart aval aks akids).er.long := by
    by_cases e : y ∈ dom (ptrs akids)
    · have := long_kid (a := aa) (ow := aow) (part := apart) (val := aval) (ks := aks) e
      omega
    · have : akids y = .nil := T.nil_of fun hq => e (dom_mem.2 hq)
      rw [this]
      exact ⟨Nat.zero_le _, Nat.zero_le _⟩
  have hk3 : Go1 w3 (akids y) 0 := ⟨ha3.tree.2 y, ha.fine.2 y, ha.leafy.2 y, by have := ha.long; omega, Nat.zero_le _⟩
  refine Ret.mono (show Ret P n_inter_sieve_of [sivV p o mt, restV (akids y) 0, restV b ob] w3 _ from hI (by omega) hkl.1 hk3 hb3 hm3) ?_
  rintro _ w4 ⟨t1, n1, rfl, hIR⟩
  have hz3 := hE3.size
  have hE34 : Ext (MX mt) w w4 := (hE3.mono fun _ _ h => h.elim).transS hIR.ext
  have hall : ∀ c, t1.All c → (T.node aa aow apart aval aks akids).All c ∨ w.heap.size ≤ c := fun c hc => (hIR.all c hc).imp (fun h => .inr ⟨y, h⟩) fun h => by omega
  by_cases hn : t1 = .nil
  · subst hn
    refine xpeq_self T.nil ?_
    refine xifT rfl ?_
    exact ⟨.nil, n1, .nil, rfl, trivial, hIR.cnt, hE34, fun c hc => hc.elim, trivial, hIR.can, (norm_one_nil _ _).symm⟩
  · refine xpeq_node hn ?_
    refine xifF rfl ?_
    have hS4 := hS3.ext hIR.ext (hm3.ne hS3 (by decide))
    refine hS4.ldA rfl ?_
    show XNew w4 [bv y, t1.v] T_del_Kid _
    refine xnew fun kb w5 hkb hK hz5 he5 => ?_
    have hL : LK w5 (.slice (some ⟨kb, 0, none⟩) 1 1) [(y, t1)] := ⟨⟨_, hK.sln rfl, fun i p hp => by
      cases i with
      | zero => simp at hp; subst hp; exact ⟨rfl, rfl⟩
      | succ i => simp at hp⟩, fun p hp => by rw [List.mem_singleton.1 hp]; exact hIR.tree.extN he5, fun p hp => by rw [List.mem_singleton.1 hp]; exact hn, List.pairwise_singleton _ _, by simp⟩
    have ha5 := (ha3.extM hm3 hIR.ext).extN he5
    have hkn : akids y ≠ .nil := fun e => by
      obtain ⟨k, v, hk⟩ := E.fine_some hIR.can.fine (by cases t1 with | nil => exact absurd rfl hn | node => simp [T.er])
      rw [hIR.can.get k] at hk
      obtain ⟨z, hz⟩ := gI_some hk
      rw [e] at hz
      cases hz
    have hyd : y ∈ dom (ptrs akids) := dom_mem.2 (T.ptr_some hkn)
    have hks : aks ≠ [] := fun e => by
      have h0 : dom (ptrs akids) = [] := List.eq_nil_of_length_eq_zero (ha.leafy.1.1 e)
      rw [h0] at hyd
      cases hyd
    refine Ret.mono (show Ret P n_inter_sieve_keep [sivV p o mt, (T.node aa aow apart aval aks akids).v, .bool (none : Option Nat).isSome, .int .u64 (0 : Nat), .slice (some ⟨kb, 0, none⟩) 1 1] w5 _ from
      c_sKeep (p := p) (val := none) (x := 0) ha5.tree hks ha.fine ha.leafy hL (fun q hq => by rw [List.mem_singleton.1 hq]; exact hIR.leafy) (fun y h => by cases h) (by omega) ho (hIR.cnt.extN he5) fun q hq => by
        rw [List.mem_singleton.1 hq]
        have h3 := part_long hIR.can (fun k v hkv => gI_some hkv) hn
        have := long_kid (a := aa) (ow := aow) (part := apart) (val := aval) (ks := aks) hyd
        show apart.length + 1 + t1.part.length ≤ _
        omega) ?_
    rintro _ w6 ⟨t', n', rfl, hLR, -⟩
    have hz4 := hE34.size
    have hz5' := he5.size
    refine ⟨t', n', t1.er, rfl, hLR.tree, hLR.cnt, (hE34.transN he5).transS hLR.ext, fun c hc => ?_, hLR.leafy, hIR.can, by rw [hLR.er, setK_one]⟩
    rcases hLR.all c hc with h | ⟨q, hq, h⟩ | h
    · exact .inl h
    · rw [List.mem_singleton.1 hq] at h
      exact hall c h
    · exact .inr (by omega)
theorem off_self {p oa : Nat} {e : E} (h3 : p ≠ 3) (hp : 1 ≤ p ∧ p ≤ 5) (h : ∀ ap v ks, e = .node ap v ks → oa ≤ ap.length) (k : Key) : gI p e e oa oa k = e.get k := by
  unfold gI
  cases e with
  | nil => rfl
  | node ap v ks =>
    by_cases hk : ap <+: k
    · obtain ⟨s, rfl⟩ := hk
      rw [drop_app (h _ _ _ rfl)]
      have : (offE oa (E.node ap v ks)).get (ap.drop oa ++ s) = (E.node ap v ks).get (ap ++ s) := by
        show (E.node (ap.drop oa) v ks).get _ = _
        cases s with
        | nil => rw [List.append_nil, List.append_nil, get_nil, get_nil]
        | cons c s => rw [get_cons, get_cons]
      rw [this]
      exact interO_self h3 hp _
    · rw [get_no hk]; rfl
set_option maxRecDepth 100000 in
theorem c_iOfNodes (hI : OfI p o mt M) (ho : o ≠ 0) (hp : 1 ≤ p ∧ p ≤ 5) (hla : (T.node aa aow apart aval aks akids).er.long ≤ 65535) (ha : Go1 w (.node aa aow apart aval aks akids) oa) (hb : Go1 w (.node ba bow bpart bval bks bkids) ob)
    (hM : ((T.node aa aow apart aval aks akids).er.long + 1 - oa) + ((T.node ba bow bpart bval bks bkids).er.long + 1 - ob) ≤ M) (hm : Mt w mt n) :
    Ret P n_inter_sieve_of [sivV p o mt, restV (.node aa aow apart aval aks akids) oa, restV (.node ba bow bpart bval bks bkids) ob] w fun r w' => ∃ t' n', r = t'.v ∧ IR w w' p (.node aa aow apart aval aks akids) (.node ba bow bpart bval bks bkids) oa ob t' mt n n' := by
  have hoffa : oa ≤ apart.length := ha.off
  have hoffb : ob ≤ bpart.length := hb.off
  have hsa := ha.tree.1.short
  have hsb := hb.tree.1.short
  have hal : apart.length ≤ (T.node aa aow apart aval aks akids).er.long := by show _ ≤ (E.node apart aval fun c => (akids c).er).long; rw [E.long_node]; omega
  have hbl : bpart.length ≤ (T.node ba bow bpart bval bks bkids).er.long := by show _ ≤ (E.node bpart bval fun c => (bkids c).er).long; rw [E.long_node]; omega
  refine W_inter_sieve_of ?_
  refine xnew fun jb w1 hjb hj hz1 he1 => ?_
  have hj : Blk w1 jb (sivC p o mt) T_inter_sieve := hj
  refine xnew fun ea w2 hea hA hz2 he2 => ?_
  have hA : Blk w2 ea [(T.node aa aow apart aval aks akids).v, .int .i64 oa] T_inter_rest := hA
  refine xnew fun eb w3 heb hB hz3 he3 => ?_
  have hB : Blk w3 eb [(T.node ba bow bpart bval bks bkids).v, .int .i64 ob] T_inter_rest := hB
  have hj3 := (hj.ext he2 fun h => h).ext he3 fun h => h
  have hA3 := hA.ext he3 fun h => h
  have hE3 := (he1.transN he2).transN he3
  have ha3 := ha.extN hE3
  have hb3 := hb.extN hE3
  have hm3 := hm.extN hE3
  refine xj (fun vs w' => vs = [.bool false] ∧ w' = w3) ?_ ?_
  · refine hA3.ld (v := (T.node aa aow apart aval aks akids).v) rfl ?_
    refine xpeq_node (t := .node aa aow apart aval aks akids) (by simp) ?_
    refine xifF rfl ?_
    refine hB.ld (v := (T.node ba bow bpart bval bks bkids).v) rfl ?_
    refine xpeq_node (t := .node ba bow bpart bval bks bkids) (by simp) ?_
    exact ⟨rfl, rfl⟩
  rintro vs g w4 ⟨rfl, rfl⟩
  refine xifF rfl ?_
  obtain ⟨pva, hba, -⟩ := ha3.tree.1.blk
  obtain ⟨pvb, hbb, -⟩ := hb3.tree.1.blk
  refine xj (fun vs w' => ∃ t : Bool, vs = [.bool t] ∧ w' = w4 ∧ (t = true → p ≠ 3 ∧ aa = ba ∧ oa = ob)) ?_ ?_
  · refine hA3.ldA rfl ?_
    refine hB.ldA rfl ?_
    have key : ∀ t : Bool, (sameAddr ⟨aa, 0, none⟩ ⟨ba, 0, none⟩).run P w4 = .ok t w4 → (t = true → aa = ba) → XEqv P .eql T_inter_rest (.tmp 20) (.tmp 21) (.agg #[rp aa, .int .i64 oa]) (.agg #[rp ba, .int .i64 ob]) w4 fun r1020 =>
        xIf (.bool r1020) (XLd w4 ((⟨jb, 0, none⟩ : Addr).add 0) fun v1021 => xNe v1021 (.int .i64 3) fun v1022 => ∃ t : Bool, [v1022] = [.bool t] ∧ w4 = w4 ∧ (t = true → p ≠ 3 ∧ aa = ba ∧ oa = ob)) (∃ t : Bool, [Value.bool false] = [.bool t] ∧ w4 = w4 ∧ (t = true → p ≠ 3 ∧ aa = ba ∧ oa = ob)) := fun t ht htt => by
      refine xeqv_rest ht ?_
      by_cases h : (t && decide (oa = ob)) = true
      · rw [h]
        refine xifT rfl ?_
        refine hj3.ld (o := 0) (v := .int .i64 p) rfl ?_
        simp only [Bool.and_eq_true, decide_eq_true_eq] at h
        exact ⟨_, rfl, rfl, fun hs => ⟨fun e => by subst e; exact absurd hs (by decide), htt h.1, h.2⟩⟩
      · rw [show (t && decide (oa = ob)) = false by simpa using h]
        exact xifF rfl ⟨false, rfl, rfl, fun h => by cases h⟩
    by_cases e : aa = ba
    · exact key true (by rw [e]; exact run_sameAddr_same _ _) fun _ => e
    · exact key false (run_sameAddr_other _ (by simp [e]) hba.h hbb.h) fun h => by cases h
  rintro vs g w5 ⟨t, rfl, rfl, ht⟩
  cases t with
  | true =>
    obtain ⟨h3, e, rfl⟩ := ht rfl
    refine xifT rfl ?_
    refine hA3.ld (v := (T.node aa aow apart aval aks akids).v) rfl ?_
    have hab := Tree.inj ha3.tree hb3.tree (by show some (⟨aa, 0, none⟩ : Addr) = some ⟨ba, 0, none⟩; rw [e])
    have hg : ∀ k, gI p (T.node aa aow apart aval aks akids).er (T.node ba bow bpart bval bks bkids).er oa oa k = (T.node aa aow apart aval aks akids).er.get k := fun k => by
      rw [← hab]
      exact off_self h3 hp (fun ap v ks h => by
        have h : E.node apart aval (fun c => (akids c).er) = .node ap v ks := h
        injection h with h1 _ _
        rw [← h1]; exact hoffa) k
    exact ⟨_, n, rfl, ha3.tree, hm3, hE3.mono fun _ _ h => h.elim, fun c hc => .inl hc, ha.leafy, ⟨ha.fine, fun k => (hg k).symm⟩, fun _ => ⟨rfl, rfl⟩⟩
  | false =>
    refine xifF rfl ?_
    have hd := Ext.drew (Ext.refl No w5)
    refine hA3.drew.ldA rfl ?_
    refine hB.drew.ldA rfl ?_
    refine (c_rstLeft (off := oa) (ha3.tree.extN hd) ha3.off).mono ?_
    rintro pv w6 ⟨hpv, he6⟩
    have hpv : Bs w6 pv (apart.drop oa) := hpv
    have he56 := hd.transN he6
    refine ⟨xkeepA (hB.ext he56 fun h => h), ?_⟩
    refine (c_rstLeft (off := ob) (hb3.tree.extN he56) hb3.off).mono ?_
    rintro qv w7 ⟨hqv, he7⟩
    have hqv : Bs w7 qv (bpart.drop ob) := hqv
    have hpv7 := hpv.extN he7
    refine (c_Common hpv7 hqv (by rw [List.length_drop]; omega) (by rw [List.length_drop]; omega)).mono ?_
    rintro _ w8 ⟨rfl, he8⟩
    have he58 := (he56.transN he7).transN he8
    have hE8 := hE3.transN he58
    have hp8 := hpv7.extN he8
    have hq8 := hqv.extN he8
    have hj8 := hj3.ext he58 fun h => h
    have hA8 := hA3.ext he58 fun h => h
    have hB8 := hB.ext he58 fun h => h
    have ha8 := ha.extN hE8
    have hb8 := hb.extN hE8
    have hm8 := hm.extN hE8
    have hdl : (apart.drop oa).length = apart.length - oa := List.length_drop
    have hdl' : (bpart.drop ob).length = bpart.length - ob := List.length_drop
    obtain ⟨c, q, r, ha0, hb0, hc0, hdf⟩ := common_split (apart.drop oa) (bpart.drop ob)
    rw [← hc0]
    have hla' : (apart.drop oa).length = c.length + q.length := by rw [ha0, List.length_append]
    have hlb' : (bpart.drop ob).length = c.length + r.length := by rw [hb0, List.length_append]
    have hdropa : ∀ k, apart.drop (oa + k) = (c ++ q).drop k := fun k => by rw [← ha0, List.drop_drop]
    have hdropb : ∀ k, bpart.drop (ob + k) = (c ++ r).drop k := fun k => by rw [← hb0, List.drop_drop]
    have hd8 := Ext.drew (Ext.refl No w8)
    have hE8d := hE8.transN hd8
    have hs8 := hE8.size
    have goodq : ∀ y r', r = y :: r' → (bpart.drop ob)[c.length]? = some y := fun y r' e => by rw [hb0, e]; simp
    have goodp : ∀ x q', q = x :: q' → (apart.drop oa)[c.length]? = some x := fun x q' e => by rw [ha0, e]; simp
    refine xj (fun vs w' => ∃ t : Bool, vs = [.bool t] ∧ w8 = w' ∧ (t = true ↔ q ≠ [] ∧ r ≠ [])) ?_ ?_
    · refine hp8.len ?_
      refine xifD (fun h => ?_) fun h => ⟨false, rfl, rfl, ?_⟩
      · refine hq8.len ?_
        refine ⟨_, rfl, rfl, ?_⟩
        rw [decide_eq_true_iff]
        constructor
        · intro h2; exact ⟨fun e => by subst e; simp at hla'; omega, fun e => by subst e; simp at hlb'; omega⟩
        · rintro ⟨-, h2⟩
          have : 0 < r.length := List.length_pos_iff.2 h2
          omega
      · constructor
        · intro h2; cases h2
        · rintro ⟨h2, -⟩
          have : 0 < q.length := List.length_pos_iff.2 h2
          omega
    rintro vs g w9 ⟨t, rfl, rfl, ht⟩
    cases t with
    | true =>
      obtain ⟨hq0, hr0⟩ := ht.1 rfl
      obtain ⟨x, q', rfl⟩ := List.exists_cons_of_ne_nil hq0
      obtain ⟨y, r', rfl⟩ := List.exists_cons_of_ne_nil hr0
      refine xifT rfl ?_
      exact ⟨.nil, n, rfl, (IR.none ha.fine hm8 (gI_apart hoffa (hdf x y q' r' rfl rfl) ha0 hb0)).from' hE8⟩
    | false =>
      refine xifF rfl ?_
      refine hq8.len ?_
      cases r with
      | cons y r' =>
        have hq0 : q = [] := by
          cases q with
          | nil => rfl
          | cons x q' => exact absurd (ht.2 ⟨by simp, by simp⟩) (by simp)
        subst hq0
        rw [List.append_nil] at ha0
        have hy := goodq y r' rfl
        obtain ⟨hyl, hye⟩ := List.getElem?_eq_some_iff.1 hy
        simp at hlb'
        refine xifD (fun _ => ?_) fun h => absurd (by omega) h
        refine hj8.drew.ldA rfl ?_
        refine hA8.drew.ld (v := (T.node aa aow apart aval aks akids).v) rfl ?_
        refine (hq8.extN hd8).rdK c.length hyl rfl fun p0 hk0 => ?_
        rw [hye] at hk0 ⊢
        refine hB8.drew.ldA rfl ?_
        refine (c_rstPast (a := .node ba bow bpart bval bks bkids) (off := ob) (m := c.length) (by omega)).mono ?_
        rintro _ w10 ⟨rfl, he10⟩
        have he9 := hd8.transN he10
        have hE10 := hE8.transN he9
        refine ⟨hk0 _ (hq8.extN he9), ?_, xkeepA (hj8.ext he9 fun h => h), ?_⟩
        · show w10.cell? ((⟨ea, 0, none⟩ : Addr).add 0) = _
          rw [Addr.add_lit, (hA8.ext he9 fun h => h).cell]; rfl
        have hb10 : Go1 w10 (.node ba bow bpart bval bks bkids) (ob + c.length + 1) := ⟨(hb.extN hE10).tree, hb.fine, hb.leafy, hb.long, by show ob + c.length + 1 ≤ bpart.length; omega⟩
        have hky : (akids y).er.long + 1 ≤ (T.node aa aow apart aval aks akids).er.long + 1 - oa := by
          by_cases e : y ∈ dom (ptrs akids)
          · have := long_kid (a := aa) (ow := aow) (part := apart) (val := aval) (ks := aks) e
            omega
          · have : akids y = .nil := T.nil_of fun hq => e (dom_mem.2 hq)
            rw [this]
            show 0 + 1 ≤ _
            omega
        refine (c_sOne (y := y) hI ho (ha.extN hE10) hb10 hla (by omega) (hm.extN hE10)).mono ?_
        rintro _ w11 ⟨t', n', e, rfl, htr, hm11, he11, hall, hlf, hcan, her⟩
        have hg := gI_one (p := p) (oa := oa) (av := aval) (bv' := bval) (ap := apart) (bp := bpart) (ak := fun c => (akids c).er) (bk := fun c => (bkids c).er) (ob' := ob + c.length + 1) hoffa (by rw [hb0, ha0]) (by rw [Nat.add_assoc, hdropb, ← List.drop_drop, List.drop_left]; rfl) hcan fun c => ha.fine.2 c
        have hz10 := hE10.size
        refine ⟨t', n', rfl, htr, hm11, (hE10.mono fun _ _ h => h.elim).transS he11, fun c hc => (hall c hc).imp id fun h => by omega, hlf, by rw [her]; exact hg, fun hk => ?_⟩
        exfalso
        exact norm_one_ne (E.unique ha.fine hg.fine fun k => ((hg.get k).trans (hk k)).symm)
      | nil =>
        rw [List.append_nil] at hb0
        simp at hlb'
        refine xifD (fun h => absurd h (by omega)) fun _ => ?_
        refine hp8.len ?_
        cases q with
        | cons x q' =>
          have hx := goodp x q' rfl
          obtain ⟨hxl, hxe⟩ := List.getElem?_eq_some_iff.1 hx
          simp at hla'
          refine xifD (fun _ => ?_) fun h => absurd (by omega) h
          refine hj8.drew.ldA rfl ?_
          refine hA8.drew.ldA rfl ?_
          refine hB8.drew.ldA rfl ?_
          refine (hp8.extN hd8).rdK c.length hxl rfl fun p0 hk0 => ?_
          rw [hxe] at hk0 ⊢
          refine (c_rstPast (a := .node aa aow apart aval aks akids) (off := oa) (m := c.length) (by omega)).mono ?_
          rintro _ w10 ⟨rfl, he10⟩
          have he9 := hd8.transN he10
          have hE10 := hE8.transN he9
          refine ⟨hk0 _ (hp8.extN he9), xkeepA (hB8.ext he9 fun h => h), xkeepA (hj8.ext he9 fun h => h), ?_⟩
          refine (c_rstDown (c := x) (off := ob) (hb.extN hE10).tree).mono ?_
          rintro _ w11 ⟨rfl, he11⟩
          have he911 := he9.transN he11
          have hE11 := hE8.transN he911
          refine ⟨xkeepA (hj8.ext he911 fun h => h), ?_⟩
          have hkb : (bkids x).er.long + 1 ≤ (T.node ba bow bpart bval bks bkids).er.long + 1 - ob ∧ (bkids x).er.long ≤ (T.node ba bow bpart bval bks bkids).er.long := by
            by_cases e : x ∈ dom (ptrs bkids)
            · have := long_kid (a := ba) (ow := bow) (part := bpart) (val := bval) (ks := bks) e
              omega
            · have : bkids x = .nil := T.nil_of fun hq => e (dom_mem.2 hq)
              rw [this]
              refine ⟨?_, Nat.zero_le _⟩
              show 0 + 1 ≤ _
              omega
          have ha11 : Go1 w11 (.node aa aow apart aval aks akids) (oa + c.length + 1) := ⟨(ha.extN hE11).tree, ha.fine, ha.leafy, ha.long, by show oa + c.length + 1 ≤ apart.length; omega⟩
          have hb11 : Go1 w11 (bkids x) 0 := ⟨(hb.extN hE11).tree.2 x, hb.fine.2 x, hb.leafy.2 x, by have := hb.long; omega, Nat.zero_le _⟩
          refine Ret.mono (show Ret P n_inter_sieve_of [sivV p o mt, restV (.node aa aow apart aval aks akids) (oa + c.length + 1), restV (bkids x) 0] w11 _ from hI (by omega) hla ha11 hb11 (hm.extN hE11)) ?_
          rintro _ w12 ⟨t', n', rfl, hR⟩
          have hg := gI_deep (p := p) (ap := apart) (av := aval) (ak := fun c => (akids c).er) (bp := bpart) (bv' := bval) (bk := fun c => (bkids c).er) (oa' := oa + c.length + 1) (q := q') (x := x) hoffa (by omega) (by rw [hb0, ha0]) (by rw [Nat.add_assoc, hdropa, ← List.drop_drop, List.drop_left]; rfl)
          have hR' := hR.from' hE11
          exact ⟨t', n', rfl, hR'.tree, hR'.cnt, hR'.ext, hR'.all, hR'.leafy, hR'.can.congr fun k => (hg k).symm, fun hk => hR'.idle fun k => (hg k).symm.trans (hk k)⟩
        | nil =>
          rw [List.append_nil] at ha0
          simp at hla'
          refine xifD (fun h => absurd h (by omega)) fun _ => ?_
          refine hj8.ldA rfl ?_
          refine hA8.ld (v := (T.node aa aow apart aval aks akids).v) rfl ?_
          refine hB8.ld (v := (T.node ba bow bpart bval bks bkids).v) rfl ?_
          refine (c_sLevel hI ho hp ha8 hb8 hla (by rw [hb0, ha0]) hM hm8).mono ?_
          rintro _ w10 ⟨t', n', rfl, hR⟩
          exact ⟨t', n', rfl, hR.from' hE8⟩
/-- nothing with something -/
theorem c_iOfNil {a b : T} (ha : Go1 w a oa) (hb : Go1 w b ob) (h : a = .nil ∨ b = .nil) (hm : Mt w mt n) : Ret P n_inter_sieve_of [sivV p o mt, restV a oa, restV b ob] w fun r w' => ∃ t' n', r = t'.v ∧ IR w w' p a b oa ob t' mt n n' := by
  refine W_inter_sieve_of ?_
  refine xnew fun jb w1 hjb hj hz1 he1 => ?_
  refine xnew fun ea w2 hea hA hz2 he2 => ?_
  have hA : Blk w2 ea [a.v, .int .i64 oa] T_inter_rest := hA
  refine xnew fun eb w3 heb hB hz3 he3 => ?_
  have hB : Blk w3 eb [b.v, .int .i64 ob] T_inter_rest := hB
  have hA3 := hA.ext he3 fun h => h
  have hE3 := (he1.transN he2).transN he3
  refine xj (fun vs w' => vs = [.bool true] ∧ w' = w3) ?_ ?_
  · refine hA3.ld (v := a.v) rfl ?_
    cases a with
    | nil =>
      refine xpeq_self T.nil ?_
      exact xifT rfl ⟨rfl, rfl⟩
    | node aa aow apart aval aks akids =>
      refine xpeq_node (t := .node aa aow apart aval aks akids) (by simp) ?_
      refine xifF rfl ?_
      obtain rfl := h.resolve_left (by simp)
      refine hB.ld (v := T.nil.v) rfl ?_
      refine xpeq_self T.nil ?_
      exact ⟨rfl, rfl⟩
  rintro vs g w4 ⟨rfl, rfl⟩
  refine xifT rfl ?_
  refine ⟨.nil, n, rfl, (IR.none ha.fine (hm.extN hE3) fun k => ?_).from' hE3⟩
  unfold gI
  rcases h with rfl | rfl
  · rfl
  · exact interO_none
theorem c_iOf (hp : 1 ≤ p ∧ p ≤ 5) (ho : o ≠ 0) : ∀ M, OfI p o mt M := by
  intro M
  induction M with
  | zero => intro w a b oa ob n hlt; omega
  | succ M ih =>
    intro w a b oa ob n hlt hla ha hb hm
    cases a with
    | nil => exact c_iOfNil ha hb (.inl rfl) hm
    | node aa aow apart aval aks akids =>
      cases b with
      | nil => exact c_iOfNil ha hb (.inr rfl) hm
      | node ba bow bpart bval bks bkids => exact c_iOfNodes ih ho hp hla ha hb (by omega) hm
end
end Go.Proofs.YtbgfmgkimccbeaaGreatDoor
