/-  strings.SplitSeq, ranged over.  -/
import Derived.Test.YtbfnagdpanfphaaGreatDoorSrf
import Derived.Test.YtbfnagdpanfphaaGreatDoorSh
import Derived.Shelf.Abstract
section
namespace Go.Proofs.YtbfnagdpanfphaaGreatDoor
open Go Go.RowKit X
set_option linter.unusedSimpArgs false
set_option linter.unusedVariables false
set_option linter.unusedSectionVars false
abbrev yv (l : Nat) : Value := .func (.yield l) #[] #[]
abbrev pt (b : Nat) : Value := .pointer (some ⟨b, 0, none⟩)
theorem putObj_ext {W : World} {l : Nat} {o : Obj} : Ext (· = l) W (W.putObj l o) :=
  ⟨rfl, rfl, rfl, by simp [World.putObj], fun b _ hx => World.putObj_heap_other (fun e => hx (by first | exact e | exact e.symm))⟩
theorem X.Ext.up {X Y : Nat → Prop} {w w' : World} (h : Ext X w w') (hx : ∀ b, X b → Y b) : Ext Y w w' := h.mono fun b _ hb => hx b hb
/-- the frame of the iterator -/
structure SqF (l : List Value) (lp pb sb zb : Nat) : Prop where
  len : l.length = 52
  y : l.getD 0 undef = yv lp
  p : l.getD 1 undef = pt pb
  s : l.getD 2 undef = pt sb
  z : l.getD 3 undef = pt zb
/-- what one call of yield is -/
theorem yield_op {ρ : Operand → Value} {o : Oper} {lp : Nat} {x : Value} {t1 t2 : Tmp} {ts : Array TypeId} {W : World} {rec : Loop} (ho : o.op = .call { callee := .value (.tmp t1), args := #[.tmp t2], argTypes := ts })
    (h1 : ρ (.tmp t1) = yv lp) (h2 : ρ (.tmp t2) = x) (hl : W.heap[lp]? = some (.loop rec)) (hs : rec.params.size = 1) :
    (execOp ρ o).run P W = .ok (.round lp rec.fn ((rec.params.zip #[x]).foldl (fun tmps (t, a) => tmps.setIfInBounds t a) rec.tmps) rec.assign rec.body) W := by
  have hy := run_yield (P := P) (args := #[x]) hl (by simpa using hs.symm)
  have e : execOp ρ o = (do let d ← resolve ρ { callee := .value (.tmp t1), args := #[.tmp t2], argTypes := ts } o.type; invoke d.target d.args) := by
    unfold execOp
    rw [ho]
  rw [e]
  simp only [Sem.run_bind, resolve, h1, List.map_toArray, List.map_cons, List.map_nil, h2]
  simp [go_sem, Deferred.ofValue, invoke, callFunc, hy]
variable [Floor]
section
variable {c : UInt8} {ps : List (List UInt8)} {pb sb zb lp D : Nat} {rec : Loop} {I : Nat → World → Prop}
/-- the world while the iterator runs: the pieces from i on are still to come -/
structure SqW (c : UInt8) (ps : List (List UInt8)) (pb sb zb lp D : Nat) (rec : Loop) (I : Nat → World → Prop) (j i : Nat) (W : World) : Prop where
  inv : I j W
  p : Blk W pb [str [c]] T_string
  s : Blk W sb [str (joinC c (ps.drop i))] T_string
  z : Blk W zb [.int .i64 0] T_int
  l : W.heap[lp]? = some (.loop rec)
  d : W.heap[D]? = some (.deferred (some []))
/-- one round -/
theorem sq_round (hrs : rec.state = .ready) (hrn : rec.pending = none) (hne : lp ≠ D)
    (hst : ∀ i W W', I i W → (∃ x, Blk W sb [x] T_string) → (∃ r, W.heap[lp]? = some (.loop r)) → (∃ r, W.heap[D]? = some (.deferred r)) → Ext (fun b => b = sb ∨ b = lp ∨ b = D) W W' → I i W')
    (hround : ∀ (m i : Nat) (W : World) (hi : i < ps.length), I i W → W.heap[lp]? = some (.loop rec) → rec.assign.wpIn (Fence.wide.inRound lp) m P (Exit.then (fun a₁ w₁ => w₁ = W ∧ ∀ W2, I i W2 → lp < W2.heap.size → D < W2.heap.size → sb < W2.heap.size → pb < W2.heap.size → zb < W2.heap.size → rec.body.wpIn (Fence.wide.inRound lp) m P (fun e a' W3 => e = .normal ∧ I (i + 1) W3 ∧ Ext (fun b => b ≠ sb ∧ b ≠ pb ∧ b ≠ zb ∧ b ≠ lp ∧ b ≠ D) W2 W3) a₁ W2) (fun _ _ _ => False))
      { tmps := (rec.params.zip #[str ps[i]]).foldl (fun t (p, v) => t.setIfInBounds p v) rec.tmps, defers := [] } W)
    {i k m : Nat} {W : World} (hi : i < ps.length) (h : SqW c ps pb sb zb lp D rec I i k W) :
    RoundIn Fence.wide m P lp rec.fn ((rec.params.zip #[str ps[i]]).foldl (fun t (p, v) => t.setIfInBounds p v) rec.tmps) rec.assign rec.body W fun e W' => e = .returned (.bool true) ∧ SqW c ps pb sb zb lp D rec I (i + 1) k W' := by
  refine roundIn_of_wpIn trivial ?_
  refine wpIn_mono (hround m i W hi h.inv h.l) ?_
  intro e a₁ w₁ hq
  cases e with
  | normal =>
    obtain ⟨rfl, hb⟩ := hq
    refine ⟨_, run_beginRound h.l hrs, ?_⟩
    have hlt : lp < w₁.heap.size := lt_of_get h.l
    have hl2 : (w₁.putObj lp (.loop { rec with state := .busy })).heap[lp]? = some (.loop { rec with state := .busy }) := World.putObj_heap_same hlt
    have hE := putObj_ext (W := w₁) (l := lp) (o := .loop { rec with state := .busy })
    have hsz := hE.size
    have nl : ∀ {b : Nat} {cs : List Value} {T : TypeId}, Blk w₁ b cs T → b ≠ lp := fun hbk e => by have h2 := hbk.h; rw [e, h.l] at h2; cases h2
    have nd : ∀ {b : Nat} {cs : List Value} {T : TypeId}, Blk w₁ b cs T → b ≠ D := fun hbk e => by have h2 := hbk.h; rw [e, h.d] at h2; cases h2
    refine wpIn_mono (hb _ (hst _ _ _ h.inv ⟨_, h.s⟩ ⟨_, h.l⟩ ⟨_, h.d⟩ (hE.up fun b e => .inr (.inl e))) (Nat.lt_of_lt_of_le hlt hsz) (Nat.lt_of_lt_of_le (lt_of_get h.d) hsz) (Nat.lt_of_lt_of_le h.s.lt hsz) (Nat.lt_of_lt_of_le h.p.lt hsz) (Nat.lt_of_lt_of_le h.z.lt hsz)) ?_
    rintro e a3 W3 ⟨rfl, hI3, hE3⟩
    have keep : ∀ {b : Nat}, b < (w₁.putObj lp (.loop { rec with state := .busy })).heap.size → (b = sb ∨ b = pb ∨ b = zb ∨ b = lp ∨ b = D) → W3.heap[b]? = (w₁.putObj lp (.loop { rec with state := .busy })).heap[b]? := fun hlt hb => hE3.same _ hlt fun hx => by
      rcases hb with hb | hb | hb | hb | hb
      · exact hx.1 hb
      · exact hx.2.1 hb
      · exact hx.2.2.1 hb
      · exact hx.2.2.2.1 hb
      · exact hx.2.2.2.2 hb
    have hl3 : W3.heap[lp]? = some (.loop { rec with state := .busy }) := (keep (lt_of_get hl2) (.inr (.inr (.inr (.inl rfl))))).trans hl2
    have hr := run_endRound (P := P) none hl3
    have hrec : ({ ({ rec with state := .busy } : Loop) with state := if (none : Option Code).isNone = true then LoopState.ready else LoopState.done, pending := none } : Loop) = rec := by
      cases rec
      simp only at hrs hrn
      subst hrs; subst hrn
      rfl
    rw [hrec] at hr
    have hE4 := putObj_ext (W := W3) (l := lp) (o := .loop rec)
    have hs3 : Blk W3 sb [str (joinC c (ps.drop k))] T_string := by
      have b2 := h.s.ext hE (nl h.s)
      exact ⟨(keep b2.lt (.inl rfl)).trans b2.h⟩
    have hd2 : (w₁.putObj lp (.loop { rec with state := .busy })).heap[D]? = some (.deferred (some [])) := by rw [hE.same D (lt_of_get h.d) fun e => hne e.symm]; exact h.d
    have hd3 : W3.heap[D]? = some (.deferred (some [])) := (keep (lt_of_get hd2) (.inr (.inr (.inr (.inr rfl))))).trans hd2
    refine ⟨_, _, hr, rfl, hst _ _ _ hI3 ⟨_, hs3⟩ ⟨_, hl3⟩ ⟨_, hd3⟩ (hE4.up fun b e => .inr (.inl e)), ?_, ?_, ?_, World.putObj_heap_same (lt_of_get hl3), ?_⟩
    · have b2 := h.p.ext hE (nl h.p)
      have b3 : Blk W3 pb [str [c]] T_string := ⟨(keep b2.lt (.inr (.inl rfl))).trans b2.h⟩
      exact b3.ext hE4 (nl h.p)
    · have b2 := h.s.ext hE (nl h.s)
      have b3 : Blk W3 sb [str (joinC c (ps.drop k))] T_string := ⟨(keep b2.lt (.inl rfl)).trans b2.h⟩
      exact b3.ext hE4 (nl h.s)
    · have b2 := h.z.ext hE (nl h.z)
      have b3 : Blk W3 zb [.int .i64 0] T_int := ⟨(keep b2.lt (.inr (.inr (.inl rfl)))).trans b2.h⟩
      exact b3.ext hE4 (nl h.z)
    · rw [hE4.same D ?_ fun e => hne e.symm, keep ?_ (.inr (.inr (.inr (.inr rfl)))), hE.same D (lt_of_get h.d) fun e => hne e.symm]
      · exact h.d
      · exact Nat.lt_of_lt_of_le (lt_of_get h.d) hsz
      · exact Nat.lt_of_lt_of_le (Nat.lt_of_lt_of_le (lt_of_get h.d) hsz) hE3.size
  | _ => exact hq.elim

theorem no_defer_call {o : Oper} {cl : Call} (h : o.op = .call cl) : ∀ c, o.op ≠ .defer c := fun c e => by rw [h] at e; cases e
/-- the regions in which yield is called -/
theorem sq_reg {C : Code} {id t1 t2 d : Nat} {ts : Array TypeId} (hC : C = .region id (opsOf C).toArray false) (hop : ((opsOf C)[2]?).map (fun o => (o.op, o.dst, o.guard)) = some (.call { callee := .value (.tmp t1), args := #[.tmp t2], argTypes := ts }, some d, none))
    (hrs : rec.state = .ready) (hrn : rec.pending = none) (hrp : rec.params.size = 1) (hne : lp ≠ D)
    (hst : ∀ i W W', I i W → (∃ x, Blk W sb [x] T_string) → (∃ r, W.heap[lp]? = some (.loop r)) → (∃ r, W.heap[D]? = some (.deferred r)) → Ext (fun b => b = sb ∨ b = lp ∨ b = D) W W' → I i W')
    (hround : ∀ (m i : Nat) (W : World) (hi : i < ps.length), I i W → W.heap[lp]? = some (.loop rec) → rec.assign.wpIn (Fence.wide.inRound lp) m P (Exit.then (fun a₁ w₁ => w₁ = W ∧ ∀ W2, I i W2 → lp < W2.heap.size → D < W2.heap.size → sb < W2.heap.size → pb < W2.heap.size → zb < W2.heap.size → rec.body.wpIn (Fence.wide.inRound lp) m P (fun e a' W3 => e = .normal ∧ I (i + 1) W3 ∧ Ext (fun b => b ≠ sb ∧ b ≠ pb ∧ b ≠ zb ∧ b ≠ lp ∧ b ≠ D) W2 W3) a₁ W2) (fun _ _ _ => False))
      { tmps := (rec.params.zip #[str ps[i]]).foldl (fun t (p, v) => t.setIfInBounds p v) rec.tmps, defers := [] } W)
    {i k m : Nat} {W : World} {l : List Value} {Q : Exit → Act → World → Prop} (hi : i < ps.length) (h : SqW c ps pb sb zb lp D rec I i k W)
    {K1 : List Value → World → Prop} (hv1 : vcOps P (opsOf C) K1 ((opsOf C).take 2) l W) (hk1 : ∀ l' W', K1 l' W' → W' = W ∧ l'.getD t1 undef = yv lp ∧ l'.getD t2 undef = str ps[i])
    {K2 : List Value → World → Prop} (hv2 : ∀ l' W', K1 l' W → SqW c ps pb sb zb lp D rec I (i + 1) k W' → vcOps P (opsOf C) K2 ((opsOf C).drop 3) (l'.set d (.bool true)) W')
    (hq : ∀ l' W', K2 l' W' → Q .normal (actD [] l') W') : C.wpIn Fence.wide (m + 1) P Q (actD [] l) W := by
  obtain ⟨y, hy, he⟩ := Option.map_eq_some_iff.1 hop
  simp only [Prod.mk.injEq] at he
  obtain ⟨hyo, hyd, hyg⟩ := he
  have hlen : 2 < (opsOf C).length := (List.getElem?_eq_some_iff.1 hy).1
  have hsp : opsOf C = (opsOf C).take 2 ++ (y :: (opsOf C).drop 3) := by
    have h1 := List.take_append_drop 2 (opsOf C)
    rw [List.drop_eq_getElem_cons hlen, (List.getElem?_eq_some_iff.1 hy).2] at h1
    exact h1.symm
  rw [hC]
  refine wpIn_region_list ?_
  have e1 : ((opsOf C).toArray).toList = (opsOf C).take 2 ++ (y :: (opsOf C).drop 3) := by
    show opsOf C = _
    exact hsp
  rw [e1]
  refine vcOps_soundIn (freeW P) (all := opsOf C) _ l W (fun l' W' _ hk => ?_) hv1
  obtain ⟨rfl, h1, h2⟩ := hk1 l' W' hk
  unfold wpListIn
  rw [if_pos (by simp only [Region.wanted, hyg])]
  refine ⟨fun _ _ => trivial, ?_⟩
  rw [Oper.semAt_eq _ _ _ (no_defer_call hyo), yield_op (lp := lp) (x := str ps[i]) (rec := rec) hyo (by rw [actD_eval]; exact h1) (by rw [actD_eval]; exact h2) h.l hrp, Oper.uponIn_round]
  refine ⟨fun hd => absurd hd (by decide), ?_⟩
  refine (sq_round hrs hrn hne hst hround hi h).mono ?_
  rintro e W'' ⟨rfl, hS⟩
  show wpListIn Fence.wide (m + 1) P (opsOf C).toArray Q ((opsOf C).drop 3) ((actD [] l').put y.dst (.bool true)) W''
  rw [actD_put, hyd]
  have := vcOps_soundIn (m := m + 1) (ds := []) (Q := Q) (freeW P) (all := opsOf C) (r2 := []) ((opsOf C).drop 3) (l'.set d (.bool true)) W'' (fun l2 W2 _ hk2 => hq l2 W2 hk2) (hv2 l' W'' hk hS)
  rw [List.append_nil] at this
  exact this
theorem setD {l : List Value} {i j : Nat} {v : Value} (h : i ≠ j) : (l.set i v).getD j undef = l.getD j undef := by
  rw [List.getD_eq_getElem?_getD, List.getD_eq_getElem?_getD, List.getElem?_set_ne h]
theorem setS {l : List Value} {i : Nat} {v : Value} (h : i < l.length) : (l.set i v).getD i undef = v := by
  rw [List.getD_eq_getElem?_getD, List.getElem?_set_self h]; rfl
set_option maxRecDepth 100000 in
set_option maxHeartbeats 1000000 in
theorem c_splitSeq1 {w : World} (hrs : rec.state = .ready) (hrn : rec.pending = none) (hrp : rec.params.size = 1) (hne : lp ≠ D)
    (hst : ∀ i W W', I i W → (∃ x, Blk W sb [x] T_string) → (∃ r, W.heap[lp]? = some (.loop r)) → (∃ r, W.heap[D]? = some (.deferred r)) → Ext (fun b => b = sb ∨ b = lp ∨ b = D) W W' → I i W')
    (hround : ∀ (m i : Nat) (W : World) (hi : i < ps.length), I i W → W.heap[lp]? = some (.loop rec) → rec.assign.wpIn (Fence.wide.inRound lp) m P (Exit.then (fun a₁ w₁ => w₁ = W ∧ ∀ W2, I i W2 → lp < W2.heap.size → D < W2.heap.size → sb < W2.heap.size → pb < W2.heap.size → zb < W2.heap.size → rec.body.wpIn (Fence.wide.inRound lp) m P (fun e a' W3 => e = .normal ∧ I (i + 1) W3 ∧ Ext (fun b => b ≠ sb ∧ b ≠ pb ∧ b ≠ zb ∧ b ≠ lp ∧ b ≠ D) W2 W3) a₁ W2) (fun _ _ _ => False))
      { tmps := (rec.params.zip #[str ps[i]]).foldl (fun t (p, v) => t.setIfInBounds p v) rec.tmps, defers := [] } W)
    (h0 : ps ≠ []) (hnc : ∀ p ∈ ps, c ∉ p) (hl : (joinC c ps).length ≤ 1099511627776) (hps : pb ≠ sb) (h : SqW c ps pb sb zb lp D rec I 0 0 w) :
    Calls P n_strings_splitSeq_1 #[yv lp, pt pb, pt sb, pt zb] w fun e w' => (∃ v, e = .returned v) ∧ I ps.length w' ∧ w'.heap[lp]? = some (.loop rec) ∧ w'.heap[D]? = some (.deferred (some [])) ∧ ∃ x, Blk w' sb [x] T_string := by
  have hn : 0 < ps.length := List.length_pos_iff.2 h0
  have hdl : ∀ i, i < ps.length → (joinC c (ps.drop i)).length ≤ (joinC c ps).length := fun i hi => by
    rw [joinC_length h0, joinC_length (by simp; omega)]
    have e : sumL (ps.drop i) ≤ sumL ps := by
      unfold sumL
      conv => rhs; rw [← List.take_append_drop i ps]
      rw [List.map_append, List.sum_append]
      omega
    simp; omega
  refine (callsIn_wide (n := 6)).1 ?_
  refine callsIn_of_wp fn_strings_splitSeq_1 (body_of fn_strings_splitSeq_1 bd_strings_splitSeq_1) trivial ?_
  rw [shape_strings_splitSeq_1]
  have hact : ({ tmps := #[yv lp, pt pb, pt sb, pt zb] ++ Array.replicate (ff_strings_splitSeq_1.ntmps - (#[yv lp, pt pb, pt sb, pt zb] : Array Value).size) undef, defers := [] } : Act) = actD [] ([yv lp, pt pb, pt sb, pt zb] ++ List.replicate 48 undef) := by
    rw [nt_strings_splitSeq_1]
    simp [actD]
  rw [hact]
  refine wpIn_seq (wpIn_seq ?_)
  refine vcI (freeW P) E_strings_splitSeq_1_0 (n := 52) (Q := fun e l' w' => e = .normal ∧ w' = w ∧ SqF l' lp pb sb zb ∧ l'.getD 11 undef = .bool false) rfl ?_ (VL_strings_splitSeq_1_0 rfl ?_)
  rotate_left
  · show xAt (pt pb) _
    refine h.p.ld (o := 0) rfl ?_
    refine xlens ?_
    exact ⟨rfl, rfl, ⟨rfl, rfl, rfl, rfl, rfl⟩, rfl⟩
  rintro e l1 w1 ⟨rfl, rfl, hf1, h11⟩
  refine wpIn_cond_false (by rw [actD_eval]; exact h11) (wpIn_skip ?_)
  refine wpIn_seq (wpIn_block ?_)
  refine wpIn_loop_ghost (fun k a W => ∃ (i : Nat) (l : List Value), a = actD [] l ∧ SqF l lp pb sb zb ∧ i < ps.length ∧ k = ps.length - i ∧ SqW c ps pb sb zb lp D rec I i i W) ps.length ⟨0, l1, rfl, hf1, hn, rfl, h⟩ ?_
  rintro k a W ⟨i, l, rfl, hf, hi, rfl, hW⟩
  refine wpIn_block (wpIn_seq ?_)
  have hnci : c ∉ ps[i] := hnc _ (List.getElem_mem hi)
  have hdli := hdl i hi
  refine vcI (freeW P) E_strings_splitSeq_1_1 (n := 52) (Q := fun e l' w' => e = .normal ∧ w' = W ∧ SqF l' lp pb sb zb ∧ l'.getD 7 undef = .int .i64 (Lib.indexByte (joinC c (ps.drop i)) c)) hf.len ?_ (VL_strings_splitSeq_1_1 hf.len ?_)
  rotate_left
  · unfold SP_strings_splitSeq_1_1
    rw [hf.p, hf.s]
    refine hW.s.ld (o := 0) rfl ?_
    refine hW.p.ld (o := 0) rfl ?_
    refine c_sIndex.mono ?_
    rintro r w2 ⟨rfl, rfl⟩
    exact ⟨rfl, rfl, ⟨rfl, hf.y, rfl, rfl, hf.z⟩, rfl⟩
  rintro e l2 w2 ⟨rfl, rfl, hf2, h7⟩
  refine wpIn_seq ?_
  by_cases hlast : i + 1 < ps.length
  · have hd : ps.drop i = ps[i] :: ps.drop (i + 1) := List.drop_eq_getElem_cons hi
    have hj : joinC c (ps.drop i) = ps[i] ++ c :: joinC c (ps.drop (i + 1)) := by rw [hd, joinC_cons (by simp; omega)]
    rw [hj] at hdli
    simp only [List.length_append, List.length_cons] at hdli
    rw [hj, ixB_at hnci] at h7
    refine vcI (freeW P) E_strings_splitSeq_1_2 (n := 52) (Q := fun e l' w' => e = .normal ∧ w' = w2 ∧ SqF l' lp pb sb zb ∧ l'.getD 7 undef = .int .i64 (ps[i].length : Nat)) hf2.len ?_ (VL_strings_splitSeq_1_2 hf2.len ?_)
    rotate_left
    · unfold SP_strings_splitSeq_1_2
      rw [h7]
      refine xifF (decide_eq_false (by omega)) ?_
      exact ⟨rfl, rfl, ⟨rfl, hf2.y, hf2.p, hf2.s, hf2.z⟩, rfl⟩
    rintro e l3 w3 ⟨rfl, rfl, hf3, h7⟩
    refine wpIn_seq ?_
    refine vcI (freeW P) E_strings_splitSeq_1_3 (n := 52) (Q := fun e l' w' => e = .normal ∧ w' = w3 ∧ SqF l' lp pb sb zb ∧ l'.getD 7 undef = .int .i64 (ps[i].length : Nat) ∧ l'.getD 8 undef = str ps[i]) hf3.len ?_ (VL_strings_splitSeq_1_3 hf3.len ?_)
    rotate_left
    · unfold SP_strings_splitSeq_1_3
      rw [hf3.s, hf3.z, h7]
      refine hW.s.ld (o := 0) rfl ?_
      refine hW.z.ld (o := 0) rfl ?_
      refine xi (r := ((ps[i].length : Nat) : Int)) (by rw [wrapI (by omega)]; omega) ?_
      rw [hj]
      refine xcutstrH ps[i].length rfl (by simp) ?_
      rw [List.take_left]
      exact ⟨rfl, rfl, ⟨rfl, hf3.y, hf3.p, rfl, rfl⟩, rfl, rfl⟩
    rintro e l4 w4 ⟨rfl, rfl, hf4, h7, h8⟩
    refine wpIn_seq (wpIn_seq ?_)
    refine sq_reg (m := 5) rg_strings_splitSeq_1_y op_strings_splitSeq_1_y hrs hrn hrp hne hst hround hi hW
      (K1 := fun l' W' => W' = w4 ∧ SqF l' lp pb sb zb ∧ l'.getD 7 undef = .int .i64 (ps[i].length : Nat) ∧ l'.getD 39 undef = yv lp ∧ l'.getD 40 undef = str ps[i])
      (VL_strings_splitSeq_1_y1 hf4.len ⟨rfl, ⟨rfl, hf4.y, hf4.p, hf4.s, hf4.z⟩, h7, hf4.y, h8⟩) (fun l' W' hk => ⟨hk.1, hk.2.2.2.1, hk.2.2.2.2⟩)
      (K2 := fun l' W' => SqF l' lp pb sb zb ∧ l'.getD 7 undef = .int .i64 (ps[i].length : Nat) ∧ l'.getD 42 undef = .bool false ∧ SqW c ps pb sb zb lp D rec I (i + 1) i W') ?_ ?_
    · rintro l' W' ⟨-, hf5, h7, -⟩ hW'
      refine VL_strings_splitSeq_1_y2 (by rw [List.length_set]; exact hf5.len) ?_
      unfold SP_strings_splitSeq_1_y2
      rw [setS (by rw [hf5.len]; omega)]
      refine ⟨⟨rfl, ?_, ?_, ?_, ?_⟩, ?_, rfl, hW'⟩
      · show (l'.set 41 (.bool true)).getD 0 undef = _; rw [setD (by omega)]; exact hf5.y
      · show (l'.set 41 (.bool true)).getD 1 undef = _; rw [setD (by omega)]; exact hf5.p
      · show (l'.set 41 (.bool true)).getD 2 undef = _; rw [setD (by omega)]; exact hf5.s
      · show (l'.set 41 (.bool true)).getD 3 undef = _; rw [setD (by omega)]; exact hf5.z
      · show (l'.set 41 (.bool true)).getD 7 undef = _; rw [setD (by omega)]; exact h7
    rintro l5 w5 ⟨hf5, h7, h42, hW5⟩
    refine wpIn_cond_false (by rw [actD_eval]; exact h42) (wpIn_skip ?_)
    refine vcI (freeW P) E_strings_splitSeq_1_5 (n := 52) (Q := fun e l' w' => e = .normal ∧ SqF l' lp pb sb zb ∧ SqW c ps pb sb zb lp D rec I (i + 1) (i + 1) w') hf5.len ?_ (VL_strings_splitSeq_1_5 hf5.len ?_)
    · rintro e l6 w6 ⟨rfl, hf6, hW6⟩
      exact ⟨ps.length - (i + 1), by omega, i + 1, l6, rfl, hf6, hlast, rfl, hW6⟩
    · unfold SP_strings_splitSeq_1_5
      rw [hf5.p, hf5.s, h7]
      refine hW5.s.ld (o := 0) rfl ?_
      refine hW5.p.ld (o := 0) rfl ?_
      refine xlens ?_
      refine xi (r := ((ps[i].length + 1 : Nat) : Int)) (by rw [wrapI (by simp; omega)]; simp) ?_
      rw [hj]
      refine xcutstrL (ps[i].length + 1) rfl (by simp) ?_
      have hdr : (ps[i] ++ c :: joinC c (ps.drop (i + 1))).drop (ps[i].length + 1) = joinC c (ps.drop (i + 1)) := by simp
      rw [hdr]
      refine hW5.s.st1 (o := 0) (by simp) rfl rfl fun w6 hb6 hz6 he6 => ?_
      have nl : lp ≠ sb := fun e => by have h2 := hW5.s.h; rw [← e, hW5.l] at h2; cases h2
      have nd : D ≠ sb := fun e => by have h2 := hW5.s.h; rw [← e, hW5.d] at h2; cases h2
      refine ⟨rfl, ⟨rfl, hf5.y, rfl, rfl, hf5.z⟩, ⟨hst _ _ _ hW5.inv ⟨_, hW5.s⟩ ⟨_, hW5.l⟩ ⟨_, hW5.d⟩ (he6.up fun b e => .inl e), hW5.p.ext he6 hps, hb6, hW5.z.ext he6 (hW5.z.ne hW5.s (by decide)), ?_, ?_⟩⟩
      · rw [he6.same lp (lt_of_get hW5.l) nl]; exact hW5.l
      · rw [he6.same D (lt_of_get hW5.d) nd]; exact hW5.d
  · have hie : i + 1 = ps.length := by omega
    have hd : ps.drop i = [ps[i]] := by rw [List.drop_eq_getElem_cons hi, List.drop_eq_nil_of_le (by omega)]
    have hj : joinC c (ps.drop i) = ps[i] := by rw [hd]; rfl
    rw [hj, ixB_none hnci] at h7
    refine vcI (freeW P) E_strings_splitSeq_1_2 (n := 52) (Q := fun e l' w' => e = .exit 2 ∧ w' = w2 ∧ SqF l' lp pb sb zb) hf2.len ?_ (VL_strings_splitSeq_1_2 hf2.len ?_)
    rotate_left
    · unfold SP_strings_splitSeq_1_2
      rw [h7]
      refine xifT (by decide) ?_
      exact ⟨rfl, rfl, ⟨rfl, hf2.y, hf2.p, hf2.s, hf2.z⟩⟩
    rintro e l3 w3 ⟨rfl, rfl, hf3⟩
    show C_strings_splitSeq_1_z.wpIn Fence.wide 6 P _ (actD [] l3) w3
    refine sq_reg (m := 5) rg_strings_splitSeq_1_z op_strings_splitSeq_1_z hrs hrn hrp hne hst hround hi hW
      (K1 := fun l' W' => W' = w3 ∧ l'.getD 49 undef = yv lp ∧ l'.getD 50 undef = str ps[i])
      (VL_strings_splitSeq_1_z1 hf3.len ?_) (fun l' W' hk => hk)
      (K2 := fun l' W' => SqW c ps pb sb zb lp D rec I (i + 1) i W') ?_ ?_
    · unfold SP_strings_splitSeq_1_z1
      rw [hf3.s]
      refine hW.s.ld (o := 0) rfl ?_
      exact ⟨rfl, hf3.y, by rw [hj]; rfl⟩
    · rintro l' W' - hW'
      have e : (opsOf C_strings_splitSeq_1_z).drop 3 = [] := List.drop_eq_nil_of_le (by rw [ln_strings_splitSeq_1_z]; exact Nat.le_refl _)
      rw [e]
      exact hW'
    · rintro l4 w4 hW4
      rw [hie] at hW4
      exact ⟨rfl, .tuple #[], results_none (by kernel_rfl) _ _ _, ⟨_, rfl⟩, hW4.inv, hW4.l, hW4.d, _, hW4.s⟩

/-- a range over strings.SplitSeq, in a function -/
theorem rf_split {l : List Value} {p0 : Tmp} {g : Operand} {asg bd : Code} {Q : Exit → Act → World → Prop} {m : Nat} {w : World}
    (hg : ev l g = .func (.func n_strings_splitSeq_1) #[] #[pt pb, pt sb, pt zb]) (hpb : Blk w pb [str [c]] T_string) (hsb : Blk w sb [str (joinC c ps)] T_string) (hzb : Blk w zb [.int .i64 0] T_int) (hps : pb ≠ sb)
    (h0 : ps ≠ []) (hnc : ∀ p ∈ ps, c ∉ p) (hl : (joinC c ps).length ≤ 1099511627776)
    (I : Nat → World → Prop) (hI0 : I 0 w) (hstN : ∀ i W W', I i W → Ext No W W' → I i W')
    (hst : ∀ i W W', I i W → (∃ x, Blk W sb [x] T_string) → (∃ r, W.heap[w.heap.size + 1]? = some (.loop r)) → (∃ r, W.heap[w.heap.size]? = some (.deferred r)) → Ext (fun b => b = sb ∨ b = w.heap.size + 1 ∨ b = w.heap.size) W W' → I i W')
    (hround : ∀ (lp m i : Nat) (W : World) (hi : i < ps.length), I i W → asg.wpIn (Fence.wide.inRound lp) m P (Exit.then (fun a₁ w₁ => w₁ = W ∧ ∀ W2, I i W2 → w.heap.size + 1 < W2.heap.size → sb < W2.heap.size → pb < W2.heap.size → zb < W2.heap.size → bd.wpIn (Fence.wide.inRound lp) m P (fun e a' W3 => e = .normal ∧ I (i + 1) W3 ∧ Ext (fun b => b ≠ sb ∧ b ≠ pb ∧ b ≠ zb ∧ b ≠ w.heap.size + 1 ∧ b ≠ w.heap.size) W2 W3) a₁ W2) (fun _ _ _ => False))
      (actD [] (l.set p0 (str ps[i]))) W)
    (hdone : ∀ W, I ps.length W → W.heap[w.heap.size]? = some (.deferred (some [])) → Q .normal (actD [{ target := .collected w.heap.size, args := #[] }] l) W) :
    (Code.rangeFunc g #[p0] asg bd).wpIn Fence.wide (m + 1) P Q (actD [] l) w := by
  refine wpIn_rangeFunc ?_
  intro fn hfn
  obtain ⟨rec, hrec⟩ : ∃ rec : Loop, rec = { state := .ready, pending := none, fn, tmps := l.toArray, params := #[p0], assign := asg, body := bd, defers := w.heap.size } := ⟨_, rfl⟩
  obtain ⟨W1, hW1⟩ : ∃ W1, (w.alloc (.deferred (some []))).alloc (.loop rec) = W1 := ⟨_, rfl⟩
  have hE1 : Ext No w W1 := by
    rw [← hW1]
    refine ⟨rfl, rfl, rfl, by simp; omega, fun b hb _ => ?_⟩
    show ((w.heap.push _).push _)[b]? = _
    rw [Array.getElem?_push, if_neg (by simp; omega), Array.getElem?_push, if_neg (by omega)]
  have hL1 : W1.heap[w.heap.size + 1]? = some (.loop rec) := by
    rw [← hW1]
    show ((w.heap.push _).push _)[w.heap.size + 1]? = _
    rw [Array.getElem?_push, if_pos (by simp)]
  have hK1 : W1.heap[w.heap.size]? = some (.deferred (some [])) := by
    rw [← hW1]
    show ((w.heap.push _).push _)[w.heap.size]? = _
    rw [Array.getElem?_push, if_neg (by simp), Array.getElem?_push, if_pos rfl]
  have eg : ∀ args w, (callFunc n_strings_splitSeq_1 args).run P w = .ok (.enter n_strings_splitSeq_1 args) w := Go.Proofs.enters_of fn_strings_splitSeq_1 (by kernel_rfl) (body_of fn_strings_splitSeq_1 bd_strings_splitSeq_1)
  refine ⟨w.heap.size + 1, [{ target := .collected w.heap.size, args := #[] }], W1, { target := .fn (.func n_strings_splitSeq_1) #[pt pb, pt sb, pt zb], args := #[yv (w.heap.size + 1)] }, W1, n_strings_splitSeq_1, #[yv (w.heap.size + 1)] ++ #[pt pb, pt sb, pt zb], W1, ?_, ?_, fun _ _ => trivial, ?_, fun hd => absurd hd (by decide), ?_⟩
  · rw [← hW1, hrec]; exact run_enterLoop_outer _ _ _ _ _
  · simp only [resolve]
    rw [actD_eval, hg]
    simp [go_sem, Deferred.ofValue]
    rfl
  · simp [invoke, go_sem, eg]
  · refine callsIn_wide.2 ?_
    refine (c_splitSeq1 (rec := rec) (I := I) (lp := w.heap.size + 1) (D := w.heap.size) (by rw [hrec]) (by rw [hrec]) (by rw [hrec]; rfl) (by omega) hst ?_ h0 hnc hl hps ⟨hstN _ _ _ hI0 hE1, hpb.ext hE1 fun h => h, hsb.ext hE1 fun h => h, hzb.ext hE1 fun h => h, hL1, hK1⟩).mono ?_
    · intro m i W hi hI _
      have e : ({ tmps := (rec.params.zip #[str ps[i]]).foldl (fun t (p, v) => t.setIfInBounds p v) rec.tmps, defers := [] } : Act) = actD [] (l.set p0 (str ps[i])) := by
        rw [hrec]
        simp [actD]
      rw [e]
      have ha : rec.assign = asg := by rw [hrec]
      have hb : rec.body = bd := by rw [hrec]
      rw [ha, hb]
      refine wpIn_mono (hround _ m i W hi hI) ?_
      intro e a₁ w₁ hq
      cases e with
      | normal => exact ⟨hq.1, fun W2 h1 h2 h3 h4 h5 h6 => hq.2 W2 h1 h2 h4 h5 h6⟩
      | _ => exact hq
    · rintro e W ⟨⟨v, rfl⟩, hI, hlW, hdW, hsW⟩
      have hE2 := putObj_ext (W := W) (l := w.heap.size + 1) (o := .loop { rec with state := .exhausted, pending := none })
      have hN : rec.pending = none := by rw [hrec]
      have hd : rec.defers = w.heap.size := by rw [hrec]
      refine ⟨none, W.putObj (w.heap.size + 1) (.loop { rec with state := .exhausted, pending := none }), ?_, ?_⟩
      · have := run_endLoop (P := P) hlW (by rw [hrec]; simp)
        rw [hN] at this
        exact this
      · refine hdone _ (hst _ _ _ hI hsW ⟨_, hlW⟩ ⟨_, hdW⟩ (hE2.up fun b e => .inr (.inl e))) ?_
        rw [hE2.same _ (lt_of_get hdW) (by omega)]
        exact hdW
end
section
variable {w : World} {s : List UInt8} {c : UInt8}
theorem c_SplitSeq : Ret P n_strings_SplitSeq [str s, str [c]] w fun r w' => ∃ pb sb zb, r = .func (.func n_strings_splitSeq_1) #[] #[pt pb, pt sb, pt zb] ∧ Blk w' pb [str [c]] T_string ∧ Blk w' sb [str s] T_string ∧ Blk w' zb [.int .i64 0] T_int ∧ pb ≠ sb ∧ Ext No w w' ∧ w.heap.size ≤ sb ∧ w.heap.size ≤ pb ∧ w.heap.size ≤ zb := by
  refine W_strings_SplitSeq ?_
  refine Ret.mono (R := fun r w' => ∃ pb sb zb, r = .func (.func n_strings_splitSeq_1) #[] #[pt pb, pt sb, pt zb] ∧ Blk w' pb [str [c]] T_string ∧ Blk w' sb [str s] T_string ∧ Blk w' zb [.int .i64 0] T_int ∧ pb ≠ sb ∧ Ext No w w' ∧ w.heap.size ≤ sb ∧ w.heap.size ≤ pb ∧ w.heap.size ≤ zb) (W_strings_splitSeq ?_) fun r w' h => h
  refine xnew fun sb w1 hsb h1 hz1 he1 => ?_
  refine xnew fun pb w2 hpb h2 hz2 he2 => ?_
  refine xnew fun zb w3 hzb h3 hz3 he3 => ?_
  exact ⟨pb, sb, zb, rfl, h2.ext he3 fun h => h, (h1.ext he2 fun h => h).ext he3 fun h => h, h3, by omega, (he1.transN he2).transN he3, by omega, by omega, by omega⟩
end
end Go.Proofs.YtbfnagdpanfphaaGreatDoor
end
