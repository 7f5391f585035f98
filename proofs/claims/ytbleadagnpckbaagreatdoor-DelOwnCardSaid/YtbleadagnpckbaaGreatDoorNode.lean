/-  nodes: what their functions answer and write.  -/
import Derived.Test.YtbleadagnpckbaaGreatDoorKids
namespace Go.Proofs.YtbleadagnpckbaaGreatDoor
open Go Go.RowKit X
set_option linter.unusedSimpArgs false
set_option linter.unusedVariables false
set_option linter.unusedSectionVars false
variable [Floor]

/-- a node in memory: its owner, part, value, and kids (ks: the blocks of its kids; none: a leaf) -/
structure NA (w : World) (a ow : Nat) (part : List UInt8) (val : Option Nat) (ks : List Nat) (m : UInt8 → Option Addr) : Prop where
  blk : ∃ pv, Blk w a [.int .u64 ow, pv, .int .u64 (val.getD 0 : Nat), .bool val.isSome, kptr ks] T_node_Node ∧ Bs w pv part
  kd : Ks w ks m
  short : part.length ≤ 65535
  v64 : ∀ v, val = some v → v < 18446744073709551616
  new : Floor.n ≤ a ∧ ∀ b ∈ ks, Floor.n ≤ b
theorem NA.ext {X : Nat → Prop} {w w' : World} {a ow : Nat} {part : List UInt8} {val : Option Nat} {ks : List Nat} {m : UInt8 → Option Addr} (h : NA w a ow part val ks m) (e : Ext X w w') (hb : NB w X) (ha : ¬ X a) (hk : ∀ b ∈ ks, ¬ X b) : NA w' a ow part val ks m := by
  obtain ⟨pv, h1, h2⟩ := h.blk
  exact ⟨⟨pv, h1.ext e ha, h2.ext e hb⟩, h.kd.ext e hk, h.short, h.v64, h.new⟩
theorem NA.extN {w w' : World} {a ow : Nat} {part : List UInt8} {val : Option Nat} {ks : List Nat} {m : UInt8 → Option Addr} (h : NA w a ow part val ks m) (e : Ext No w w') : NA w' a ow part val ks m := h.ext e (NB.no w) (fun h => h) fun _ _ h => h
theorem KT.ne {T : TypeId} (h : KT T) : T ≠ T_uint8 ∧ T ≠ T_node_Node ∧ NoM T := by
  rcases h with rfl | rfl | rfl | rfl | rfl <;> decide
theorem NA.extM {w w' : World} {a ow : Nat} {part : List UInt8} {val : Option Nat} {ks : List Nat} {m : UInt8 → Option Addr} {mt : Option Mtr} {k : Nat} (h : NA w a ow part val ks m) (hm : Mt w mt k) (e : Ext (MX mt) w w') : NA w' a ow part val ks m := by
  obtain ⟨pv, h1, h2⟩ := h.blk
  refine h.ext e hm.nb (hm.ne h1 (by decide)) fun b hb => ?_
  obtain ⟨cs, T, h3, h4⟩ := h.kd.ty b hb
  exact hm.ne h3 h4.ne.2.2
theorem Bs.one1 {w : World} {v : Value} {bs : List UInt8} (h : Bs w v bs) : v.oneCell' = true := by
  obtain ⟨a, cap, rfl⟩ := h.slice
  rfl
theorem kptr_one (ks : List Nat) : (kptr ks).oneCell' = true := by cases ks <;> rfl

section
variable {w : World} {a ow : Nat} {part : List UInt8} {val : Option Nat} {ks : List Nat} {m : UInt8 → Option Addr}
theorem repL_u8 (n : Nat) : (repL (cellsV (.int .u8 0)) n).length = n := by rw [repL_length]; simp [cellsV]
theorem c_NPart (h : NA w a ow part val ks m) : Ret P n_node_Node_Part [rp a] w fun v w' => Bs w' v part ∧ Ext No w w' := by
  obtain ⟨pv, h1, h2⟩ := h.blk
  have hs := h.short
  refine W_node_Node_Part ?_
  refine xifF rfl ?_
  refine h1.ld (v := pv) rfl ?_
  refine h2.len ?_
  refine make_own ei_u8 rfl rfl (Nat.le_refl _) (by omega) (by omega) fun b w1 hb hz hblk he => ?_
  refine (h1.ext he fun h => h).ld (v := pv) rfl ?_
  refine copy_row ei_u8 hblk (h2.extN he) (by rw [Nat.min_self, repL_u8]; omega) h2.one fun w2 hb2 hz2 he2 => ?_
  rw [Nat.min_self, List.take_of_length_le (l := part.map bv) (by simp)] at hb2
  have e : (repL (cellsV (.int .u8 0)) part.length).drop (0 + part.length) = [] := List.drop_eq_nil_of_le (by rw [repL_u8]; omega)
  rw [e] at hb2
  have hb3 : Blk w2 b (part.map bv) T_uint8 := by simpa using hb2
  refine ⟨?_, he.trans1 he2 (by omega)⟩
  have := hb3.sl (o := 0) (n := part.length) (cap := part.length) (by simp) (Nat.le_refl _)
  rw [List.drop_zero, List.take_of_length_le (by simp)] at this
  exact Bs.of this
/-- what 'Val' answers -/
def valV (val : Option Nat) : Value := .tuple #[.int .u64 (val.getD 0 : Nat), .bool val.isSome]
theorem c_NVal (h : NA w a ow part val ks m) : Ret P n_node_Node_Val [rp a] w fun v w' => v = valV val ∧ w' = w := by
  obtain ⟨pv, h1, h2⟩ := h.blk
  refine W_node_Node_Val ?_
  refine xjd ?_
  refine xifF rfl ?_
  refine h1.ld (v := .bool val.isSome) rfl ?_
  intro g
  cases val with
  | none => exact ⟨rfl, rfl⟩
  | some x =>
    refine xifF rfl ?_
    exact h1.ld (v := .int .u64 x) rfl ⟨rfl, rfl⟩
theorem c_NIsLeaf (h : NA w a ow part val ks m) : Ret P n_node_Node_isLeaf [rp a] w fun v w' => v = .bool ks.isEmpty ∧ w' = w := by
  obtain ⟨pv, h1, h2⟩ := h.blk
  refine W_node_Node_isLeaf ?_
  refine h1.ld (v := kptr ks) rfl ?_
  cases ks <;> exact ⟨rfl, rfl⟩
/-- a node's kind -/
def kindV (ks : List Nat) (m : UInt8 → Option Addr) : Nat := if ks = [] then 1 else kindN (cnt m)
theorem c_NKind (h : NA w a ow part val ks m) : Ret P n_node_Node_Kind [rp a] w fun v w' => v = .int .i64 (kindV ks m) ∧ w' = w := by
  have h0 := h
  obtain ⟨pv, h1, h2⟩ := h.blk
  refine W_node_Node_Kind ?_
  refine xifF rfl ?_
  refine (c_NIsLeaf h0).mono ?_
  rintro v w' ⟨rfl, rfl⟩
  by_cases e : ks = []
  · subst e
    refine xifT rfl ⟨rfl, rfl⟩
  · have hemp : ks.isEmpty = false := by cases ks with | nil => exact absurd rfl e | cons => rfl
    rw [hemp]
    refine xifF rfl ?_
    refine h1.ld (v := kptr ks) rfl ?_
    refine (c_KsKind h0.kd e).mono ?_
    rintro v w1 ⟨rfl, rfl⟩
    exact ⟨by unfold kindV; rw [if_neg e], rfl⟩
theorem c_NLen (h : NA w a ow part val ks m) : Ret P n_node_Node_Len [rp a] w fun v w' => v = .int .i64 (cnt m) ∧ w' = w := by
  have h0 := h
  obtain ⟨pv, h1, h2⟩ := h.blk
  refine W_node_Node_Len ?_
  refine xifF rfl ?_
  refine h1.ld (v := kptr ks) rfl ?_
  refine (c_KsLen h0.kd).mono ?_
  rintro v w' ⟨rfl, rfl⟩
  exact ⟨rfl, rfl⟩
theorem c_NOcc (h : NA w a ow part val ks m) : Ret P n_node_Node_Occupants [rp a] w fun v w' => v = .int .i64 (cnt m + (if val.isSome then 1 else 0) : Nat) ∧ w' = w := by
  have h0 := h
  obtain ⟨pv, h1, h2⟩ := h.blk
  have hle := cnt_le m
  refine W_node_Node_Occupants ?_
  refine xjd ?_
  refine xifT rfl ?_
  refine h1.ld (v := .bool val.isSome) rfl ?_
  intro g
  cases val with
  | none =>
    refine xifF rfl ?_
    refine (c_NLen h0).mono ?_
    rintro v w' ⟨rfl, rfl⟩
    exact ⟨rfl, rfl⟩
  | some x =>
    refine xifT rfl ?_
    refine h1.ld (v := kptr ks) rfl ?_
    refine (c_KsLen h0.kd).mono ?_
    rintro v w' ⟨rfl, rfl⟩
    exact xi (r := ((cnt m + 1 : Nat) : Int)) (by rw [wrapI (by omega)]; omega) ⟨rfl, rfl⟩
theorem c_NKid (h : NA w a ow part val ks m) {b : UInt8} : Ret P n_node_Node_Kid [rp a, bv b] w fun v w' => v = .pointer (m b) ∧ Ext No w w' := by
  have h0 := h
  obtain ⟨pv, h1, h2⟩ := h.blk
  refine W_node_Node_Kid ?_
  refine xifF rfl ?_
  refine h1.ld (v := kptr ks) rfl ?_
  refine (c_KsGet h0.kd).mono ?_
  rintro v w' ⟨rfl, he⟩
  exact ⟨rfl, he⟩
/-- what 'Next' of a node answers -/
def next2 (m : UInt8 → Option Addr) (i : Nat) : Value :=
  match nextB m i with
  | some c => .tuple #[bv c, .pointer (m c)]
  | none => .tuple #[.int .u8 0, .pointer none]
theorem c_NNext (h : NA w a ow part val ks m) {i : Nat} (hi : i ≤ 256) : Ret P n_node_Node_Next [rp a, .int .i64 i] w fun v w' => v = next2 m i ∧ Ext No w w' := by
  have h0 := h
  obtain ⟨pv, h1, h2⟩ := h.blk
  refine W_node_Node_Next ?_
  refine xifF rfl ?_
  refine h1.ld (v := kptr ks) rfl ?_
  refine (c_KsNext h0.kd hi).mono ?_
  rintro v w' ⟨rfl, he⟩
  unfold nextV next2
  cases nextB m i <;> exact ⟨rfl, he⟩
theorem c_NMay (h : NA w a ow part val ks m) {o : Nat} : Ret P n_node_Node_may [rp a, .int .u64 o] w fun v w' => v = .int .i64 (if o ≠ 0 ∧ o = ow then 0 else 11) ∧ w' = w := by
  obtain ⟨pv, h1, h2⟩ := h.blk
  refine W_node_Node_may ?_
  refine xifF rfl ?_
  refine xjd ?_
  refine xifE (fun he => ?_) fun he => ?_
  · intro g
    refine xifT rfl ⟨?_, rfl⟩
    rw [if_neg (by omega)]
  · refine h1.ld (v := .int .u64 ow) rfl ?_
    intro g
    refine xifN (fun hn => ⟨?_, rfl⟩) fun hn => ⟨?_, rfl⟩
    · rw [if_neg (by omega)]
    · rw [if_pos (by omega)]
theorem c_NInnerMay (h : NA w a ow part val ks m) {o : Nat} (ho : o ≠ 0) (he : o = ow) (hne : ks ≠ []) : Ret P n_node_Node_inner [rp a, .int .u64 o] w fun v w' => v = .int .i64 0 ∧ w' = w := by
  refine W_node_Node_inner ?_
  refine (c_NMay h).mono ?_
  rintro v w' ⟨rfl, rfl⟩
  rw [if_pos ⟨ho, he⟩]
  refine xjd ?_
  refine xifT rfl ?_
  refine (c_NIsLeaf h).mono ?_
  rintro v w' ⟨rfl, rfl⟩
  have hemp : ks.isEmpty = false := by cases ks with | nil => exact absurd rfl hne | cons => rfl
  rw [hemp]
  intro g
  exact xifF rfl ⟨rfl, rfl⟩

/-- a node's own block is written -/
theorem NA.st (h : NA w a ow part val ks m) {ow' : Nat} {part' : List UInt8} {val' : Option Nat} {ks' : List Nat} {m' : UInt8 → Option Addr} {pv pv' : Value} {w1 : World} (hb : Blk w a [.int .u64 ow, pv, .int .u64 (val.getD 0 : Nat), .bool val.isSome, kptr ks] T_node_Node)
    (h1 : Blk w1 a [.int .u64 ow', pv', .int .u64 (val'.getD 0 : Nat), .bool val'.isSome, kptr ks'] T_node_Node) (he : Ext (· = a) w w1) (hp : Bs w pv' part') (hk : Ks w ks' m') (hs : part'.length ≤ 65535) (hv : ∀ v, val' = some v → v < 18446744073709551616) (hn : ∀ b ∈ ks', Floor.n ≤ b) : NA w1 a ow' part' val' ks' m' := by
  refine ⟨⟨pv', h1, hp.ext he fun b e _ => ?_⟩, hk.ext he fun b hb' e => ?_, hs, hv, h.new.1, hn⟩
  · have e : b = a := e
    subst e
    exact ⟨h.new.1, _, _, hb, by decide⟩
  · have e : b = a := e
    subst e
    obtain ⟨cs, T, h3, h4⟩ := hk.ty b hb'
    exact h4.ne.2.1 (h3.inj hb).2
theorem c_NSetPart (h : NA w a ow part val ks m) {o : Nat} (ho : o ≠ 0) (he : o = ow) {v : Value} {bs : List UInt8} (hv : Bs w v bs) (hs : bs.length ≤ 65535) : Ret P n_node_Node_SetPart [rp a, .int .u64 o, v] w fun v w' => NA w' a ow bs val ks m ∧ Ext (· = a) w w' := by
  refine W_node_Node_SetPart ?_
  refine (c_NMay h).mono ?_
  rintro r w' ⟨rfl, rfl⟩
  rw [if_pos ⟨ho, he⟩]
  refine xjd ?_
  refine xifT rfl ?_
  refine (c_Clone hv (by omega)).mono ?_
  rintro pv' w1 ⟨hb1, he1⟩
  have h' := h.extN he1
  obtain ⟨pv, h1, h2⟩ := h'.blk
  refine h1.st (o := 1) (by simp) hb1.one1 fun w2 hb2 hz2 he2 => ?_
  intro g
  exact ⟨h'.st h1 hb2 he2 hb1 h'.kd hs h'.v64 h'.new.2, (he1.mono fun _ _ h => h.elim).transS he2⟩
theorem c_NSetVal (h : NA w a ow part val ks m) {o : Nat} (ho : o ≠ 0) (he : o = ow) {x : Nat} (hx : x < 18446744073709551616) : Ret P n_node_Node_SetVal [rp a, .int .u64 o, .int .u64 x] w fun v w' => NA w' a ow part (some x) ks m ∧ Ext (· = a) w w' := by
  refine W_node_Node_SetVal ?_
  refine (c_NMay h).mono ?_
  rintro r w' ⟨rfl, rfl⟩
  rw [if_pos ⟨ho, he⟩]
  refine xjd ?_
  refine xifT rfl ?_
  obtain ⟨pv, h1, h2⟩ := h.blk
  refine h1.st (o := 2) (by simp) rfl fun w2 hb2 hz2 he2 => ?_
  refine hb2.st (o := 3) (by simp) rfl fun w3 hb3 hz3 he3 => ?_
  intro g
  exact ⟨h.st (val' := some x) h1 hb3 (he2.transS he3) h2 h.kd h.short (fun v hv => by cases hv; exact hx) h.new.2, he2.transS he3⟩
theorem c_NDropVal (h : NA w a ow part val ks m) {o : Nat} (ho : o ≠ 0) (he : o = ow) (hne : ks ≠ []) (hv : val.isSome) : Ret P n_node_Node_DropVal [rp a, .int .u64 o] w fun v w' => NA w' a ow part none ks m ∧ Ext (· = a) w w' := by
  refine W_node_Node_DropVal ?_
  refine (c_NInnerMay h ho he hne).mono ?_
  rintro r w' ⟨rfl, rfl⟩
  refine xifF rfl ?_
  obtain ⟨pv, h1, h2⟩ := h.blk
  refine h1.ld (v := .bool val.isSome) rfl ?_
  refine xifF (by rw [hv]; rfl) ?_
  refine h1.st (o := 2) (by simp) rfl fun w2 hb2 hz2 he2 => ?_
  refine hb2.st (o := 3) (by simp) rfl fun w3 hb3 hz3 he3 => ?_
  exact ⟨h.st (val' := none) h1 hb3 (he2.transS he3) h2 h.kd h.short (fun v hv => by cases hv) h.new.2, he2.transS he3⟩
/-- the blocks of a node -/
def NX (a : Nat) (ks : List Nat) : Nat → Prop := fun b => b = a ∨ b ∈ ks
theorem NA.nb (h : NA w a ow part val ks m) : NB w (NX a ks) := fun b hb _ => by
  obtain ⟨pv, h1, h2⟩ := h.blk
  rcases hb with rfl | hb
  · exact ⟨h.new.1, _, _, h1, by decide⟩
  · obtain ⟨cs, T, h3, h4⟩ := h.kd.ty b hb
    exact ⟨h.new.2 b hb, cs, T, h3, h4.ne.1⟩
theorem NA.lt (h : NA w a ow part val ks m) {b : Nat} (hb : NX a ks b) : b < w.heap.size := by
  obtain ⟨pv, h1, h2⟩ := h.blk
  rcases hb with rfl | hb
  · exact h1.lt
  · exact h.kd.lt hb
theorem NA.notin (h : NA w a ow part val ks m) : a ∉ ks := fun hb => by
  obtain ⟨pv, h1, h2⟩ := h.blk
  obtain ⟨cs, T, h3, h4⟩ := h.kd.ty a hb
  exact h4.ne.2.1 (h3.inj h1).2
theorem c_NSetKid (h : NA w a ow part val ks m) {o : Nat} (ho : o ≠ 0) (he : o = ow) (hne : ks ≠ []) {b : UInt8} {x : Nat} : Ret P n_node_Node_SetKid [rp a, .int .u64 o, bv b, rp x] w fun v w' =>
    ∃ ks', NA w' a ow part val ks' (upd m b (some ⟨x, 0, none⟩)) ∧ ks' ≠ [] ∧ Ext (· ∈ ks) w w' ∧ Sub ks ks' w.heap.size := by
  refine W_node_Node_SetKid ?_
  refine (c_NInnerMay h ho he hne).mono ?_
  rintro r w' ⟨rfl, rfl⟩
  refine xifF rfl ?_
  refine xifF rfl ?_
  obtain ⟨pv, h1, h2⟩ := h.blk
  refine h1.ld (v := kptr ks) rfl ?_
  refine (c_KsSet h.kd hne).mono ?_
  rintro v w1 ⟨rfl, ks', hk', hne', hp', he', hs'⟩
  have hn := h.notin
  refine ⟨ks', ⟨⟨pv, by rw [hp']; exact h1.ext he' hn, h2.ext he' fun b hb _ => ?_⟩, hk', h.short, h.v64, h.new.1, fun b hb => ?_⟩, hne', he', hs'⟩
  · obtain ⟨cs, T, h3, h4⟩ := h.kd.ty b hb
    exact ⟨h.new.2 b hb, cs, T, h3, h4.ne.1⟩
  · have := h.lt (.inl rfl)
    have := h.new.1
    exact (hs' b hb).elim (h.new.2 b) fun h' => by omega
theorem c_NDropKid (h : NA w a ow part val ks m) {o : Nat} (ho : o ≠ 0) (he : o = ow) (hne : ks ≠ []) {b : UInt8} (hb : (m b).isSome) : Ret P n_node_Node_DropKid [rp a, .int .u64 o, bv b] w fun v w' =>
    ∃ ks', NA w' a ow part val ks' (upd m b none) ∧ ks' ≠ [] ∧ Ext (· ∈ ks) w w' ∧ Sub ks ks' w.heap.size := by
  refine W_node_Node_DropKid ?_
  refine (c_NInnerMay h ho he hne).mono ?_
  rintro r w' ⟨rfl, rfl⟩
  refine xifF rfl ?_
  obtain ⟨pv, h1, h2⟩ := h.blk
  refine h1.ld (v := kptr ks) rfl ?_
  refine (c_KsDrop h.kd hne hb).mono ?_
  rintro v w1 ⟨rfl, ks', hk', hne', hp', he', hs'⟩
  have hn := h.notin
  refine ⟨ks', ⟨⟨pv, by rw [hp']; exact h1.ext he' hn, h2.ext he' fun b hb _ => ?_⟩, hk', h.short, h.v64, h.new.1, fun b hb => ?_⟩, hne', he', hs'⟩
  · obtain ⟨cs, T, h3, h4⟩ := h.kd.ty b hb
    exact ⟨h.new.2 b hb, cs, T, h3, h4.ne.1⟩
  · have := h.lt (.inl rfl)
    have := h.new.1
    exact (hs' b hb).elim (h.new.2 b) fun h' => by omega
/-- a new leaf -/
theorem c_Leaf {mt : Option Mtr} {k : Nat} (hm : Mt w mt k) {v : Value} {bs : List UInt8} (hv : Bs w v bs) (hs : bs.length ≤ 65535) {x : Nat} (hx : x < 18446744073709551616) : Ret P n_node_Leaf [mv mt, .int .u64 ow, v, .int .u64 x] w fun v w' =>
    ∃ a, v = rp a ∧ NA w' a ow bs (some x) [] (fun _ => none) ∧ w.heap.size ≤ a ∧ Mt w' mt (k + 1) ∧ Ext (MX mt) w w' := by
  refine W_node_Leaf ?_
  refine (c_Made hm).mono ?_
  rintro r w1 ⟨hm1, he1⟩
  refine (c_Clone (hv.mt he1 hm) (by omega)).mono ?_
  rintro pv w2 ⟨hb2, he2⟩
  obtain ⟨pa, pc, rfl⟩ := hb2.slice
  refine xnew fun b w3 hb hblk hz he3 => ?_
  have s1 := he1.size
  have s2 := he2.size
  refine ⟨b, rfl, ⟨⟨_, hblk, hb2.extN he3⟩, Ks.nil _, hs, fun v hv => by cases hv; exact hx, by have := hm.fl; omega, by simp⟩, by omega, (hm1.extN he2).extN he3, (he1.transN he2).transN he3⟩
/-- a new inner node -/
theorem c_Inner {mt : Option Mtr} {k : Nat} (hm : Mt w mt k) {v : Value} {bs : List UInt8} (hv : Bs w v bs) (hs : bs.length ≤ 65535) : Ret P n_node_Inner [mv mt, .int .u64 ow, v] w fun v w' =>
    ∃ a ks, v = rp a ∧ NA w' a ow bs none ks (fun _ => none) ∧ ks ≠ [] ∧ (∀ b, NX a ks b → w.heap.size ≤ b) ∧ Mt w' mt (k + 1) ∧ Ext (MX mt) w w' := by
  refine W_node_Inner ?_
  refine (c_Made hm).mono ?_
  rintro r w1 ⟨hm1, he1⟩
  refine (c_Clone (hv.mt he1 hm) (by omega)).mono ?_
  rintro pv w2 ⟨hb2, he2⟩
  refine c_KsNew.mono ?_
  rintro kv w3 ⟨ks, rfl, hne, hk, he3, hs3⟩
  obtain ⟨pa, pc, rfl⟩ := hb2.slice
  obtain ⟨kb, hkb⟩ := kptr_ne hne
  rw [hkb]
  refine xnew fun b w4 hb hblk hz he4 => ?_
  have s1 := he1.size
  have s2 := he2.size
  have s3 := he3.size
  refine ⟨b, ks, rfl, ⟨⟨_, by rw [hkb]; exact hblk, (hb2.extN he3).extN he4⟩, hk.extN he4, hs, fun v hv => (by cases hv), (by have := hm.fl; omega), fun c hc => (hs3 c hc).elim (fun h => by cases h) fun h => (by have := hm.fl; omega)⟩, hne, fun c hc => ?_, ((hm1.extN he2).extN he3).extN he4, ((he1.transN he2).transN he3).transN he4⟩
  rcases hc with rfl | hc
  · omega
  · rcases hs3 c hc with h | h
    · cases h
    · omega
set_option maxRecDepth 100000 in
/-- a copy -/
theorem c_Copy (h : NA w a ow part val ks m) {mt : Option Mtr} {k o : Nat} (hm : Mt w mt k) : Ret P n_node_Node_Copy [rp a, mv mt, .int .u64 o] w fun v w' =>
    ∃ a' ks', v = rp a' ∧ NA w' a' o part val ks' m ∧ (ks' = [] ↔ ks = []) ∧ (∀ b, NX a' ks' b → w.heap.size ≤ b) ∧ Mt w' mt (k + 1) ∧ Ext (MX mt) w w' := by
  refine W_node_Node_Copy ?_
  refine xifF rfl ?_
  refine (c_Made hm).mono ?_
  rintro r w1 ⟨hm1, he1⟩
  have h1 := h.extM hm he1
  obtain ⟨pv, hb1, hp1⟩ := h1.blk
  refine hb1.ldA rfl ?_
  refine xnew fun b w2 hb hblk hz he2 => ?_
  refine xstoreVar hblk (by kernel_rfl) (by simp) ?_ fun w3 hb3 hz3 he3 => ?_
  · intro v hv
    simp only [List.mem_cons, List.mem_nil_iff, or_false] at hv
    rcases hv with rfl | rfl | rfl | rfl | rfl
    · rfl
    · exact hp1.one1
    · rfl
    · rfl
    · exact kptr_one ks
  · have hb3' : Blk w3 b [.int .u64 ow, pv, .int .u64 (val.getD 0 : Nat), .bool val.isSome, kptr ks] T_node_Node := by simpa using hb3
    refine hb3'.st (o := 0) (by simp) rfl fun w4 hb4 hz4 he4 => ?_
    have hE4 : Ext No w1 w4 := (he2.trans1 he3 (by omega)).trans1 he4 (by omega)
    have h4 := h1.extN hE4
    obtain ⟨pv', hb1', hp1'⟩ := h4.blk
    have hpv : pv' = pv := by
      have := (hb1.ext hE4 fun h => h).inj hb1'
      simp at this
      exact this.symm
    subst hpv
    refine hb1'.ld (v := kptr ks) rfl ?_
    refine (c_KsCopy h4.kd).mono ?_
    rintro kv w5 ⟨ks', rfl, hiff, hk5, he5, hs5⟩
    have hb5 := hb4.ext he5 fun h => h
    refine hb5.st (o := 4) (by simp) (kptr_one ks') fun w6 hb6 hz6 he6 => ?_
    have s1 := he1.size
    have s4 := hE4.size
    have s5 := he5.size
    have hsb : w1.heap.size ≤ b := by omega
    have hnk : ∀ c ∈ ks', ¬ (c = b) := fun c hc e => by
      subst e
      obtain ⟨cs, T, h3, h4⟩ := hk5.ty c hc
      exact h4.ne.2.1 (h3.inj hb5).2
    refine ⟨b, ks', rfl, ⟨⟨pv', hb6, (hp1'.extN he5).ext he6 fun c e _ => ?_⟩, hk5.ext he6 hnk, h.short, h.v64, (by have := hm.fl; omega), fun c hc => (hs5 c hc).elim (fun h => by cases h) fun h => (by have := hm.fl; omega)⟩, hiff, fun c hc => ?_, ?_, ?_⟩
    · have e : c = b := e
      subst e
      exact ⟨by have := hm.fl; omega, _, _, hb5, by decide⟩
    · rcases hc with rfl | hc
      · omega
      · rcases hs5 c hc with h | h
        · cases h
        · omega
    · refine ((hm1.extN hE4).extN he5).ext he6 fun c hc e => ?_
      have e : c = b := e
      subst e
      exact ((hm1.extN hE4).extN he5).ne hb5 (by decide) hc
    · exact ((he1.transN hE4).transN he5).trans1 he6 (by omega)
end
end Go.Proofs.YtbleadagnpckbaaGreatDoor
