/-  nodes: what their functions answer and write.  -/
import Derived.Test.YtidkkkdlaclolaaGreatRow
section
namespace Go.Proofs.YtidkkkdlaclolaaGreat
open Go Go.RowKit X
set_option linter.unusedSimpArgs false
set_option linter.unusedVariables false
set_option linter.unusedSectionVars false
variable [Floor]

/-- a node in memory: its owner, part, value, and kids (ks: the blocks of its kids; none: a leaf) -/
structure NA (w : World) (a ow : Nat) (part : List UInt8) (val : Option Nat) (ks : List Nat) (m : UInt8 → Option Addr) : Prop where
  blk : ∃ pv, Blk w a [.int .u64 ow, pv, .int .u64 (val.getD 0 : Nat), .bool val.isSome, kptr ks] T_node_Node ∧ Bs w pv part
  kd : Ks w ks m
  short : part.length ≤ 65535
  v64 : ∀ v, val = some v → v < 18446744073709551616
  new : Floor.n ≤ a ∧ ∀ b ∈ ks, Floor.n ≤ b
theorem NA.ext {X : Nat → Prop} {w w' : World} {a ow : Nat} {part : List UInt8} {val : Option Nat} {ks : List Nat} {m : UInt8 → Option Addr} (h : NA w a ow part val ks m) (e : Ext X w w') (hb : NB w X) (ha : ¬ X a) (hk : ∀ b ∈ ks, ¬ X b) : NA w' a ow part val ks m := by
  obtain ⟨pv, h1, h2⟩ := h.blk
  exact ⟨⟨pv, h1.ext e ha, h2.ext e hb⟩, h.kd.ext e hk, h.short, h.v64, h.new⟩
theorem NA.extN {w w' : World} {a ow : Nat} {part : List UInt8} {val : Option Nat} {ks : List Nat} {m : UInt8 → Option Addr} (h : NA w a ow part val ks m) (e : Ext No w w') : NA w' a ow part val ks m := h.ext e (NB.no w) (fun h => h) fun _ _ h => h
theorem KT.ne {T : TypeId} (h : KT T) : T ≠ T_uint8 ∧ T ≠ T_node_Node ∧ NoM T := by
  rcases h with rfl | rfl | rfl | rfl | rfl <;> decide
theorem NA.extM {w w' : World} {a ow : Nat} {part : List UInt8} {val : Option Nat} {ks : List Nat} {m : UInt8 → Option Addr} {mt : Option Mtr} {k : Nat} (h : NA w a ow part val ks m) (hm : Mt w mt k) (e : Ext (MX mt) w w') : NA w' a ow part val ks m := by
  obtain ⟨pv, h1, h2⟩ := h.blk
  refine h.ext e hm.nb (hm.ne h1 (by decide)) fun b hb => ?_
  obtain ⟨cs, T, h3, h4⟩ := h.kd.ty b hb
  exact hm.ne h3 h4.ne.2.2
theorem Bs.one1 {w : World} {v : Value} {bs : List UInt8} (h : Bs w v bs) : v.oneCell' = true := by
  obtain ⟨a, cap, rfl⟩ := h.slice
  rfl
theorem kptr_one (ks : List Nat) : (kptr ks).oneCell' = true := by cases ks <;> rfl

section
variable {w : World} {a ow : Nat} {part : List UInt8} {val : Option Nat} {ks : List Nat} {m : UInt8 → Option Addr}
theorem repL_u8 (n : Nat) : (repL (cellsV (.int .u8 0)) n).length = n := by rw [repL_length]; simp [cellsV]
theorem c_NPart (h : NA w a ow part val ks m) : Ret P n_node_Node_Part [rp a] w fun v w' => Bs w' v part ∧ Ext No w w' := by
  obtain ⟨pv, h1, h2⟩ := h.blk
  have hs := h.short
  refine W_node_Node_Part ?_
  refine xifF rfl ?_
  refine h1.ld (v := pv) rfl ?_
  refine h2.len ?_
  refine make_own ei_u8 rfl rfl (Nat.le_refl _) (by omega) (by omega) fun b w1 hb hz hblk he => ?_
  refine (h1.ext he fun h => h).ld (v := pv) rfl ?_
  refine copy_row ei_u8 hblk (h2.extN he) (by rw [Nat.min_self, repL_u8]; omega) h2.one fun w2 hb2 hz2 he2 => ?_
  rw [Nat.min_self, List.take_of_length_le (l := part.map bv) (by simp)] at hb2
  have e : (repL (cellsV (.int .u8 0)) part.length).drop (0 + part.length) = [] := List.drop_eq_nil_of_le (by rw [repL_u8]; omega)
  rw [e] at hb2
  have hb3 : Blk w2 b (part.map bv) T_uint8 := by simpa using hb2
  refine ⟨?_, he.trans1 he2 (by omega)⟩
  have := hb3.sl (o := 0) (n := part.length) (cap := part.length) (by simp) (Nat.le_refl _)
  rw [List.drop_zero, List.take_of_length_le (by simp)] at this
  exact Bs.of this
/-- what 'Val' answers -/
def valV (val : Option Nat) : Value := .tuple #[.int .u64 (val.getD 0 : Nat), .bool val.isSome]
theorem c_NVal (h : NA w a ow part val ks m) : Ret P n_node_Node_Val [rp a] w fun v w' => v = valV val ∧ w' = w := by
  obtain ⟨pv, h1, h2⟩ := h.blk
  refine W_node_Node_Val ?_
  refine xjd ?_
  refine xifF rfl ?_
  refine h1.ld (v := .bool val.isSome) rfl ?_
  intro g
  cases val with
  | none => exact ⟨rfl, rfl⟩
  | some x =>
    refine xifF rfl ?_
    exact h1.ld (v := .int .u64 x) rfl ⟨rfl, rfl⟩
theorem c_NIsLeaf (h : NA w a ow part val ks m) : Ret P n_node_Node_isLeaf [rp a] w fun v w' => v = .bool ks.isEmpty ∧ w' = w := by
  obtain ⟨pv, h1, h2⟩ := h.blk
  refine W_node_Node_isLeaf ?_
  refine h1.ld (v := kptr ks) rfl ?_
  cases ks <;> exact ⟨rfl, rfl⟩
/-- a node's kind -/
def kindV (ks : List Nat) (m : UInt8 → Option Addr) : Nat := if ks = [] then 1 else kindN (cnt m)
theorem c_NKind (h : NA w a ow part val ks m) : Ret P n_node_Node_Kind [rp a] w fun v w' => v = .int .i64 (kindV ks m) ∧ w' = w := by
  have h0 := h
  obtain ⟨pv, h1, h2⟩ := h.blk
  refine W_node_Node_Kind ?_
  refine xifF rfl ?_
  refine (c_NIsLeaf h0).mono ?_
  rintro v w' ⟨rfl, rfl⟩
  by_cases e : ks = []
  · subst e
    refine xifT rfl ⟨rfl, rfl⟩
  · have hemp : ks.isEmpty = false := by cases ks with | nil => exact absurd rfl e | cons => rfl
    rw [hemp]
    refine xifF rfl ?_
    refine h1.ld (v := kptr ks) rfl ?_
    refine (c_KsKind h0.kd e).mono ?_
    rintro v w1 ⟨rfl, rfl⟩
    exact ⟨by unfold kindV; rw [if_neg e], rfl⟩
theorem c_NLen (h : NA w a ow part val ks m) : Ret P n_node_Node_Len [rp a] w fun v w' => v = .int .i64 (cnt m) ∧ w' = w := by
  have h0 := h
  obtain ⟨pv, h1, h2⟩ := h.blk
  refine W_node_Node_Len ?_
  refine xifF rfl ?_
  refine h1.ld (v := kptr ks) rfl ?_
  refine (c_KsLen h0.kd).mono ?_
  rintro v w' ⟨rfl, rfl⟩
  exact ⟨rfl, rfl⟩
theorem c_NOcc (h : NA w a ow part val ks m) : Ret P n_node_Node_Occupants [rp a] w fun v w' => v = .int .i64 (cnt m + (if val.isSome then 1 else 0) : Nat) ∧ w' = w := by
  have h0 := h
  obtain ⟨pv, h1, h2⟩ := h.blk
  have hle := cnt_le m
  refine W_node_Node_Occupants ?_
  refine xjd ?_
  refine xifT rfl ?_
  refine h1.ld (v := .bool val.isSome) rfl ?_
  intro g
  cases val with
  | none =>
    refine xifF rfl ?_
    refine (c_NLen h0).mono ?_
    rintro v w' ⟨rfl, rfl⟩
    exact ⟨rfl, rfl⟩
  | some x =>
    refine xifT rfl ?_
    refine h1.ld (v := kptr ks) rfl ?_
    refine (c_KsLen h0.kd).mono ?_
    rintro v w' ⟨rfl, rfl⟩
    exact xi (r := ((cnt m + 1 : Nat) : Int)) (by rw [wrapI (by omega)]; omega) ⟨rfl, rfl⟩
theorem c_NKid (h : NA w a ow part val ks m) {b : UInt8} : Ret P n_node_Node_Kid [rp a, bv b] w fun v w' => v = .pointer (m b) ∧ Ext No w w' := by
  have h0 := h
  obtain ⟨pv, h1, h2⟩ := h.blk
  refine W_node_Node_Kid ?_
  refine xifF rfl ?_
  refine h1.ld (v := kptr ks) rfl ?_
  refine (c_KsGet h0.kd).mono ?_
  rintro v w' ⟨rfl, he⟩
  exact ⟨rfl, he⟩
/-- what 'Next' of a node answers -/
def next2 (m : UInt8 → Option Addr) (i : Nat) : Value :=
  match nextB m i with
  | some c => .tuple #[bv c, .pointer (m c)]
  | none => .tuple #[.int .u8 0, .pointer none]
theorem c_NNext (h : NA w a ow part val ks m) {i : Nat} (hi : i ≤ 256) : Ret P n_node_Node_Next [rp a, .int .i64 i] w fun v w' => v = next2 m i ∧ Ext No w w' := by
  have h0 := h
  obtain ⟨pv, h1, h2⟩ := h.blk
  refine W_node_Node_Next ?_
  refine xifF rfl ?_
  refine h1.ld (v := kptr ks) rfl ?_
  refine (c_KsNext h0.kd hi).mono ?_
  rintro v w' ⟨rfl, he⟩
  unfold nextV next2
  cases nextB m i <;> exact ⟨rfl, he⟩
theorem c_NMay (h : NA w a ow part val ks m) {o : Nat} : Ret P n_node_Node_may [rp a, .int .u64 o] w fun v w' => v = .int .i64 (if o ≠ 0 ∧ o = ow then 0 else 11) ∧ w' = w := by
  obtain ⟨pv, h1, h2⟩ := h.blk
  refine W_node_Node_may ?_
  refine xifF rfl ?_
  refine xjd ?_
  refine xifE (fun he => ?_) fun he => ?_
  · intro g
    refine xifT rfl ⟨?_, rfl⟩
    rw [if_neg (by omega)]
  · refine h1.ld (v := .int .u64 ow) rfl ?_
    intro g
    refine xifN (fun hn => ⟨?_, rfl⟩) fun hn => ⟨?_, rfl⟩
    · rw [if_neg (by omega)]
    · rw [if_pos (by omega)]
theorem c_NInnerMay (h : NA w a ow part val ks m) {o : Nat} (ho : o ≠ 0) (he : o = ow) (hne : ks ≠ []) : Ret P n_node_Node_inner [rp a, .int .u64 o] w fun v w' => v = .int .i64 0 ∧ w' = w := by
  refine W_node_Node_inner ?_
  refine (c_NMay h).mono ?_
  rintro v w' ⟨rfl, rfl⟩
  rw [if_pos ⟨ho, he⟩]
  refine xjd ?_
  refine xifT rfl ?_
  refine (c_NIsLeaf h).mono ?_
  rintro v w' ⟨rfl, rfl⟩
  have hemp : ks.isEmpty = false := by cases ks with | nil => exact absurd rfl hne | cons => rfl
  rw [hemp]
  intro g
  exact xifF rfl ⟨rfl, rfl⟩

/-- a node's own block is written -/
theorem NA.st (h : NA w a ow part val ks m) {ow' : Nat} {part' : List UInt8} {val' : Option Nat} {ks' : List Nat} {m' : UInt8 → Option Addr} {pv pv' : Value} {w1 : World} (hb : Blk w a [.int .u64 ow, pv, .int .u64 (val.getD 0 : Nat), .bool val.isSome, kptr ks] T_node_Node)
    (h1 : Blk w1 a [.int .u64 ow', pv', .int .u64 (val'.getD 0 : Nat), .bool val'.isSome, kptr ks'] T_node_Node) (he : Ext (· = a) w w1) (hp : Bs w pv' part') (hk : Ks w ks' m') (hs : part'.length ≤ 65535) (hv : ∀ v, val' = some v → v < 18446744073709551616) (hn : ∀ b ∈ ks', Floor.n ≤ b) : NA w1 a ow' part' val' ks' m' := by
  refine ⟨⟨pv', h1, hp.ext he fun b e _ => ?_⟩, hk.ext he fun b hb' e => ?_, hs, hv, h.new.1, hn⟩
  · have e : b = a := e
    subst e
    exact ⟨h.new.1, _, _, hb, by decide⟩
  · have e : b = a := e
    subst e
    obtain ⟨cs, T, h3, h4⟩ := hk.ty b hb'
    exact h4.ne.2.1 (h3.inj hb).2
theorem c_NSetPart (h : NA w a ow part val ks m) {o : Nat} (ho : o ≠ 0) (he : o = ow) {v : Value} {bs : List UInt8} (hv : Bs w v bs) (hs : bs.length ≤ 65535) : Ret P n_node_Node_SetPart [rp a, .int .u64 o, v] w fun v w' => NA w' a ow bs val ks m ∧ Ext (· = a) w w' := by
  refine W_node_Node_SetPart ?_
  refine (c_NMay h).mono ?_
  rintro r w' ⟨rfl, rfl⟩
  rw [if_pos ⟨ho, he⟩]
  refine xjd ?_
  refine xifT rfl ?_
  refine (c_Clone hv (by omega)).mono ?_
  rintro pv' w1 ⟨hb1, he1⟩
  have h' := h.extN he1
  obtain ⟨pv, h1, h2⟩ := h'.blk
  refine h1.st (o := 1) (by simp) hb1.one1 fun w2 hb2 hz2 he2 => ?_
  intro g
  exact ⟨h'.st h1 hb2 he2 hb1 h'.kd hs h'.v64 h'.new.2, (he1.mono fun _ _ h => h.elim).transS he2⟩
theorem c_NSetVal (h : NA w a ow part val ks m) {o : Nat} (ho : o ≠ 0) (he : o = ow) {x : Nat} (hx : x < 18446744073709551616) : Ret P n_node_Node_SetVal [rp a, .int .u64 o, .int .u64 x] w fun v w' => NA w' a ow part (some x) ks m ∧ Ext (· = a) w w' := by
  refine W_node_Node_SetVal ?_
  refine (c_NMay h).mono ?_
  rintro r w' ⟨rfl, rfl⟩
  rw [if_pos ⟨ho, he⟩]
  refine xjd ?_
  refine xifT rfl ?_
  obtain ⟨pv, h1, h2⟩ := h.blk
  refine h1.st (o := 2) (by simp) rfl fun w2 hb2 hz2 he2 => ?_
  refine hb2.st (o := 3) (by simp) rfl fun w3 hb3 hz3 he3 => ?_
  intro g
  exact ⟨h.st (val' := some x) h1 hb3 (he2.transS he3) h2 h.kd h.short (fun v hv => by cases hv; exact hx) h.new.2, he2.transS he3⟩
theorem c_NDropVal (h : NA w a ow part val ks m) {o : Nat} (ho : o ≠ 0) (he : o = ow) (hne : ks ≠ []) (hv : val.isSome) : Ret P n_node_Node_DropVal [rp a, .int .u64 o] w fun v w' => NA w' a ow part none ks m ∧ Ext (· = a) w w' := by
  refine W_node_Node_DropVal ?_
  refine (c_NInnerMay h ho he hne).mono ?_
  rintro r w' ⟨rfl, rfl⟩
  refine xifF rfl ?_
  obtain ⟨pv, h1, h2⟩ := h.blk
  refine h1.ld (v := .bool val.isSome) rfl ?_
  refine xifF (by rw [hv]; rfl) ?_
  refine h1.st (o := 2) (by simp) rfl fun w2 hb2 hz2 he2 => ?_
  refine hb2.st (o := 3) (by simp) rfl fun w3 hb3 hz3 he3 => ?_
  exact ⟨h.st (val' := none) h1 hb3 (he2.transS he3) h2 h.kd h.short (fun v hv => by cases hv) h.new.2, he2.transS he3⟩
/-- the blocks of a node -/
def NX (a : Nat) (ks : List Nat) : Nat → Prop := fun b => b = a ∨ b ∈ ks
theorem NA.nb (h : NA w a ow part val ks m) : NB w (NX a ks) := fun b hb _ => by
  obtain ⟨pv, h1, h2⟩ := h.blk
  rcases hb with rfl | hb
  · exact ⟨h.new.1, _, _, h1, by decide⟩
  · obtain ⟨cs, T, h3, h4⟩ := h.kd.ty b hb
    exact ⟨h.new.2 b hb, cs, T, h3, h4.ne.1⟩
theorem NA.lt (h : NA w a ow part val ks m) {b : Nat} (hb : NX a ks b) : b < w.heap.size := by
  obtain ⟨pv, h1, h2⟩ := h.blk
  rcases hb with rfl | hb
  · exact h1.lt
  · exact h.kd.lt hb
theorem NA.notin (h : NA w a ow part val ks m) : a ∉ ks := fun hb => by
  obtain ⟨pv, h1, h2⟩ := h.blk
  obtain ⟨cs, T, h3, h4⟩ := h.kd.ty a hb
  exact h4.ne.2.1 (h3.inj h1).2
theorem c_NSetKid (h : NA w a ow part val ks m) {o : Nat} (ho : o ≠ 0) (he : o = ow) (hne : ks ≠ []) {b : UInt8} {x : Nat} : Ret P n_node_Node_SetKid [rp a, .int .u64 o, bv b, rp x] w fun v w' =>
    ∃ ks', NA w' a ow part val ks' (upd m b (some ⟨x, 0, none⟩)) ∧ ks' ≠ [] ∧ Ext (· ∈ ks) w w' ∧ Sub ks ks' w.heap.size := by
  refine W_node_Node_SetKid ?_
  refine (c_NInnerMay h ho he hne).mono ?_
  rintro r w' ⟨rfl, rfl⟩
  refine xifF rfl ?_
  refine xifF rfl ?_
  obtain ⟨pv, h1, h2⟩ := h.blk
  refine h1.ld (v := kptr ks) rfl ?_
  refine (c_KsSet h.kd hne).mono ?_
  rintro v w1 ⟨rfl, ks', hk', hne', hp', he', hs'⟩
  have hn := h.notin
  refine ⟨ks', ⟨⟨pv, by rw [hp']; exact h1.ext he' hn, h2.ext he' fun b hb _ => ?_⟩, hk', h.short, h.v64, h.new.1, fun b hb => ?_⟩, hne', he', hs'⟩
  · obtain ⟨cs, T, h3, h4⟩ := h.kd.ty b hb
    exact ⟨h.new.2 b hb, cs, T, h3, h4.ne.1⟩
  · have := h.lt (.inl rfl)
    have := h.new.1
    exact (hs' b hb).elim (h.new.2 b) fun h' => by omega
theorem c_NDropKid (h : NA w a ow part val ks m) {o : Nat} (ho : o ≠ 0) (he : o = ow) (hne : ks ≠ []) {b : UInt8} (hb : (m b).isSome) : Ret P n_node_Node_DropKid [rp a, .int .u64 o, bv b] w fun v w' =>
    ∃ ks', NA w' a ow part val ks' (upd m b none) ∧ ks' ≠ [] ∧ Ext (· ∈ ks) w w' ∧ Sub ks ks' w.heap.size := by
  refine W_node_Node_DropKid ?_
  refine (c_NInnerMay h ho he hne).mono ?_
  rintro r w' ⟨rfl, rfl⟩
  refine xifF rfl ?_
  obtain ⟨pv, h1, h2⟩ := h.blk
  refine h1.ld (v := kptr ks) rfl ?_
  refine (c_KsDrop h.kd hne hb).mono ?_
  rintro v w1 ⟨rfl, ks', hk', hne', hp', he', hs'⟩
  have hn := h.notin
  refine ⟨ks', ⟨⟨pv, by rw [hp']; exact h1.ext he' hn, h2.ext he' fun b hb _ => ?_⟩, hk', h.short, h.v64, h.new.1, fun b hb => ?_⟩, hne', he', hs'⟩
  · obtain ⟨cs, T, h3, h4⟩ := h.kd.ty b hb
    exact ⟨h.new.2 b hb, cs, T, h3, h4.ne.1⟩
  · have := h.lt (.inl rfl)
    have := h.new.1
    exact (hs' b hb).elim (h.new.2 b) fun h' => by omega
/-- a new leaf -/
theorem c_Leaf {mt : Option Mtr} {k : Nat} (hm : Mt w mt k) {v : Value} {bs : List UInt8} (hv : Bs w v bs) (hs : bs.length ≤ 65535) {x : Nat} (hx : x < 18446744073709551616) : Ret P n_node_Leaf [mv mt, .int .u64 ow, v, .int .u64 x] w fun v w' =>
    ∃ a, v = rp a ∧ NA w' a ow bs (some x) [] (fun _ => none) ∧ w.heap.size ≤ a ∧ Mt w' mt (k + 1) ∧ Ext (MX mt) w w' := by
  refine W_node_Leaf ?_
  refine (c_Made hm).mono ?_
  rintro r w1 ⟨hm1, he1⟩
  refine (c_Clone (hv.mt he1 hm) (by omega)).mono ?_
  rintro pv w2 ⟨hb2, he2⟩
  obtain ⟨pa, pc, rfl⟩ := hb2.slice
  refine xnew fun b w3 hb hblk hz he3 => ?_
  have s1 := he1.size
  have s2 := he2.size
  refine ⟨b, rfl, ⟨⟨_, hblk, hb2.extN he3⟩, Ks.nil _, hs, fun v hv => by cases hv; exact hx, by have := hm.fl; omega, by simp⟩, by omega, (hm1.extN he2).extN he3, (he1.transN he2).transN he3⟩
/-- a new inner node -/
theorem c_Inner {mt : Option Mtr} {k : Nat} (hm : Mt w mt k) {v : Value} {bs : List UInt8} (hv : Bs w v bs) (hs : bs.length ≤ 65535) : Ret P n_node_Inner [mv mt, .int .u64 ow, v] w fun v w' =>
    ∃ a ks, v = rp a ∧ NA w' a ow bs none ks (fun _ => none) ∧ ks ≠ [] ∧ (∀ b, NX a ks b → w.heap.size ≤ b) ∧ Mt w' mt (k + 1) ∧ Ext (MX mt) w w' := by
  refine W_node_Inner ?_
  refine (c_Made hm).mono ?_
  rintro r w1 ⟨hm1, he1⟩
  refine (c_Clone (hv.mt he1 hm) (by omega)).mono ?_
  rintro pv w2 ⟨hb2, he2⟩
  refine c_KsNew.mono ?_
  rintro kv w3 ⟨ks, rfl, hne, hk, he3, hs3⟩
  obtain ⟨pa, pc, rfl⟩ := hb2.slice
  obtain ⟨kb, hkb⟩ := kptr_ne hne
  rw [hkb]
  refine xnew fun b w4 hb hblk hz he4 => ?_
  have s1 := he1.size
  have s2 := he2.size
  have s3 := he3.size
  refine ⟨b, ks, rfl, ⟨⟨_, by rw [hkb]; exact hblk, (hb2.extN he3).extN he4⟩, hk.extN he4, hs, fun v hv => (by cases hv), (by have := hm.fl; omega), fun c hc => (hs3 c hc).elim (fun h => by cases h) fun h => (by have := hm.fl; omega)⟩, hne, fun c hc => ?_, ((hm1.extN he2).extN he3).extN he4, ((he1.transN he2).transN he3).transN he4⟩
  rcases hc with rfl | hc
  · omega
  · rcases hs3 c hc with h | h
    · cases h
    · omega
set_option maxRecDepth 100000 in
/-- a copy -/
theorem c_Copy (h : NA w a ow part val ks m) {mt : Option Mtr} {k o : Nat} (hm : Mt w mt k) : Ret P n_node_Node_Copy [rp a, mv mt, .int .u64 o] w fun v w' =>
    ∃ a' ks', v = rp a' ∧ NA w' a' o part val ks' m ∧ (ks' = [] ↔ ks = []) ∧ (∀ b, NX a' ks' b → w.heap.size ≤ b) ∧ Mt w' mt (k + 1) ∧ Ext (MX mt) w w' := by
  refine W_node_Node_Copy ?_
  refine xifF rfl ?_
  refine (c_Made hm).mono ?_
  rintro r w1 ⟨hm1, he1⟩
  have h1 := h.extM hm he1
  obtain ⟨pv, hb1, hp1⟩ := h1.blk
  refine hb1.ldA rfl ?_
  refine xnew fun b w2 hb hblk hz he2 => ?_
  refine xstoreVar hblk (by kernel_rfl) (by simp) ?_ fun w3 hb3 hz3 he3 => ?_
  · intro v hv
    simp only [List.mem_cons, List.mem_nil_iff, or_false] at hv
    rcases hv with rfl | rfl | rfl | rfl | rfl
    · rfl
    · exact hp1.one1
    · rfl
    · rfl
    · exact kptr_one ks
  · have hb3' : Blk w3 b [.int .u64 ow, pv, .int .u64 (val.getD 0 : Nat), .bool val.isSome, kptr ks] T_node_Node := by simpa using hb3
    refine hb3'.st (o := 0) (by simp) rfl fun w4 hb4 hz4 he4 => ?_
    have hE4 : Ext No w1 w4 := (he2.trans1 he3 (by omega)).trans1 he4 (by omega)
    have h4 := h1.extN hE4
    obtain ⟨pv', hb1', hp1'⟩ := h4.blk
    have hpv : pv' = pv := by
      have := (hb1.ext hE4 fun h => h).inj hb1'
      simp at this
      exact this.symm
    subst hpv
    refine hb1'.ld (v := kptr ks) rfl ?_
    refine (c_KsCopy h4.kd).mono ?_
    rintro kv w5 ⟨ks', rfl, hiff, hk5, he5, hs5⟩
    have hb5 := hb4.ext he5 fun h => h
    refine hb5.st (o := 4) (by simp) (kptr_one ks') fun w6 hb6 hz6 he6 => ?_
    have s1 := he1.size
    have s4 := hE4.size
    have s5 := he5.size
    have hsb : w1.heap.size ≤ b := by omega
    have hnk : ∀ c ∈ ks', ¬ (c = b) := fun c hc e => by
      subst e
      obtain ⟨cs, T, h3, h4⟩ := hk5.ty c hc
      exact h4.ne.2.1 (h3.inj hb5).2
    refine ⟨b, ks', rfl, ⟨⟨pv', hb6, (hp1'.extN he5).ext he6 fun c e _ => ?_⟩, hk5.ext he6 hnk, h.short, h.v64, (by have := hm.fl; omega), fun c hc => (hs5 c hc).elim (fun h => by cases h) fun h => (by have := hm.fl; omega)⟩, hiff, fun c hc => ?_, ?_, ?_⟩
    · have e : c = b := e
      subst e
      exact ⟨by have := hm.fl; omega, _, _, hb5, by decide⟩
    · rcases hc with rfl | hc
      · omega
      · rcases hs5 c hc with h | h
        · cases h
        · omega
    · refine ((hm1.extN hE4).extN he5).ext he6 fun c hc e => ?_
      have e : c = b := e
      subst e
      exact ((hm1.extN hE4).extN he5).ne hb5 (by decide) hc
    · exact ((he1.transN hE4).transN he5).trans1 he6 (by omega)
end
end Go.Proofs.YtidkkkdlaclolaaGreat
end
section
namespace Go.Proofs.YtidkkkdlaclolaaGreat
open Go Go.RowKit X
set_option linter.unusedSimpArgs false
set_option linter.unusedVariables false
set_option linter.unusedSectionVars false
variable [Floor]

/-- the addresses of kids -/
abbrev ptrs (kids : UInt8 → T) : UInt8 → Option Addr := fun c => (kids c).ptr
abbrev T.v (t : T) : Value := .pointer t.ptr
/-- a tree in memory -/
def Tree (w : World) : T → Prop
  | .nil => True
  | .node a ow part val ks kids => NA w a ow part val ks (ptrs kids) ∧ ∀ c, Tree w (kids c)
/-- the blocks of a tree's nodes; of those of an owner -/
def T.All : T → Nat → Prop
  | .nil, _ => False
  | .node a _ _ _ ks kids, b => NX a ks b ∨ ∃ c, (kids c).All b
def T.Foot (o : Nat) : T → Nat → Prop
  | .nil, _ => False
  | .node a ow _ _ ks kids, b => (ow = o ∧ NX a ks b) ∨ ∃ c, (kids c).Foot o b
theorem T.Foot.all {o : Nat} : ∀ {t : T} {b : Nat}, t.Foot o b → t.All b := by
  intro t
  induction t with
  | nil => intro b h; exact h
  | node a ow part val ks kids ih =>
    intro b h
    rcases h with ⟨-, h⟩ | ⟨c, h⟩
    · exact .inl h
    · exact .inr ⟨c, ih c h⟩
theorem Tree.ty {w : World} : ∀ {t : T}, Tree w t → ∀ {b : Nat}, t.All b → ∃ cs T', Blk w b cs T' ∧ (T' = T_node_Node ∨ KT T') := by
  intro t
  induction t with
  | nil => intro _ b h; exact h.elim
  | node a ow part val ks kids ih =>
    rintro ⟨h1, h2⟩ b h
    rcases h with h | ⟨c, h⟩
    · obtain ⟨pv, hb, -⟩ := h1.blk
      rcases h with rfl | h
      · exact ⟨_, _, hb, .inl rfl⟩
      · obtain ⟨cs, T', h3, h4⟩ := h1.kd.ty b h
        exact ⟨cs, T', h3, .inr h4⟩
    · exact ih c (h2 c) h
theorem Tree.lt {w : World} {t : T} (h : Tree w t) {b : Nat} (hb : t.All b) : b < w.heap.size := by
  obtain ⟨cs, T', h1, -⟩ := h.ty hb
  exact h1.lt
theorem Tree.fl {w : World} : ∀ {t : T}, Tree w t → ∀ {b : Nat}, t.All b → Floor.n ≤ b := by
  intro t
  induction t with
  | nil => intro _ b h; exact h.elim
  | node a ow part val ks kids ih =>
    rintro ⟨h1, h2⟩ b h
    rcases h with (rfl | h) | ⟨c, h⟩
    · exact h1.new.1
    · exact h1.new.2 b h
    · exact ih c (h2 c) h
theorem NT.ne {T' : TypeId} (h : T' = T_node_Node ∨ KT T') : T' ≠ T_uint8 ∧ NoM T' := by
  rcases h with rfl | h
  · decide
  · exact ⟨h.ne.1, h.ne.2.2⟩
theorem Tree.ext {w w' : World} {X : Nat → Prop} (e : Ext X w w') (hb : NB w X) : ∀ {t : T}, Tree w t → (∀ b, t.All b → ¬ X b) → Tree w' t := by
  intro t
  induction t with
  | nil => intro _ _; trivial
  | node a ow part val ks kids ih =>
    rintro ⟨h1, h2⟩ hx
    exact ⟨h1.ext e hb (hx a (.inl (.inl rfl))) fun b hb => hx b (.inl (.inr hb)), fun c => ih c (h2 c) fun b hb => hx b (.inr ⟨c, hb⟩)⟩
theorem Tree.extN {w w' : World} {t : T} (h : Tree w t) (e : Ext No w w') : Tree w' t := h.ext e (NB.no w) fun _ _ h => h
theorem Tree.extM {w w' : World} {t : T} {mt : Option Mtr} {k : Nat} (h : Tree w t) (hm : Mt w mt k) (e : Ext (MX mt) w w') : Tree w' t :=
  h.ext e hm.nb fun b hb => by
    obtain ⟨cs, T', h1, h2⟩ := h.ty hb
    exact hm.ne h1 (NT.ne h2).2
theorem Tree.kid {w : World} {a ow : Nat} {part : Key} {val : Option Nat} {ks : List Nat} {kids : UInt8 → T} (h : Tree w (.node a ow part val ks kids)) (c : UInt8) : Tree w (kids c) := h.2 c
theorem Tree.na {w : World} {a ow : Nat} {part : Key} {val : Option Nat} {ks : List Nat} {kids : UInt8 → T} (h : Tree w (.node a ow part val ks kids)) : NA w a ow part val ks (ptrs kids) := h.1

/-! what a tree tells of its top -/
def T.part : T → Key | .nil => [] | .node _ _ p _ _ _ => p
def T.val : T → Option Nat | .nil => none | .node _ _ _ v _ _ => v
def T.kid : T → UInt8 → T | .nil => fun _ => .nil | .node _ _ _ _ _ kids => kids
def T.kind : T → Nat | .nil => 0 | .node _ _ _ _ ks kids => kindV ks (ptrs kids)
section
variable {w : World} {t : T}
theorem c_Part (h : Tree w t) : Ret P n_node_Node_Part [t.v] w fun v w' => Bs w' v t.part ∧ Ext No w w' := by
  cases t with
  | nil =>
    refine W_node_Node_Part ?_
    exact xifT rfl ⟨Bs.nil w, Ext.refl _ _⟩
  | node a ow part val ks kids => exact c_NPart h.1
theorem c_Val (h : Tree w t) : Ret P n_node_Node_Val [t.v] w fun v w' => v = valV t.val ∧ w' = w := by
  cases t with
  | nil =>
    refine W_node_Node_Val ?_
    refine xjd ?_
    refine xifT rfl ?_
    exact fun g => ⟨rfl, rfl⟩
  | node a ow part val ks kids => exact c_NVal h.1
theorem c_Kind (h : Tree w t) : Ret P n_node_Node_Kind [t.v] w fun v w' => v = .int .i64 t.kind ∧ w' = w := by
  cases t with
  | nil =>
    refine W_node_Node_Kind ?_
    exact xifT rfl ⟨rfl, rfl⟩
  | node a ow part val ks kids => exact c_NKind h.1
theorem c_Len (h : Tree w t) : Ret P n_node_Node_Len [t.v] w fun v w' => v = .int .i64 (cnt (ptrs t.kid)) ∧ w' = w := by
  cases t with
  | nil =>
    refine W_node_Node_Len ?_
    refine xifT rfl ⟨?_, rfl⟩
    have : cnt (ptrs T.nil.kid) = 0 := by
      show cnt (fun _ => none : UInt8 → Option Addr) = 0
      simp [cnt, dom_none]
    rw [this]; rfl
  | node a ow part val ks kids => exact c_NLen h.1
theorem c_Kid (h : Tree w t) {b : UInt8} : Ret P n_node_Node_Kid [t.v, bv b] w fun v w' => v = (t.kid b).v ∧ Ext No w w' := by
  cases t with
  | nil =>
    refine W_node_Node_Kid ?_
    exact xifT rfl ⟨rfl, Ext.refl _ _⟩
  | node a ow part val ks kids => exact c_NKid h.1
theorem c_Next (h : Tree w t) {i : Nat} (hi : i ≤ 256) : Ret P n_node_Node_Next [t.v, .int .i64 i] w fun v w' => v = next2 (ptrs t.kid) i ∧ Ext No w w' := by
  cases t with
  | nil =>
    refine W_node_Node_Next ?_
    refine xifT rfl ⟨?_, Ext.refl _ _⟩
    have : nextB (ptrs T.nil.kid) i = none := nextB_none.2 fun _ _ => rfl
    simp [next2, this]
  | node a ow part val ks kids => exact c_NNext h.1 hi
end
end Go.Proofs.YtidkkkdlaclolaaGreat
end
section
section
namespace Go.Proofs.YtidkkkdlaclolaaGreat
open Go Go.RowKit X
set_option linter.unusedSimpArgs false
set_option linter.unusedVariables false
set_option linter.unusedSectionVars false
variable [Floor]

/-- a type of no tree's blocks, nor of bytes -/
def Oth (T : TypeId) : Prop := T ≠ T_node_Node ∧ T ≠ T_kids_Kids ∧ T ≠ T_small_Row ∧ T ≠ T_wide_Board ∧ T ≠ T_p_node_Node ∧ T ≠ T_uint16 ∧ T ≠ T_uint8
theorem Oth.nt {T T' : TypeId} (h : Oth T) (h' : T' = T_node_Node ∨ KT T') : T' ≠ T := by
  obtain ⟨h1, h2, h3, h4, h5, h6, h7⟩ := h
  rcases h' with rfl | rfl | rfl | rfl | rfl | rfl
  · exact h1.symm
  · exact h2.symm
  · exact h3.symm
  · exact h4.symm
  · exact h5.symm
  · exact h6.symm
theorem nb1 {w : World} {b : Nat} {cs : List Value} {T : TypeId} (hb : Blk w b cs T) (ho : Oth T) (hf : Floor.n ≤ b) : NB w (· = b) := fun c e _ => by
  have e : c = b := e
  subst e
  exact ⟨hf, _, _, hb, ho.2.2.2.2.2.2⟩
theorem Tree.ext1 {w w' : World} {t : T} {b : Nat} {cs : List Value} {T : TypeId} (h : Tree w t) (e : Ext (· = b) w w') (hb : Blk w b cs T) (ho : Oth T) (hf : Floor.n ≤ b) : Tree w' t :=
  h.ext e (nb1 hb ho hf) fun c hc he => by
    have he : c = b := he
    subst he
    obtain ⟨cs', T', h1, h2⟩ := h.ty hc
    exact ho.nt h2 (h1.inj hb).2
theorem Bs.ext1 {w w' : World} {v : Value} {bs : Key} {b : Nat} {cs : List Value} {T : TypeId} (h : Bs w v bs) (e : Ext (· = b) w w') (hb : Blk w b cs T) (ho : Oth T) (hf : Floor.n ≤ b) : Bs w' v bs := h.ext e (nb1 hb ho hf)
theorem oth_walk : Oth T_find_walk := by unfold Oth; decide

/-- how many nodes are gone into for a key -/
def E.steps : E → Key → Nat
  | .nil, _ => 0
  | .node part _ kids, k => if part <+: k then (match k.drop part.length with | [] => 1 | c :: r => (kids c).steps r + 1) else 1
def T.steps (t : T) (k : Key) : Nat := t.er.steps k

section
variable {w : World} {t : T} {wb j s : Nat} {vk : Value} {k : Key}
theorem c_WInto (hf : Floor.n ≤ wb) (hw : Blk w wb [t.v, vk, .int .i64 j, .int .i64 s] T_find_walk) (ht : Tree w t) (hk : Bs w vk k) (hj : j ≤ k.length) (hs : s < 4611686018427387904) (hkl : k.length ≤ 4611686018427387904) : Ret P n_find_walk_into [rp wb] w fun v w' =>
    Ext (· = wb) w w' ∧ ((t = .nil ∧ v = .bool false ∧ w' = w) ∨ (t ≠ .nil ∧ ¬ t.part <+: k.drop j ∧ v = .bool false ∧ Blk w' wb [t.v, vk, .int .i64 j, .int .i64 (s + 1 : Nat)] T_find_walk) ∨
      (t ≠ .nil ∧ t.part <+: k.drop j ∧ v = .bool true ∧ Blk w' wb [t.v, vk, .int .i64 (j + t.part.length : Nat), .int .i64 (s + 1 : Nat)] T_find_walk)) := by
  refine W_find_walk_into ?_
  refine hw.ld (v := t.v) rfl ?_
  cases t with
  | nil => exact xifT rfl ⟨Ext.refl _ _, .inl ⟨rfl, rfl, rfl⟩⟩
  | node a ow part val ks kids =>
    refine xifF rfl ?_
    refine hw.ld (v := .int .i64 s) rfl ?_
    refine xi (r := ((s + 1 : Nat) : Int)) (by rw [wrapI (by omega)]; omega) ?_
    refine hw.st (o := 3) (by simp) rfl fun w1 hw1 hz1 he1 => ?_
    have ht1 := ht.ext1 he1 hw oth_walk hf
    have hk1 := hk.ext1 he1 hw oth_walk hf
    refine hw1.ld (v := (T.node a ow part val ks kids).v) rfl ?_
    refine (c_Part ht1).mono ?_
    rintro pv w2 ⟨hp, he2⟩
    have hw2 := hw1.ext he2 fun h => h
    refine hw2.drew.ld (v := vk) rfl ?_
    refine hw2.drew.ld (v := .int .i64 j) rfl ?_
    have hk2 : Bs w2.drew vk k := (hk1.extN he2).extN (Ext.refl No w2).drew
    have hp2 : Bs w2.drew pv part := hp.extN (Ext.refl No w2).drew
    refine hk2.drop j rfl hj fun v' hv' => ?_
    refine (c_HasPrefix hv' hp2).mono ?_
    rintro v w3 ⟨rfl, rfl⟩
    have hE : Ext (· = wb) w w2.drew := (he1.transN he2).drew
    by_cases h : part <+: k.drop j
    · refine xifF (by rw [decide_eq_true h]; rfl) ?_
      have hl := h.length_le
      rw [List.length_drop] at hl
      refine hw2.drew.ld (v := .int .i64 j) rfl ?_
      refine hp2.len ?_
      refine xi (r := ((j + part.length : Nat) : Int)) (by rw [wrapI (by omega)]; omega) ?_
      refine hw2.drew.st (o := 2) (by simp) rfl fun w4 hw4 hz4 he4 => ?_
      exact ⟨hE.transS he4, .inr (.inr ⟨by simp, h, rfl, hw4⟩)⟩
    · refine xifT (by rw [decide_eq_false h]; rfl) ⟨hE, .inr (.inl ⟨by simp, h, rfl, hw2.drew⟩)⟩
theorem c_WEnds (hw : Blk w wb [t.v, vk, .int .i64 j, .int .i64 s] T_find_walk) (hk : Bs w vk k) : Ret P n_find_walk_ends [rp wb] w fun v w' => v = .bool (decide (j = k.length)) ∧ Ext No w w' := by
  refine W_find_walk_ends ?_
  refine hw.drew.ld (v := .int .i64 j) rfl ?_
  refine hw.drew.ld (v := vk) rfl ?_
  refine hk.len ?_
  refine ⟨?_, (Ext.refl No w).drew⟩
  by_cases h : j = k.length
  · simp [h]
  · rw [decide_eq_false h]
    simp
    omega
theorem c_WDown (hw : Blk w wb [t.v, vk, .int .i64 j, .int .i64 s] T_find_walk) (ht : Tree w t) (hk : Bs w vk k) {c : UInt8} {r : Key} (hc : k.drop j = c :: r) (hkl : k.length ≤ 4611686018427387904) : Ret P n_find_walk_down [rp wb] w fun v w' =>
    Blk w' wb [(t.kid c).v, vk, .int .i64 (j + 1 : Nat), .int .i64 s] T_find_walk ∧ Ext (· = wb) w w' := by
  have hjl : j < k.length := by
    have := congrArg List.length hc
    simp at this
    omega
  have hkc : k[j] = c := by
    have := congrArg (·[0]?) hc
    simp at this
    rw [List.getElem?_eq_getElem hjl] at this
    simpa using this
  refine W_find_walk_down ?_
  refine hw.drew.ld (v := t.v) rfl ?_
  refine hw.drew.ld (v := vk) rfl ?_
  refine hw.drew.ld (v := .int .i64 j) rfl ?_
  refine (hk.extN (Ext.refl No w).drew).rd j hjl rfl ?_
  rw [hkc]
  refine (c_Kid (ht.extN (Ext.refl No w).drew)).mono ?_
  rintro v w1 ⟨rfl, he1⟩
  have hw1 := hw.drew.ext he1 fun h => h
  refine hw1.st (o := 0) (by simp) rfl fun w2 hw2 hz2 he2 => ?_
  refine hw2.ld (v := .int .i64 j) rfl ?_
  refine xi (r := ((j + 1 : Nat) : Int)) (by rw [wrapI (by omega)]; omega) ?_
  refine hw2.st (o := 2) (by simp) rfl fun w3 hw3 hz3 he3 => ?_
  exact ⟨hw3, ((he1.undrew.mono fun _ _ h => h.elim).transS he2).transS he3⟩
end
end Go.Proofs.YtidkkkdlaclolaaGreat
end
section
namespace Go.Proofs.YtidkkkdlaclolaaGreat
open Go Go.RowKit X
set_option linter.unusedSimpArgs false
set_option linter.unusedVariables false
set_option linter.unusedSectionVars false
variable [Floor]

theorem T.get_node {a ow : Nat} {part : Key} {val : Option Nat} {ks : List Nat} {kids : UInt8 → T} {k : Key} : (T.node a ow part val ks kids).get k = if part <+: k then (match k.drop part.length with | [] => val | c :: r => (kids c).get r) else none := by
  show (E.node part val fun c => (kids c).er).get k = _
  rw [E.get]
  split <;> rfl
theorem T.steps_node {a ow : Nat} {part : Key} {val : Option Nat} {ks : List Nat} {kids : UInt8 → T} {k : Key} : (T.node a ow part val ks kids).steps k = if part <+: k then (match k.drop part.length with | [] => 1 | c :: r => (kids c).steps r + 1) else 1 := by
  show (E.node part val fun c => (kids c).er).steps k = _
  rw [E.steps]
  split <;> rfl
theorem E.steps_le : ∀ (e : E) (k : Key), e.steps k ≤ k.length + 1 := by
  intro e
  induction e with
  | nil => intro k; simp [E.steps]
  | node part val kids ih =>
    intro k
    rw [E.steps]
    split
    · split
      · omega
      · rename_i h c r hd
        have := congrArg List.length hd
        simp at this
        have := ih c r
        omega
    · omega
section
variable {w : World} {t : T} {vk : Value} {k : Key}
theorem c_Get (hfl : Floor.n ≤ w.heap.size) (ht : Tree w t) (hk : Bs w vk k) (hkl : k.length ≤ 4611686018427387000) : Ret P n_find_Get [t.v, vk] w fun v w' => v = valV (t.get k) ∧ Ext No w w' := by
  refine W_find_Get ?_
  obtain ⟨ka, kc, rfl⟩ := hk.slice
  refine xnew fun wb w1 hb hblk hz he => ?_
  have hf : Floor.n ≤ wb := by omega
  have hk1 := hk.extN he
  have ht1 := ht.extN he
  refine xloop (fun nn vs w' => ∃ (u : T) (j s : Nat) (x y : Value), vs = [x, y] ∧ Blk w' wb [u.v, .slice ka k.length kc, .int .i64 j, .int .i64 s] T_find_walk ∧ Tree w' u ∧ Bs w' (.slice ka k.length kc) k ∧ j ≤ k.length ∧ s ≤ j ∧ nn = k.length - j ∧ t.get k = u.get (k.drop j) ∧ Ext No w w') k.length
    ⟨t, 0, 0, _, _, rfl, hblk, ht1, hk1, by omega, by omega, rfl, rfl, he⟩ ?_
  rintro nn vs g w2 ⟨u, j, s, x, y, rfl, hw, hu, hk2, hj, hs, rfl, hget, hE⟩
  refine (c_WInto hf hw hu hk2 hj (by omega) (by omega)).mono ?_
  rintro v w3 ⟨he3, ⟨rfl, rfl, rfl⟩ | ⟨hn, hp, rfl, hw3⟩ | ⟨hn, hp, rfl, hw3⟩⟩
  · refine xifF rfl ⟨?_, hE⟩
    rw [hget]; rfl
  · refine xifF rfl ⟨?_, hE.trans1 he3 (by omega)⟩
    cases u with
    | nil => exact absurd rfl hn
    | node a ow part val ks kids =>
      have hp : ¬ part <+: k.drop j := hp
      rw [hget, T.get_node, if_neg hp]
      rfl
  · refine xifT rfl ?_
    have hE3 := hE.trans1 he3 (by omega)
    have hu3 := hu.ext1 he3 hw oth_walk hf
    have hk3 := hk2.ext1 he3 hw oth_walk hf
    cases u with
    | nil => exact absurd rfl hn
    | node a ow part val ks kids =>
      have hp : part <+: k.drop j := hp
      have hl := hp.length_le
      rw [List.length_drop] at hl
      have hl : part.length ≤ k.length - j := hl
      rw [T.get_node, if_pos hp, List.drop_drop] at hget
      refine (c_WEnds hw3 hk3).mono ?_
      rintro v w4 ⟨rfl, he4⟩
      have hw4 := hw3.ext he4 fun h => h
      have hu4 := hu3.extN he4
      have hk4 := hk3.extN he4
      refine xifD (fun he => ?_) fun hne => ?_
      · have he : j + part.length = k.length := he
        refine hw4.ld (v := (T.node a ow part val ks kids).v) rfl ?_
        refine (c_Val hu4).mono ?_
        rintro v w5 ⟨rfl, rfl⟩
        rw [List.drop_eq_nil_of_le (by omega)] at hget
        exact ⟨by rw [hget]; rfl, hE3.transN he4⟩
      · have hne : j + part.length ≠ k.length := hne
        cases hd : k.drop (j + part.length) with
        | nil =>
          have := congrArg List.length hd
          simp at this
          omega
        | cons c r =>
          rw [hd] at hget
          refine (c_WDown (c := c) (r := r) hw4 hu4 hk4 hd (by omega)).mono ?_
          rintro v w5 ⟨hw5, he5⟩
          have hr : k.drop (j + part.length + 1) = r := by
            rw [← List.drop_drop, hd]; rfl
          refine xnext (k.length - (j + part.length + 1)) (by omega) ⟨kids c, j + part.length + 1, s + 1, _, _, rfl, hw5, (hu4.kid c).ext1 he5 hw4 oth_walk hf, hk4.ext1 he5 hw4 oth_walk hf, by omega, by omega, rfl, by rw [hget, hr], (hE3.transN he4).trans1 he5 (by omega)⟩
theorem c_Has (hfl : Floor.n ≤ w.heap.size) (ht : Tree w t) (hk : Bs w vk k) (hkl : k.length ≤ 4611686018427387000) : Ret P n_find_Has [t.v, vk] w fun v w' => v = .bool (t.get k).isSome ∧ Ext No w w' := by
  refine W_find_Has ?_
  refine (c_Get hfl ht hk hkl).mono ?_
  rintro v w' ⟨rfl, he⟩
  exact ⟨rfl, he⟩
theorem X.xfunc {f : FuncId} {first captured : Array Value} {args : List Value} {K : FuncId → List Value → Prop} (h : K f (first.toList ++ args ++ captured.toList)) : xFunc (.func (.func f) first captured) args K := h
theorem X.xcall_ret {P : Program} {f : FuncId} {args : List Value} {w : World} {K : Value → World → Prop} (hb : bodied P f = true) (h : Ret P f args w K) : xCall P f args w K := by
  unfold xCall
  rw [hb]
  exact h
set_option maxRecDepth 100000 in
theorem c_Steps (hfl : Floor.n ≤ w.heap.size) (ht : Tree w t) (hk : Bs w vk k) (hkl : k.length ≤ 4611686018427387000) : Ret P n_find_Steps [t.v, vk] w fun v w' => v = .int .i64 (t.steps k) ∧ Ext No w w' := by
  refine W_find_Steps ?_
  refine W_find_each ?_
  obtain ⟨ka, kc, rfl⟩ := hk.slice
  refine xnew fun wb w1 hb hblk hz he => ?_
  have hf : Floor.n ≤ wb := by omega
  have hk1 := hk.extN he
  have ht1 := ht.extN he
  refine xj (fun vs w' => ∃ (u : T) (j : Nat), Blk w' wb [u.v, .slice ka k.length kc, .int .i64 j, .int .i64 (t.steps k)] T_find_walk ∧ Ext No w w') ?_ ?_
  · refine xloop (fun nn vs w' => ∃ (u : T) (j s : Nat) (x y : Value), vs = [x, y] ∧ Blk w' wb [u.v, .slice ka k.length kc, .int .i64 j, .int .i64 s] T_find_walk ∧ Tree w' u ∧ Bs w' (.slice ka k.length kc) k ∧ j ≤ k.length ∧ s ≤ j ∧ nn = k.length - j ∧ t.steps k = s + u.steps (k.drop j) ∧ Ext No w w') k.length
      ⟨t, 0, 0, _, _, rfl, hblk, ht1, hk1, by omega, by omega, rfl, by simp, he⟩ ?_
    rintro nn vs g w2 ⟨u, j, s, x, y, rfl, hw, hu, hk2, hj, hs, rfl, hget, hE⟩
    refine (c_WInto hf hw hu hk2 hj (by omega) (by omega)).mono ?_
    rintro v w3 ⟨he3, ⟨rfl, rfl, rfl⟩ | ⟨hn, hp, rfl, hw3⟩ | ⟨hn, hp, rfl, hw3⟩⟩
    · refine xifF rfl ⟨.nil, j, ?_, hE⟩
      rw [hget]; exact hw
    · refine xifF rfl ⟨u, j, ?_, hE.trans1 he3 (by omega)⟩
      cases u with
      | nil => exact absurd rfl hn
      | node a ow part val ks kids =>
        have hp : ¬ part <+: k.drop j := hp
        rw [hget, T.steps_node, if_neg hp]
        exact hw3
    · refine xifT rfl ?_
      have hE3 := hE.trans1 he3 (by omega)
      have hu3 := hu.ext1 he3 hw oth_walk hf
      have hk3 := hk2.ext1 he3 hw oth_walk hf
      cases u with
      | nil => exact absurd rfl hn
      | node a ow part val ks kids =>
        have hp : part <+: k.drop j := hp
        have hl := hp.length_le
        rw [List.length_drop] at hl
        have hw3 : Blk w3 wb [(T.node a ow part val ks kids).v, .slice ka k.length kc, .int .i64 (j + part.length : Nat), .int .i64 (s + 1 : Nat)] T_find_walk := hw3
        rw [T.steps_node, if_pos hp, List.drop_drop] at hget
        refine xj (fun vs w' => ∃ x y, vs = [x, y] ∧ w' = w3) ?_ ?_
        · refine hw3.ld (v := (T.node a ow part val ks kids).v) rfl ?_
          refine (c_Val hu3).mono ?_
          rintro v w4 ⟨rfl, rfl⟩
          cases val with
          | none => exact xifF rfl ⟨_, _, rfl, rfl⟩
          | some n =>
            refine xifT rfl ?_
            refine hw3.ld (v := .int .i64 (j + part.length : Nat)) rfl ?_
            refine xfunc ?_
            refine xcall_ret (by kernel_rfl) ?_
            refine W_find_Steps_1 ?_
            exact ⟨_, _, rfl, rfl⟩
        · rintro vs g w' ⟨x, y, rfl, rfl⟩
          refine (c_WEnds hw3 hk3).mono ?_
          rintro v w4 ⟨rfl, he4⟩
          have hw4 := hw3.ext he4 fun h => h
          have hu4 := hu3.extN he4
          have hk4 := hk3.extN he4
          refine xifD (fun he => ?_) fun hne => ?_
          · rw [List.drop_eq_nil_of_le (by omega)] at hget
            exact ⟨_, _, by rw [hget]; exact hw4, hE3.transN he4⟩
          · cases hd : k.drop (j + part.length) with
            | nil =>
              have := congrArg List.length hd
              simp at this
              omega
            | cons c r =>
              rw [hd] at hget
              have hget : t.steps k = s + ((kids c).steps r + 1) := hget
              refine (c_WDown (c := c) (r := r) hw4 hu4 hk4 hd (by omega)).mono ?_
              rintro v w5 ⟨hw5, he5⟩
              have hr : k.drop (j + part.length + 1) = r := by
                rw [← List.drop_drop, hd]; rfl
              refine xnext (k.length - (j + part.length + 1)) (by omega) ⟨kids c, j + part.length + 1, s + 1, _, _, rfl, hw5, (hu4.kid c).ext1 he5 hw4 oth_walk hf, hk4.ext1 he5 hw4 oth_walk hf, by omega, by omega, rfl, by rw [hget, hr]; omega, (hE3.transN he4).trans1 he5 (by omega)⟩
  · rintro vs g w2 ⟨u, j, hw, hE⟩
    exact hw.ld (v := .int .i64 (t.steps k)) rfl ⟨rfl, hE⟩
end
end Go.Proofs.YtidkkkdlaclolaaGreat
end
end
section
namespace Go.Proofs.YtidkkkdlaclolaaGreat
open Go Go.RowKit X
set_option linter.unusedSimpArgs false
set_option linter.unusedVariables false
set_option linter.unusedSectionVars false
variable [Floor]

def T.Sep (o : Nat) : T → Prop
  | .nil => True
  | .node a ow _ _ ks kids => (∀ c, (kids c).Sep o) ∧ (∀ c d, c ≠ d → ∀ b, (kids c).Foot o b → ¬ (kids d).All b) ∧ (ow = o → ∀ b, NX a ks b → ∀ c, ¬ (kids c).All b) ∧ (∀ c b, (kids c).Foot o b → ¬ NX a ks b)
/-- no node is the owner's -/
def T.Free (o : Nat) : T → Prop
  | .nil => True
  | .node _ ow _ _ _ kids => ow ≠ o ∧ ∀ c, (kids c).Free o
theorem T.Free.foot {o : Nat} : ∀ {t : T}, t.Free o → ∀ b, ¬ t.Foot o b := by
  intro t
  induction t with
  | nil => intro _ b h; exact h
  | node a ow part val ks kids ih =>
    rintro ⟨h1, h2⟩ b h
    rcases h with ⟨h, -⟩ | ⟨c, h⟩
    · exact h1 h
    · exact ih c (h2 c) b h
theorem T.Free.sep {o : Nat} : ∀ {t : T}, t.Free o → t.Sep o := by
  intro t
  induction t with
  | nil => intro _; trivial
  | node a ow part val ks kids ih =>
    rintro ⟨h1, h2⟩
    exact ⟨fun c => ih c (h2 c), fun c d _ b h => absurd h ((h2 c).foot b), fun h => absurd h h1, fun c b h => absurd h ((h2 c).foot b)⟩
def updT (kids : UInt8 → T) (b : UInt8) (t : T) : UInt8 → T := fun c => if c = b then t else kids c
theorem updT_same (kids : UInt8 → T) (b : UInt8) (t : T) : updT kids b t b = t := by simp [updT]
theorem updT_other (kids : UInt8 → T) {b c : UInt8} (t : T) (h : c ≠ b) : updT kids b t c = kids c := by simp [updT, h]
theorem updT_er (kids : UInt8 → T) (b : UInt8) (t : T) : (fun c => (updT kids b t c).er) = updE (fun c => (kids c).er) b t.er := by
  funext c; unfold updT updE; split <;> rfl
theorem updT_ptr (kids : UInt8 → T) (b : UInt8) (t : T) : ptrs (updT kids b t) = upd (ptrs kids) b t.ptr := by
  funext c
  by_cases h : c = b
  · subst h; simp [ptrs, updT, upd]
  · simp [ptrs, updT, upd, h]
/-- what an operation of owner o makes of t -/
structure Res (w w' : World) (o : Nat) (t t' : T) (mt : Option Mtr) (n : Nat) : Prop where
  tree : Tree w' t'
  ext : Ext (fun b => MX mt b ∨ t.Foot o b) w w'
  cnt : Mt w' mt n
  all : ∀ b, t'.All b → t.All b ∨ w.heap.size ≤ b
  foot : ∀ b, t'.Foot o b → t.Foot o b ∨ w.heap.size ≤ b
  sep : t'.Sep o

theorem Foot.nb {w : World} {t : T} {o : Nat} (h : Tree w t) : NB w (t.Foot o) := fun b hb _ => by
  obtain ⟨cs, T', h1, h2⟩ := h.ty hb.all
  exact ⟨h.fl hb.all, cs, T', h1, (NT.ne h2).1⟩
theorem mt_all {w : World} {t : T} {mt : Option Mtr} {n b : Nat} (h : Tree w t) (hm : Mt w mt n) (hb : t.All b) : ¬ MX mt b := by
  obtain ⟨cs, T', h1, h2⟩ := h.ty hb
  exact hm.ne h1 (NT.ne h2).2

/-- a node that its owner may write to: itself, or a copy -/
theorem c_Own {w : World} {a ow o : Nat} {part : Key} {val : Option Nat} {ks : List Nat} {m : UInt8 → Option Addr} {mt : Option Mtr} {n : Nat} (h : NA w a ow part val ks m) (hm : Mt w mt n) : Ret P n_node_Node_Own [rp a, mv mt, .int .u64 o] w fun v w' =>
    ∃ a' ks', v = rp a' ∧ NA w' a' o part val ks' m ∧ (ks' = [] ↔ ks = []) ∧ ((o ≠ 0 ∧ o = ow ∧ a' = a ∧ ks' = ks ∧ w' = w) ∨ (¬ (o ≠ 0 ∧ o = ow) ∧ (∀ b, NX a' ks' b → w.heap.size ≤ b) ∧ Mt w' mt (n + 1) ∧ Ext (MX mt) w w')) := by
  refine W_node_Node_Own ?_
  refine (c_NMay h).mono ?_
  rintro v w' ⟨rfl, rfl⟩
  by_cases e : o ≠ 0 ∧ o = ow
  · rw [if_pos e]
    refine xifT rfl ⟨a, ks, rfl, ?_, Iff.rfl, .inl ⟨e.1, e.2, rfl, rfl, rfl⟩⟩
    rw [e.2]; exact h
  · rw [if_neg e]
    refine xifF rfl ?_
    refine (c_Copy h hm).mono ?_
    rintro v w1 ⟨a', ks', rfl, h1, h2, h3, h4, h5⟩
    exact ⟨a', ks', rfl, h1, h2, .inr ⟨e, h3, h4, h5⟩⟩
end Go.Proofs.YtidkkkdlaclolaaGreat
end
section
section
namespace Go.Proofs.YtidkkkdlaclolaaGreat
open Go Go.RowKit X
set_option linter.unusedSimpArgs false
set_option linter.unusedVariables false
set_option linter.unusedSectionVars false
variable [Floor]

section
variable {w w1 : World} {o u : Nat} {t : T} {p : Key} {val : Option Nat} {uks : List Nat} {kids : UInt8 → T} {mt : Option Mtr} {n : Nat}
theorem Res.own_lt (h : Res w w1 o t (.node u o p val uks kids) mt n) {b : Nat} (hb : NX u uks b) : t.Foot o b ∨ w.heap.size ≤ b := h.foot b (.inl ⟨rfl, hb⟩)
theorem Res.lt (h : Res w w1 o t (.node u o p val uks kids) mt n) {b : Nat} (hb : NX u uks b) : b < w1.heap.size := h.tree.lt (.inl hb)
/-- the node's own block is written: all else stays -/
theorem Res.stU (h : Res w w1 o t (.node u o p val uks kids) mt n) {w2 : World} {p' : Key} {val' : Option Nat} (hna : NA w2 u o p' val' uks (ptrs kids)) (he : Ext (· = u) w1 w2) : Res w w2 o t (.node u o p' val' uks kids) mt n := by
  obtain ⟨pv, hb, -⟩ := h.tree.1.blk
  obtain ⟨s1, s2, s3, s4⟩ := h.sep
  refine ⟨⟨hna, fun c => ?_⟩, ?_, ?_, h.all, h.foot, ⟨s1, s2, s3, s4⟩⟩
  · refine (h.tree.2 c).ext he (fun b e _ => ?_) fun b hb' e => ?_
    · have e : b = u := e
      subst e
      exact ⟨h.tree.1.new.1, _, _, hb, by decide⟩
    · have e : b = u := e
      subst e
      exact s3 rfl b (.inl rfl) c hb'
  · refine h.ext.trans he fun b hb' e => ?_
    have e : b = u := e
    subst e
    rcases h.own_lt (.inl rfl) with h1 | h1
    · exact .inr h1
    · omega
  · exact h.cnt.ext he fun b hb' e => by
      have e : b = u := e
      subst e
      exact h.cnt.ne hb (by decide) hb'
theorem c_RVal (h : Res w w1 o t (.node u o p val uks kids) mt n) (ho : o ≠ 0) {x : Nat} (hx : x < 18446744073709551616) : Ret P n_node_Node_SetVal [rp u, .int .u64 o, .int .u64 x] w1 fun _ w2 => Res w w2 o t (.node u o p (some x) uks kids) mt n ∧ Ext (· = u) w1 w2 := by
  refine (c_NSetVal h.tree.1 ho rfl hx).mono ?_
  rintro r w2 ⟨h1, h2⟩
  exact ⟨h.stU h1 h2, h2⟩
theorem c_RDropVal (h : Res w w1 o t (.node u o p val uks kids) mt n) (ho : o ≠ 0) (hne : uks ≠ []) (hv : val.isSome) : Ret P n_node_Node_DropVal [rp u, .int .u64 o] w1 fun _ w2 => Res w w2 o t (.node u o p none uks kids) mt n ∧ Ext (· = u) w1 w2 := by
  refine (c_NDropVal h.tree.1 ho rfl hne hv).mono ?_
  rintro r w2 ⟨h1, h2⟩
  exact ⟨h.stU h1 h2, h2⟩
theorem c_RPart (h : Res w w1 o t (.node u o p val uks kids) mt n) (ho : o ≠ 0) {v : Value} {bs : Key} (hv : Bs w1 v bs) (hs : bs.length ≤ 65535) : Ret P n_node_Node_SetPart [rp u, .int .u64 o, v] w1 fun _ w2 => Res w w2 o t (.node u o bs val uks kids) mt n ∧ Ext (· = u) w1 w2 := by
  refine (c_NSetPart h.tree.1 ho rfl hv hs).mono ?_
  rintro r w2 ⟨h1, h2⟩
  exact ⟨h.stU h1 h2, h2⟩
/-- a kid is set -/
theorem c_RKid (h : Res w w1 o t (.node u o p val uks kids) mt n) (ho : o ≠ 0) (hne : uks ≠ []) {c0 : UInt8} {t2 : T} {a2 : Nat} (hp : t2.ptr = some ⟨a2, 0, none⟩) (ht2 : Tree w1 t2) (hs2 : t2.Sep o) (hall : ∀ b, t2.All b → t.All b ∨ w.heap.size ≤ b) (hfoot : ∀ b, t2.Foot o b → t.Foot o b ∨ w.heap.size ≤ b)
    (hu : ∀ b, t2.All b → ¬ NX u uks b) (hd : ∀ c, c ≠ c0 → ∀ b, t2.Foot o b → ¬ (kids c).All b) (hd2 : ∀ c, c ≠ c0 → ∀ b, (kids c).Foot o b → ¬ t2.All b) :
    Ret P n_node_Node_SetKid [rp u, .int .u64 o, bv c0, rp a2] w1 fun _ w2 => ∃ uks', Res w w2 o t (.node u o p val uks' (updT kids c0 t2)) mt n ∧ uks' ≠ [] ∧ Ext (· ∈ uks) w1 w2 ∧ Sub uks uks' w1.heap.size := by
  refine (c_NSetKid h.tree.1 ho rfl hne).mono ?_
  rintro r w2 ⟨uks', hna, hne', he, hsub⟩
  obtain ⟨s1, s2, s3, s4⟩ := h.sep
  have hz := h.ext.size
  have hz2 := he.size
  have hnb : NB w1 (· ∈ uks) := fun b hb _ => by
    obtain ⟨cs, T', h3, h4⟩ := h.tree.1.kd.ty b hb
    exact ⟨h.tree.1.new.2 b hb, cs, T', h3, h4.ne.1⟩
  have hNX : ∀ b, NX u uks' b → NX u uks b ∨ w1.heap.size ≤ b := fun b hb => by
    rcases hb with hb | hb
    · exact .inl (.inl hb)
    · rcases hsub b hb with h1 | h1
      · exact .inl (.inr h1)
      · exact .inr h1
  have htk : ∀ c, Tree w1 (updT kids c0 t2 c) := fun c => by
    unfold updT; split
    · exact ht2
    · exact h.tree.2 c
  have huk : ∀ c b, (updT kids c0 t2 c).All b → ¬ NX u uks b := fun c b hb hx => by
    unfold updT at hb; split at hb
    · exact hu b hb hx
    · exact s3 rfl b hx c hb
  refine ⟨uks', ⟨⟨?_, fun c => (htk c).ext he hnb fun b hb hx => huk c b hb (.inr hx)⟩, ?_, ?_, fun b hb => ?_, fun b hb => ?_, ⟨fun c => ?_, fun c d hcd b hb hb2 => ?_, fun _ b hb c hc => ?_, fun c b hf hb => ?_⟩⟩, hne', he, hsub⟩
  · rw [updT_ptr, hp]; exact hna
  · refine h.ext.trans he fun b hb hx => ?_
    rcases h.own_lt (.inr hx) with h1 | h1
    · exact .inr h1
    · omega
  · exact h.cnt.ext he fun b hb hx => by
      obtain ⟨cs, T', h3, h4⟩ := h.tree.1.kd.ty b hx
      exact h.cnt.ne h3 h4.ne.2.2 hb
  · rcases hb with hb | ⟨c, hb⟩
    · rcases hNX b hb with h1 | h1
      · exact h.all b (.inl h1)
      · exact .inr (by omega)
    · unfold updT at hb; split at hb
      · exact hall b hb
      · exact h.all b (.inr ⟨c, hb⟩)
  · rcases hb with ⟨-, hb⟩ | ⟨c, hb⟩
    · rcases hNX b hb with h1 | h1
      · exact h.foot b (.inl ⟨rfl, h1⟩)
      · exact .inr (by omega)
    · unfold updT at hb; split at hb
      · exact hfoot b hb
      · exact h.foot b (.inr ⟨c, hb⟩)
  · unfold updT; split
    · exact hs2
    · exact s1 c
  · unfold updT at hb hb2
    by_cases hc : c = c0
    · subst hc
      rw [if_pos rfl] at hb
      rw [if_neg (fun e => hcd e.symm)] at hb2
      exact hd d (fun e => hcd e.symm) b hb hb2
    · rw [if_neg hc] at hb
      split at hb2
      · exact hd2 c hc b hb hb2
      · exact s2 c d hcd b hb hb2
  · rcases hNX b hb with h1 | h1
    · exact huk c b hc h1
    · have := (htk c).lt hc; omega
  · rcases hNX b hb with h1 | h1
    · exact huk c b hf.all h1
    · have := (htk c).lt hf.all; omega
/-- a kid is dropped -/
theorem c_RDropKid (h : Res w w1 o t (.node u o p val uks kids) mt n) (ho : o ≠ 0) (hne : uks ≠ []) {c0 : UInt8} (hp : (kids c0).ptr.isSome) :
    Ret P n_node_Node_DropKid [rp u, .int .u64 o, bv c0] w1 fun _ w2 => ∃ uks', Res w w2 o t (.node u o p val uks' (updT kids c0 .nil)) mt n ∧ uks' ≠ [] ∧ Ext (· ∈ uks) w1 w2 ∧ Sub uks uks' w1.heap.size := by
  refine (c_NDropKid h.tree.1 ho rfl hne hp).mono ?_
  rintro r w2 ⟨uks', hna, hne', he, hsub⟩
  obtain ⟨s1, s2, s3, s4⟩ := h.sep
  have hz := h.ext.size
  have hz2 := he.size
  have hnb : NB w1 (· ∈ uks) := fun b hb _ => by
    obtain ⟨cs, T', h3, h4⟩ := h.tree.1.kd.ty b hb
    exact ⟨h.tree.1.new.2 b hb, cs, T', h3, h4.ne.1⟩
  have hNX : ∀ b, NX u uks' b → NX u uks b ∨ w1.heap.size ≤ b := fun b hb => by
    rcases hb with hb | hb
    · exact .inl (.inl hb)
    · rcases hsub b hb with h1 | h1
      · exact .inl (.inr h1)
      · exact .inr h1
  have htk : ∀ c, Tree w1 (updT kids c0 .nil c) := fun c => by
    unfold updT; split
    · trivial
    · exact h.tree.2 c
  have hsub2 : ∀ c b, (updT kids c0 .nil c).All b → (kids c).All b := fun c b hb => by
    unfold updT at hb; split at hb
    · exact hb.elim
    · exact hb
  have hsub3 : ∀ c b, (updT kids c0 .nil c).Foot o b → (kids c).Foot o b := fun c b hb => by
    unfold updT at hb; split at hb
    · exact hb.elim
    · exact hb
  refine ⟨uks', ⟨⟨?_, fun c => (htk c).ext he hnb fun b hb hx => s3 rfl b (.inr hx) c (hsub2 c b hb)⟩, ?_, ?_, fun b hb => ?_, fun b hb => ?_, ⟨fun c => ?_, fun c d hcd b hb hb2 => s2 c d hcd b (hsub3 c b hb) (hsub2 d b hb2), fun _ b hb c hc => ?_, fun c b hf hb => ?_⟩⟩, hne', he, hsub⟩
  · rw [updT_ptr]; exact hna
  · refine h.ext.trans he fun b hb hx => ?_
    rcases h.own_lt (.inr hx) with h1 | h1
    · exact .inr h1
    · omega
  · exact h.cnt.ext he fun b hb hx => by
      obtain ⟨cs, T', h3, h4⟩ := h.tree.1.kd.ty b hx
      exact h.cnt.ne h3 h4.ne.2.2 hb
  · rcases hb with hb | ⟨c, hb⟩
    · rcases hNX b hb with h1 | h1
      · exact h.all b (.inl h1)
      · exact .inr (by omega)
    · exact h.all b (.inr ⟨c, hsub2 c b hb⟩)
  · rcases hb with ⟨-, hb⟩ | ⟨c, hb⟩
    · rcases hNX b hb with h1 | h1
      · exact h.foot b (.inl ⟨rfl, h1⟩)
      · exact .inr (by omega)
    · exact h.foot b (.inr ⟨c, hsub3 c b hb⟩)
  · unfold updT; split
    · trivial
    · exact s1 c
  · rcases hNX b hb with h1 | h1
    · exact s3 rfl b h1 c (hsub2 c b hc)
    · have := (htk c).lt hc; omega
  · rcases hNX b hb with h1 | h1
    · exact s3 rfl b h1 c (hsub2 c b hf.all)
    · have := (htk c).lt hf.all; omega
end
end Go.Proofs.YtidkkkdlaclolaaGreat
end
section
namespace Go.Proofs.YtidkkkdlaclolaaGreat
open Go Go.RowKit X
set_option linter.unusedSimpArgs false
set_option linter.unusedVariables false
set_option linter.unusedSectionVars false
variable [Floor]

/-- as Res of a node; but its kids' pointers in memory are m -/
structure ResH (w w' : World) (o : Nat) (t : T) (u ow : Nat) (p : Key) (val : Option Nat) (uks : List Nat) (m : UInt8 → Option Addr) (kids : UInt8 → T) (mt : Option Mtr) (n : Nat) : Prop where
  na : NA w' u ow p val uks m
  sub : ∀ c, Tree w' (kids c)
  ext : Ext (fun b => MX mt b ∨ t.Foot o b) w w'
  cnt : Mt w' mt n
  all : ∀ b, (T.node u ow p val uks kids).All b → t.All b ∨ w.heap.size ≤ b
  foot : ∀ b, (T.node u ow p val uks kids).Foot o b → t.Foot o b ∨ w.heap.size ≤ b
  sep : (T.node u ow p val uks kids).Sep o
section
variable {w w1 : World} {o u ow : Nat} {t : T} {p : Key} {val : Option Nat} {uks : List Nat} {m : UInt8 → Option Addr} {kids : UInt8 → T} {mt : Option Mtr} {n : Nat}
theorem ResH.res (h : ResH w w1 o t u ow p val uks m kids mt n) (hm : m = ptrs kids) : Res w w1 o t (.node u ow p val uks kids) mt n := by
  subst hm
  exact ⟨⟨h.na, h.sub⟩, h.ext, h.cnt, h.all, h.foot, h.sep⟩
theorem Res.h (h : Res w w1 o t (.node u ow p val uks kids) mt n) : ResH w w1 o t u ow p val uks (ptrs kids) kids mt n := ⟨h.tree.1, h.tree.2, h.ext, h.cnt, h.all, h.foot, h.sep⟩
/-- nothing done yet -/
theorem Res.start (ht : Tree w t) (hs : t.Sep o) (hm : Mt w mt n) : Res w w o t t mt n := ⟨ht, Ext.refl _ _, hm, fun b h => .inl h, fun b h => .inl h, hs⟩
theorem Res.extN {t' : T} (h : Res w w1 o t t' mt n) {w2 : World} (e : Ext No w1 w2) : Res w w2 o t t' mt n := ⟨h.tree.extN e, h.ext.transN e, h.cnt.extN e, h.all, h.foot, h.sep⟩
theorem ResH.extN (h : ResH w w1 o t u ow p val uks m kids mt n) {w2 : World} (e : Ext No w1 w2) : ResH w w2 o t u ow p val uks m kids mt n := ⟨h.na.extN e, fun c => (h.sub c).extN e, h.ext.transN e, h.cnt.extN e, h.all, h.foot, h.sep⟩
theorem c_HOwn (h : ResH w w1 o t u ow p val uks m kids mt n) (ho : o ≠ 0) : Ret P n_node_Node_Own [rp u, mv mt, .int .u64 o] w1 fun v w2 =>
    ∃ u' uks' n', v = rp u' ∧ ResH w w2 o t u' o p val uks' m kids mt n' ∧ (uks' = [] ↔ uks = []) ∧ Ext (MX mt) w1 w2 ∧ n' ≤ n + 1 ∧ (o = ow → u' = u ∧ uks' = uks ∧ n' = n) := by
  refine (c_Own (o := o) h.na h.cnt).mono ?_
  rintro v w2 ⟨u', uks', rfl, hna, hiff, ⟨-, rfl, rfl, rfl, rfl⟩ | ⟨hno, hfr, hm2, he2⟩⟩
  · exact ⟨u', uks', n, rfl, h, Iff.rfl, Ext.refl _ _, by omega, fun _ => ⟨rfl, rfl, rfl⟩⟩
  · obtain ⟨s1, s2, s3, s4⟩ := h.sep
    have hz := h.ext.size
    refine ⟨u', uks', n + 1, rfl, ⟨hna, fun c => (h.sub c).extM h.cnt he2, h.ext.transS (he2.mono fun b _ hb => .inl hb), hm2, fun b hb => ?_, fun b hb => ?_, ⟨s1, s2, fun _ b hb c hc => ?_, fun c b hf hb => ?_⟩⟩, hiff, he2, by omega, fun e => absurd ⟨ho, e⟩ hno⟩
    · rcases hb with hb | hb
      · exact .inr (by have := hfr b hb; omega)
      · exact h.all b (.inr hb)
    · rcases hb with ⟨-, hb⟩ | hb
      · exact .inr (by have := hfr b hb; omega)
      · exact h.foot b (.inr hb)
    · have := hfr b hb; have := (h.sub c).lt hc; omega
    · have := hfr b hb; have := (h.sub c).lt hf.all; omega
/-- the pointer is set to the kid that stands there -/
theorem c_HSet (h : ResH w w1 o t u o p val uks m kids mt n) (ho : o ≠ 0) (hne : uks ≠ []) {c0 : UInt8} {a2 : Nat} (hp : (kids c0).ptr = some ⟨a2, 0, none⟩) (hm : ∀ c, c ≠ c0 → m c = (kids c).ptr) :
    Ret P n_node_Node_SetKid [rp u, .int .u64 o, bv c0, rp a2] w1 fun _ w2 => ∃ uks', Res w w2 o t (.node u o p val uks' kids) mt n ∧ uks' ≠ [] ∧ Ext (· ∈ uks) w1 w2 := by
  refine (c_NSetKid h.na ho rfl hne).mono ?_
  rintro r w2 ⟨uks', hna, hne', he, hsub⟩
  obtain ⟨s1, s2, s3, s4⟩ := h.sep
  have hz := h.ext.size
  have hz2 := he.size
  have hnb : NB w1 (· ∈ uks) := fun b hb _ => by
    obtain ⟨cs, T', h3, h4⟩ := h.na.kd.ty b hb
    exact ⟨h.na.new.2 b hb, cs, T', h3, h4.ne.1⟩
  have hNX : ∀ b, NX u uks' b → NX u uks b ∨ w1.heap.size ≤ b := fun b hb => by
    rcases hb with hb | hb
    · exact .inl (.inl hb)
    · rcases hsub b hb with h1 | h1
      · exact .inl (.inr h1)
      · exact .inr h1
  have hmm : upd m c0 (some ⟨a2, 0, none⟩) = ptrs kids := by
    funext c
    by_cases e : c = c0
    · subst e; rw [upd_same]; exact hp.symm
    · rw [upd_other m _ e]; exact hm c e
  rw [hmm] at hna
  refine ⟨uks', ⟨⟨hna, fun c => (h.sub c).ext he hnb fun b hb hx => s3 rfl b (.inr hx) c hb⟩, ?_, ?_, fun b hb => ?_, fun b hb => ?_, ⟨s1, s2, fun _ b hb c hc => ?_, fun c b hf hb => ?_⟩⟩, hne', he⟩
  · refine h.ext.trans he fun b hb hx => ?_
    rcases h.foot b (.inl ⟨rfl, .inr hx⟩) with h1 | h1
    · exact .inr h1
    · omega
  · exact h.cnt.ext he fun b hb hx => by
      obtain ⟨cs, T', h3, h4⟩ := h.na.kd.ty b hx
      exact h.cnt.ne h3 h4.ne.2.2 hb
  · rcases hb with hb | hb
    · rcases hNX b hb with h1 | h1
      · exact h.all b (.inl h1)
      · exact .inr (by omega)
    · exact h.all b (.inr hb)
  · rcases hb with ⟨-, hb⟩ | hb
    · rcases hNX b hb with h1 | h1
      · exact h.foot b (.inl ⟨rfl, h1⟩)
      · exact .inr (by omega)
    · exact h.foot b (.inr hb)
  · rcases hNX b hb with h1 | h1
    · exact s3 rfl b h1 c hc
    · have := (h.sub c).lt hc; omega
  · rcases hNX b hb with h1 | h1
    · exact s4 c b hf h1
    · have := (h.sub c).lt hf.all; omega
/-- a kid has become another tree: the node itself stays as it was -/
theorem ResH.kid {a : Nat} (ht : Tree w (.node a ow p val uks kids)) (hs : (T.node a ow p val uks kids).Sep o) (hm : Mt w mt n) {c0 : UInt8} {t2 : T} {n2 : Nat} (h : Res w w1 o (kids c0) t2 mt n2) :
    ResH w w1 o (.node a ow p val uks kids) a ow p val uks (ptrs kids) (updT kids c0 t2) mt n2 := by
  obtain ⟨s1, s2, s3, s4⟩ := hs
  have hz := h.ext.size
  have hlt : ∀ b, NX a uks b → b < w.heap.size := fun b hb => ht.lt (.inl hb)
  have hltk : ∀ c b, (kids c).All b → b < w.heap.size := fun c b hb => (ht.2 c).lt hb
  have hnb : NB w (fun b => MX mt b ∨ (kids c0).Foot o b) := hm.nb.or (Foot.nb (ht.2 c0))
  have hx : ∀ b, NX a uks b → ¬ (MX mt b ∨ (kids c0).Foot o b) := fun b hb hx => by
    rcases hx with hx | hx
    · exact mt_all ht hm (.inl hb) hx
    · exact s4 c0 b hx hb
  have h2 : ∀ b, t2.All b → (kids c0).All b ∨ w.heap.size ≤ b := h.all
  refine ⟨ht.1.ext h.ext hnb (hx a (.inl rfl)) fun b hb => hx b (.inr hb), fun c => ?_, ?_, h.cnt, fun b hb => ?_, fun b hb => ?_, ⟨fun c => ?_, fun c d hcd b hb hb2 => ?_, fun hoo b hb c hc => ?_, fun c b hf hb => ?_⟩⟩
  · unfold updT; split
    · exact h.tree
    · rename_i hc
      refine (ht.2 c).ext h.ext hnb fun b hb hx => ?_
      rcases hx with hx | hx
      · exact mt_all (ht.2 c) hm hb hx
      · exact s2 c0 c (Ne.symm hc) b hx hb
  · exact h.ext.mono fun b _ hb => hb.elim .inl fun hb => .inr (.inr ⟨c0, hb⟩)
  · rcases hb with hb | ⟨c, hb⟩
    · exact .inl (.inl hb)
    · unfold updT at hb; split at hb
      · exact (h2 b hb).elim (fun h => .inl (.inr ⟨c0, h⟩)) .inr
      · exact .inl (.inr ⟨c, hb⟩)
  · rcases hb with hb | ⟨c, hb⟩
    · exact .inl (.inl hb)
    · unfold updT at hb; split at hb
      · exact (h.foot b hb).elim (fun h => .inl (.inr ⟨c0, h⟩)) .inr
      · exact .inl (.inr ⟨c, hb⟩)
  · unfold updT; split
    · exact h.sep
    · exact s1 c
  · unfold updT at hb hb2
    by_cases hc : c = c0
    · subst hc
      rw [if_pos rfl] at hb
      rw [if_neg (fun e => hcd e.symm)] at hb2
      rcases h.foot b hb with h3 | h3
      · exact s2 c d hcd b h3 hb2
      · have := hltk d b hb2; omega
    · rw [if_neg hc] at hb
      split at hb2
      · rename_i hd
        subst hd
        rcases h2 b hb2 with h3 | h3
        · exact s2 c d hcd b hb h3
        · have := hltk c b hb.all; omega
      · exact s2 c d hcd b hb hb2
  · unfold updT at hc; split at hc
    · rcases h2 b hc with h3 | h3
      · exact s3 hoo b hb c0 h3
      · have := hlt b hb; omega
    · exact s3 hoo b hb c hc
  · unfold updT at hf; split at hf
    · rcases h.foot b hf with h3 | h3
      · exact s4 c0 b h3 hb
      · have := hlt b hb; omega
    · exact s4 c b hf hb
end
end Go.Proofs.YtidkkkdlaclolaaGreat
end
end
