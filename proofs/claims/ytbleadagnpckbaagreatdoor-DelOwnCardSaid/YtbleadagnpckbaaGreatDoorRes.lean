/-  writes, step by step: a node that the owner may write to, its value, part and kids.  -/
import Derived.Test.YtbleadagnpckbaaGreatDoorOwn
section
namespace Go.Proofs.YtbleadagnpckbaaGreatDoor
open Go Go.RowKit X
set_option linter.unusedSimpArgs false
set_option linter.unusedVariables false
set_option linter.unusedSectionVars false
variable [Floor]

section
variable {w w1 : World} {o u : Nat} {t : T} {p : Key} {val : Option Nat} {uks : List Nat} {kids : UInt8 → T} {mt : Option Mtr} {n : Nat}
theorem Res.own_lt (h : Res w w1 o t (.node u o p val uks kids) mt n) {b : Nat} (hb : NX u uks b) : t.Foot o b ∨ w.heap.size ≤ b := h.foot b (.inl ⟨rfl, hb⟩)
theorem Res.lt (h : Res w w1 o t (.node u o p val uks kids) mt n) {b : Nat} (hb : NX u uks b) : b < w1.heap.size := h.tree.lt (.inl hb)
/-- the node's own block is written: all else stays -/
theorem Res.stU (h : Res w w1 o t (.node u o p val uks kids) mt n) {w2 : World} {p' : Key} {val' : Option Nat} (hna : NA w2 u o p' val' uks (ptrs kids)) (he : Ext (· = u) w1 w2) : Res w w2 o t (.node u o p' val' uks kids) mt n := by
  obtain ⟨pv, hb, -⟩ := h.tree.1.blk
  obtain ⟨s1, s2, s3, s4⟩ := h.sep
  refine ⟨⟨hna, fun c => ?_⟩, ?_, ?_, h.all, h.foot, ⟨s1, s2, s3, s4⟩⟩
  · refine (h.tree.2 c).ext he (fun b e _ => ?_) fun b hb' e => ?_
    · have e : b = u := e
      subst e
      exact ⟨h.tree.1.new.1, _, _, hb, by decide⟩
    · have e : b = u := e
      subst e
      exact s3 rfl b (.inl rfl) c hb'
  · refine h.ext.trans he fun b hb' e => ?_
    have e : b = u := e
    subst e
    rcases h.own_lt (.inl rfl) with h1 | h1
    · exact .inr h1
    · omega
  · exact h.cnt.ext he fun b hb' e => by
      have e : b = u := e
      subst e
      exact h.cnt.ne hb (by decide) hb'
theorem c_RVal (h : Res w w1 o t (.node u o p val uks kids) mt n) (ho : o ≠ 0) {x : Nat} (hx : x < 18446744073709551616) : Ret P n_node_Node_SetVal [rp u, .int .u64 o, .int .u64 x] w1 fun _ w2 => Res w w2 o t (.node u o p (some x) uks kids) mt n ∧ Ext (· = u) w1 w2 := by
  refine (c_NSetVal h.tree.1 ho rfl hx).mono ?_
  rintro r w2 ⟨h1, h2⟩
  exact ⟨h.stU h1 h2, h2⟩
theorem c_RDropVal (h : Res w w1 o t (.node u o p val uks kids) mt n) (ho : o ≠ 0) (hne : uks ≠ []) (hv : val.isSome) : Ret P n_node_Node_DropVal [rp u, .int .u64 o] w1 fun _ w2 => Res w w2 o t (.node u o p none uks kids) mt n ∧ Ext (· = u) w1 w2 := by
  refine (c_NDropVal h.tree.1 ho rfl hne hv).mono ?_
  rintro r w2 ⟨h1, h2⟩
  exact ⟨h.stU h1 h2, h2⟩
theorem c_RPart (h : Res w w1 o t (.node u o p val uks kids) mt n) (ho : o ≠ 0) {v : Value} {bs : Key} (hv : Bs w1 v bs) (hs : bs.length ≤ 65535) : Ret P n_node_Node_SetPart [rp u, .int .u64 o, v] w1 fun _ w2 => Res w w2 o t (.node u o bs val uks kids) mt n ∧ Ext (· = u) w1 w2 := by
  refine (c_NSetPart h.tree.1 ho rfl hv hs).mono ?_
  rintro r w2 ⟨h1, h2⟩
  exact ⟨h.stU h1 h2, h2⟩
/-- a kid is set -/
theorem c_RKid (h : Res w w1 o t (.node u o p val uks kids) mt n) (ho : o ≠ 0) (hne : uks ≠ []) {c0 : UInt8} {t2 : T} {a2 : Nat} (hp : t2.ptr = some ⟨a2, 0, none⟩) (ht2 : Tree w1 t2) (hs2 : t2.Sep o) (hall : ∀ b, t2.All b → t.All b ∨ w.heap.size ≤ b) (hfoot : ∀ b, t2.Foot o b → t.Foot o b ∨ w.heap.size ≤ b)
    (hu : ∀ b, t2.All b → ¬ NX u uks b) (hd : ∀ c, c ≠ c0 → ∀ b, t2.Foot o b → ¬ (kids c).All b) (hd2 : ∀ c, c ≠ c0 → ∀ b, (kids c).Foot o b → ¬ t2.All b) :
    Ret P n_node_Node_SetKid [rp u, .int .u64 o, bv c0, rp a2] w1 fun _ w2 => ∃ uks', Res w w2 o t (.node u o p val uks' (updT kids c0 t2)) mt n ∧ uks' ≠ [] ∧ Ext (· ∈ uks) w1 w2 ∧ Sub uks uks' w1.heap.size := by
  refine (c_NSetKid h.tree.1 ho rfl hne).mono ?_
  rintro r w2 ⟨uks', hna, hne', he, hsub⟩
  obtain ⟨s1, s2, s3, s4⟩ := h.sep
  have hz := h.ext.size
  have hz2 := he.size
  have hnb : NB w1 (· ∈ uks) := fun b hb _ => by
    obtain ⟨cs, T', h3, h4⟩ := h.tree.1.kd.ty b hb
    exact ⟨h.tree.1.new.2 b hb, cs, T', h3, h4.ne.1⟩
  have hNX : ∀ b, NX u uks' b → NX u uks b ∨ w1.heap.size ≤ b := fun b hb => by
    rcases hb with hb | hb
    · exact .inl (.inl hb)
    · rcases hsub b hb with h1 | h1
      · exact .inl (.inr h1)
      · exact .inr h1
  have htk : ∀ c, Tree w1 (updT kids c0 t2 c) := fun c => by
    unfold updT; split
    · exact ht2
    · exact h.tree.2 c
  have huk : ∀ c b, (updT kids c0 t2 c).All b → ¬ NX u uks b := fun c b hb hx => by
    unfold updT at hb; split at hb
    · exact hu b hb hx
    · exact s3 rfl b hx c hb
  refine ⟨uks', ⟨⟨?_, fun c => (htk c).ext he hnb fun b hb hx => huk c b hb (.inr hx)⟩, ?_, ?_, fun b hb => ?_, fun b hb => ?_, ⟨fun c => ?_, fun c d hcd b hb hb2 => ?_, fun _ b hb c hc => ?_, fun c b hf hb => ?_⟩⟩, hne', he, hsub⟩
  · rw [updT_ptr, hp]; exact hna
  · refine h.ext.trans he fun b hb hx => ?_
    rcases h.own_lt (.inr hx) with h1 | h1
    · exact .inr h1
    · omega
  · exact h.cnt.ext he fun b hb hx => by
      obtain ⟨cs, T', h3, h4⟩ := h.tree.1.kd.ty b hx
      exact h.cnt.ne h3 h4.ne.2.2 hb
  · rcases hb with hb | ⟨c, hb⟩
    · rcases hNX b hb with h1 | h1
      · exact h.all b (.inl h1)
      · exact .inr (by omega)
    · unfold updT at hb; split at hb
      · exact hall b hb
      · exact h.all b (.inr ⟨c, hb⟩)
  · rcases hb with ⟨-, hb⟩ | ⟨c, hb⟩
    · rcases hNX b hb with h1 | h1
      · exact h.foot b (.inl ⟨rfl, h1⟩)
      · exact .inr (by omega)
    · unfold updT at hb; split at hb
      · exact hfoot b hb
      · exact h.foot b (.inr ⟨c, hb⟩)
  · unfold updT; split
    · exact hs2
    · exact s1 c
  · unfold updT at hb hb2
    by_cases hc : c = c0
    · subst hc
      rw [if_pos rfl] at hb
      rw [if_neg (fun e => hcd e.symm)] at hb2
      exact hd d (fun e => hcd e.symm) b hb hb2
    · rw [if_neg hc] at hb
      split at hb2
      · exact hd2 c hc b hb hb2
      · exact s2 c d hcd b hb hb2
  · rcases hNX b hb with h1 | h1
    · exact huk c b hc h1
    · have := (htk c).lt hc; omega
  · rcases hNX b hb with h1 | h1
    · exact huk c b hf.all h1
    · have := (htk c).lt hf.all; omega
/-- a kid is dropped -/
theorem c_RDropKid (h : Res w w1 o t (.node u o p val uks kids) mt n) (ho : o ≠ 0) (hne : uks ≠ []) {c0 : UInt8} (hp : (kids c0).ptr.isSome) :
    Ret P n_node_Node_DropKid [rp u, .int .u64 o, bv c0] w1 fun _ w2 => ∃ uks', Res w w2 o t (.node u o p val uks' (updT kids c0 .nil)) mt n ∧ uks' ≠ [] ∧ Ext (· ∈ uks) w1 w2 ∧ Sub uks uks' w1.heap.size := by
  refine (c_NDropKid h.tree.1 ho rfl hne hp).mono ?_
  rintro r w2 ⟨uks', hna, hne', he, hsub⟩
  obtain ⟨s1, s2, s3, s4⟩ := h.sep
  have hz := h.ext.size
  have hz2 := he.size
  have hnb : NB w1 (· ∈ uks) := fun b hb _ => by
    obtain ⟨cs, T', h3, h4⟩ := h.tree.1.kd.ty b hb
    exact ⟨h.tree.1.new.2 b hb, cs, T', h3, h4.ne.1⟩
  have hNX : ∀ b, NX u uks' b → NX u uks b ∨ w1.heap.size ≤ b := fun b hb => by
    rcases hb with hb | hb
    · exact .inl (.inl hb)
    · rcases hsub b hb with h1 | h1
      · exact .inl (.inr h1)
      · exact .inr h1
  have htk : ∀ c, Tree w1 (updT kids c0 .nil c) := fun c => by
    unfold updT; split
    · trivial
    · exact h.tree.2 c
  have hsub2 : ∀ c b, (updT kids c0 .nil c).All b → (kids c).All b := fun c b hb => by
    unfold updT at hb; split at hb
    · exact hb.elim
    · exact hb
  have hsub3 : ∀ c b, (updT kids c0 .nil c).Foot o b → (kids c).Foot o b := fun c b hb => by
    unfold updT at hb; split at hb
    · exact hb.elim
    · exact hb
  refine ⟨uks', ⟨⟨?_, fun c => (htk c).ext he hnb fun b hb hx => s3 rfl b (.inr hx) c (hsub2 c b hb)⟩, ?_, ?_, fun b hb => ?_, fun b hb => ?_, ⟨fun c => ?_, fun c d hcd b hb hb2 => s2 c d hcd b (hsub3 c b hb) (hsub2 d b hb2), fun _ b hb c hc => ?_, fun c b hf hb => ?_⟩⟩, hne', he, hsub⟩
  · rw [updT_ptr]; exact hna
  · refine h.ext.trans he fun b hb hx => ?_
    rcases h.own_lt (.inr hx) with h1 | h1
    · exact .inr h1
    · omega
  · exact h.cnt.ext he fun b hb hx => by
      obtain ⟨cs, T', h3, h4⟩ := h.tree.1.kd.ty b hx
      exact h.cnt.ne h3 h4.ne.2.2 hb
  · rcases hb with hb | ⟨c, hb⟩
    · rcases hNX b hb with h1 | h1
      · exact h.all b (.inl h1)
      · exact .inr (by omega)
    · exact h.all b (.inr ⟨c, hsub2 c b hb⟩)
  · rcases hb with ⟨-, hb⟩ | ⟨c, hb⟩
    · rcases hNX b hb with h1 | h1
      · exact h.foot b (.inl ⟨rfl, h1⟩)
      · exact .inr (by omega)
    · exact h.foot b (.inr ⟨c, hsub3 c b hb⟩)
  · unfold updT; split
    · trivial
    · exact s1 c
  · rcases hNX b hb with h1 | h1
    · exact s3 rfl b h1 c (hsub2 c b hc)
    · have := (htk c).lt hc; omega
  · rcases hNX b hb with h1 | h1
    · exact s3 rfl b h1 c (hsub2 c b hf.all)
    · have := (htk c).lt hf.all; omega
end
end Go.Proofs.YtbleadagnpckbaaGreatDoor
end
section
namespace Go.Proofs.YtbleadagnpckbaaGreatDoor
open Go Go.RowKit X
set_option linter.unusedSimpArgs false
set_option linter.unusedVariables false
set_option linter.unusedSectionVars false
variable [Floor]

/-- as Res of a node; but its kids' pointers in memory are m -/
structure ResH (w w' : World) (o : Nat) (t : T) (u ow : Nat) (p : Key) (val : Option Nat) (uks : List Nat) (m : UInt8 → Option Addr) (kids : UInt8 → T) (mt : Option Mtr) (n : Nat) : Prop where
  na : NA w' u ow p val uks m
  sub : ∀ c, Tree w' (kids c)
  ext : Ext (fun b => MX mt b ∨ t.Foot o b) w w'
  cnt : Mt w' mt n
  all : ∀ b, (T.node u ow p val uks kids).All b → t.All b ∨ w.heap.size ≤ b
  foot : ∀ b, (T.node u ow p val uks kids).Foot o b → t.Foot o b ∨ w.heap.size ≤ b
  sep : (T.node u ow p val uks kids).Sep o
section
variable {w w1 : World} {o u ow : Nat} {t : T} {p : Key} {val : Option Nat} {uks : List Nat} {m : UInt8 → Option Addr} {kids : UInt8 → T} {mt : Option Mtr} {n : Nat}
theorem ResH.res (h : ResH w w1 o t u ow p val uks m kids mt n) (hm : m = ptrs kids) : Res w w1 o t (.node u ow p val uks kids) mt n := by
  subst hm
  exact ⟨⟨h.na, h.sub⟩, h.ext, h.cnt, h.all, h.foot, h.sep⟩
theorem Res.h (h : Res w w1 o t (.node u ow p val uks kids) mt n) : ResH w w1 o t u ow p val uks (ptrs kids) kids mt n := ⟨h.tree.1, h.tree.2, h.ext, h.cnt, h.all, h.foot, h.sep⟩
/-- nothing done yet -/
theorem Res.start (ht : Tree w t) (hs : t.Sep o) (hm : Mt w mt n) : Res w w o t t mt n := ⟨ht, Ext.refl _ _, hm, fun b h => .inl h, fun b h => .inl h, hs⟩
theorem Res.extN {t' : T} (h : Res w w1 o t t' mt n) {w2 : World} (e : Ext No w1 w2) : Res w w2 o t t' mt n := ⟨h.tree.extN e, h.ext.transN e, h.cnt.extN e, h.all, h.foot, h.sep⟩
theorem ResH.extN (h : ResH w w1 o t u ow p val uks m kids mt n) {w2 : World} (e : Ext No w1 w2) : ResH w w2 o t u ow p val uks m kids mt n := ⟨h.na.extN e, fun c => (h.sub c).extN e, h.ext.transN e, h.cnt.extN e, h.all, h.foot, h.sep⟩
theorem c_HOwn (h : ResH w w1 o t u ow p val uks m kids mt n) (ho : o ≠ 0) : Ret P n_node_Node_Own [rp u, mv mt, .int .u64 o] w1 fun v w2 =>
    ∃ u' uks' n', v = rp u' ∧ ResH w w2 o t u' o p val uks' m kids mt n' ∧ (uks' = [] ↔ uks = []) ∧ Ext (MX mt) w1 w2 ∧ n' ≤ n + 1 ∧ (o = ow → u' = u ∧ uks' = uks ∧ n' = n) := by
  refine (c_Own (o := o) h.na h.cnt).mono ?_
  rintro v w2 ⟨u', uks', rfl, hna, hiff, ⟨-, rfl, rfl, rfl, rfl⟩ | ⟨hno, hfr, hm2, he2⟩⟩
  · exact ⟨u', uks', n, rfl, h, Iff.rfl, Ext.refl _ _, by omega, fun _ => ⟨rfl, rfl, rfl⟩⟩
  · obtain ⟨s1, s2, s3, s4⟩ := h.sep
    have hz := h.ext.size
    refine ⟨u', uks', n + 1, rfl, ⟨hna, fun c => (h.sub c).extM h.cnt he2, h.ext.transS (he2.mono fun b _ hb => .inl hb), hm2, fun b hb => ?_, fun b hb => ?_, ⟨s1, s2, fun _ b hb c hc => ?_, fun c b hf hb => ?_⟩⟩, hiff, he2, by omega, fun e => absurd ⟨ho, e⟩ hno⟩
    · rcases hb with hb | hb
      · exact .inr (by have := hfr b hb; omega)
      · exact h.all b (.inr hb)
    · rcases hb with ⟨-, hb⟩ | hb
      · exact .inr (by have := hfr b hb; omega)
      · exact h.foot b (.inr hb)
    · have := hfr b hb; have := (h.sub c).lt hc; omega
    · have := hfr b hb; have := (h.sub c).lt hf.all; omega
/-- the pointer is set to the kid that stands there -/
theorem c_HSet (h : ResH w w1 o t u o p val uks m kids mt n) (ho : o ≠ 0) (hne : uks ≠ []) {c0 : UInt8} {a2 : Nat} (hp : (kids c0).ptr = some ⟨a2, 0, none⟩) (hm : ∀ c, c ≠ c0 → m c = (kids c).ptr) :
    Ret P n_node_Node_SetKid [rp u, .int .u64 o, bv c0, rp a2] w1 fun _ w2 => ∃ uks', Res w w2 o t (.node u o p val uks' kids) mt n ∧ uks' ≠ [] ∧ Ext (· ∈ uks) w1 w2 := by
  refine (c_NSetKid h.na ho rfl hne).mono ?_
  rintro r w2 ⟨uks', hna, hne', he, hsub⟩
  obtain ⟨s1, s2, s3, s4⟩ := h.sep
  have hz := h.ext.size
  have hz2 := he.size
  have hnb : NB w1 (· ∈ uks) := fun b hb _ => by
    obtain ⟨cs, T', h3, h4⟩ := h.na.kd.ty b hb
    exact ⟨h.na.new.2 b hb, cs, T', h3, h4.ne.1⟩
  have hNX : ∀ b, NX u uks' b → NX u uks b ∨ w1.heap.size ≤ b := fun b hb => by
    rcases hb with hb | hb
    · exact .inl (.inl hb)
    · rcases hsub b hb with h1 | h1
      · exact .inl (.inr h1)
      · exact .inr h1
  have hmm : upd m c0 (some ⟨a2, 0, none⟩) = ptrs kids := by
    funext c
    by_cases e : c = c0
    · subst e; rw [upd_same]; exact hp.symm
    · rw [upd_other m _ e]; exact hm c e
  rw [hmm] at hna
  refine ⟨uks', ⟨⟨hna, fun c => (h.sub c).ext he hnb fun b hb hx => s3 rfl b (.inr hx) c hb⟩, ?_, ?_, fun b hb => ?_, fun b hb => ?_, ⟨s1, s2, fun _ b hb c hc => ?_, fun c b hf hb => ?_⟩⟩, hne', he⟩
  · refine h.ext.trans he fun b hb hx => ?_
    rcases h.foot b (.inl ⟨rfl, .inr hx⟩) with h1 | h1
    · exact .inr h1
    · omega
  · exact h.cnt.ext he fun b hb hx => by
      obtain ⟨cs, T', h3, h4⟩ := h.na.kd.ty b hx
      exact h.cnt.ne h3 h4.ne.2.2 hb
  · rcases hb with hb | hb
    · rcases hNX b hb with h1 | h1
      · exact h.all b (.inl h1)
      · exact .inr (by omega)
    · exact h.all b (.inr hb)
  · rcases hb with ⟨-, hb⟩ | hb
    · rcases hNX b hb with h1 | h1
      · exact h.foot b (.inl ⟨rfl, h1⟩)
      · exact .inr (by omega)
    · exact h.foot b (.inr hb)
  · rcases hNX b hb with h1 | h1
    · exact s3 rfl b h1 c hc
    · have := (h.sub c).lt hc; omega
  · rcases hNX b hb with h1 | h1
    · exact s4 c b hf h1
    · have := (h.sub c).lt hf.all; omega
/-- a kid has become another tree: the node itself stays as it was -/
theorem ResH.kid {a : Nat} (ht : Tree w (.node a ow p val uks kids)) (hs : (T.node a ow p val uks kids).Sep o) (hm : Mt w mt n) {c0 : UInt8} {t2 : T} {n2 : Nat} (h : Res w w1 o (kids c0) t2 mt n2) :
    ResH w w1 o (.node a ow p val uks kids) a ow p val uks (ptrs kids) (updT kids c0 t2) mt n2 := by
  obtain ⟨s1, s2, s3, s4⟩ := hs
  have hz := h.ext.size
  have hlt : ∀ b, NX a uks b → b < w.heap.size := fun b hb => ht.lt (.inl hb)
  have hltk : ∀ c b, (kids c).All b → b < w.heap.size := fun c b hb => (ht.2 c).lt hb
  have hnb : NB w (fun b => MX mt b ∨ (kids c0).Foot o b) := hm.nb.or (Foot.nb (ht.2 c0))
  have hx : ∀ b, NX a uks b → ¬ (MX mt b ∨ (kids c0).Foot o b) := fun b hb hx => by
    rcases hx with hx | hx
    · exact mt_all ht hm (.inl hb) hx
    · exact s4 c0 b hx hb
  have h2 : ∀ b, t2.All b → (kids c0).All b ∨ w.heap.size ≤ b := h.all
  refine ⟨ht.1.ext h.ext hnb (hx a (.inl rfl)) fun b hb => hx b (.inr hb), fun c => ?_, ?_, h.cnt, fun b hb => ?_, fun b hb => ?_, ⟨fun c => ?_, fun c d hcd b hb hb2 => ?_, fun hoo b hb c hc => ?_, fun c b hf hb => ?_⟩⟩
  · unfold updT; split
    · exact h.tree
    · rename_i hc
      refine (ht.2 c).ext h.ext hnb fun b hb hx => ?_
      rcases hx with hx | hx
      · exact mt_all (ht.2 c) hm hb hx
      · exact s2 c0 c (Ne.symm hc) b hx hb
  · exact h.ext.mono fun b _ hb => hb.elim .inl fun hb => .inr (.inr ⟨c0, hb⟩)
  · rcases hb with hb | ⟨c, hb⟩
    · exact .inl (.inl hb)
    · unfold updT at hb; split at hb
      · exact (h2 b hb).elim (fun h => .inl (.inr ⟨c0, h⟩)) .inr
      · exact .inl (.inr ⟨c, hb⟩)
  · rcases hb with hb | ⟨c, hb⟩
    · exact .inl (.inl hb)
    · unfold updT at hb; split at hb
      · exact (h.foot b hb).elim (fun h => .inl (.inr ⟨c0, h⟩)) .inr
      · exact .inl (.inr ⟨c, hb⟩)
  · unfold updT; split
    · exact h.sep
    · exact s1 c
  · unfold updT at hb hb2
    by_cases hc : c = c0
    · subst hc
      rw [if_pos rfl] at hb
      rw [if_neg (fun e => hcd e.symm)] at hb2
      rcases h.foot b hb with h3 | h3
      · exact s2 c d hcd b h3 hb2
      · have := hltk d b hb2; omega
    · rw [if_neg hc] at hb
      split at hb2
      · rename_i hd
        subst hd
        rcases h2 b hb2 with h3 | h3
        · exact s2 c d hcd b hb h3
        · have := hltk c b hb.all; omega
      · exact s2 c d hcd b hb hb2
  · unfold updT at hc; split at hc
    · rcases h2 b hc with h3 | h3
      · exact s3 hoo b hb c0 h3
      · have := hlt b hb; omega
    · exact s3 hoo b hb c hc
  · unfold updT at hf; split at hf
    · rcases h.foot b hf with h3 | h3
      · exact s4 c0 b h3 hb
      · have := hlt b hb; omega
    · exact s4 c b hf hb
end
end Go.Proofs.YtbleadagnpckbaaGreatDoor
end
