/-  versions of a world: what is true of all of them, and what an operation leaves of it.  -/
import Derived.Test.YtlhjfenpmnejoaaGreatG1
import Derived.Test.YtlhjfenpmnejoaaGreatList
import Derived.Test.YtlhjfenpmnejoaaGreatDet
import Derived.Test.YtlhjfenpmnejoaaGreatOnce
import Derived.Test.YtlhjfenpmnejoaaGreatSAt
section
namespace Go.Proofs.YtlhjfenpmnejoaaGreat
open Go Go.RowKit X
set_option linter.unusedSimpArgs false
set_option linter.unusedVariables false
set_option linter.unusedSectionVars false
variable [Floor]
theorem Ps.none (w : World) : Ps w (.slice none 0 0) [] := ⟨T_api_Pair, [], .inl rfl, Sl.nil, PC.nil w⟩
theorem Pr.nil : Pr [] := ⟨List.Pairwise.nil, (fun p h => by cases h), by simp⟩
theorem xpne_vb {w : World} {b : Nat} {K : Value → Prop} (k : K (.bool true)) : xPNe P w (rp b) (.pointer none) K := k
theorem xpeq_vb {w : World} {b : Nat} {K : Value → Prop} (k : K (.bool false)) : xPEq P w (rp b) (.pointer none) K := k
theorem xpeq_rp {w : World} {b : Nat} {K : Value → Prop} (k : K (.bool true)) : xPEq P w (rp b) (rp b) K := xsame (t := true) (run_sameAddr_same _ _) k
theorem xpne_rp {w : World} {b : Nat} {K : Value → Prop} (k : K (.bool false)) : xPNe P w (rp b) (rp b) K := xsame (t := true) (run_sameAddr_same _ _) k
/-- the meter of a world, and its owners -/
abbrev wmt (wb j : Nat) : Mtr := ⟨wb, [.int .u64 j], T_tree_World⟩
abbrev verC (wb : Nat) (t : T) (d c : Nat) (b : Bool) : List Value := [rp wb, t.v, .int .u32 d, .int .i32 0, .int .u32 0, .int .i64 c, .bool b]
/-- the types of what versions, transients and trees lie in -/
def VTy (T : TypeId) : Prop := T = T_tree_World ∨ T = T_tree_Version ∨ T = T_trans_Trans ∨ T = T_node_Node ∨ KT T
/-- what is written is of these types -/
def NV (w : World) (Y : Nat → Prop) : Prop := ∀ b, Y b → b < w.heap.size → Floor.n ≤ b ∧ ∃ cs T', Blk w b cs T' ∧ VTy T'
/-- what is written is no bytes, no pairs, and nothing from before -/
structure VE (B : Nat) (w w' : World) : Prop where
  out : ∃ Y, Ext Y w w' ∧ NV w Y ∧ ∀ b, Y b → B ≤ b
theorem NV.nbt {w : World} {Y : Nat → Prop} {T : TypeId} (h : NV w Y) (hT : ¬ VTy T) : NBT T w Y := fun b hb hl => let ⟨h1, cs, T', h2, h3⟩ := h b hb hl; ⟨h1, cs, T', h2, fun e => hT (e ▸ h3)⟩
theorem NV.nbp {w : World} {Y : Nat → Prop} (h : NV w Y) : NBP w Y := ⟨h.nbt (by unfold VTy KT; decide), h.nbt (by unfold VTy KT; decide), h.nbt (by unfold VTy KT; decide)⟩
theorem NV.back {w w1 : World} {Y1 Y2 : Nat → Prop} (e : Ext Y1 w w1) (h1 : NV w Y1) (h2 : NV w1 Y2) : NV w Y2 := fun b hb hlt => by
  by_cases hy : Y1 b
  · exact h1 b hy hlt
  · obtain ⟨h3, cs, T', h4, h5⟩ := h2 b hb (by have := e.size; omega)
    exact ⟨h3, cs, T', ⟨by rw [← e.same b hlt hy]; exact h4.h⟩, h5⟩
theorem NV.no (w : World) : NV w No := fun _ h => h.elim
theorem NV.imp {w : World} {X Y : Nat → Prop} (h : NV w X) (hx : ∀ b, Y b → X b) : NV w Y := fun b hb hl => h b (hx b hb) hl
theorem NV.or {w : World} {X Y : Nat → Prop} (h : NV w X) (h' : NV w Y) : NV w (fun b => X b ∨ Y b) := fun b hb hl => hb.elim (fun hb => h b hb hl) fun hb => h' b hb hl
theorem NV.blk {w : World} {b : Nat} {cs : List Value} {T : TypeId} (h : Blk w b cs T) (hT : VTy T) (hb : Floor.n ≤ b) : NV w (· = b) := fun c hc _ => by
  have e : c = b := hc
  subst e
  exact ⟨hb, cs, T, h, hT⟩
section
variable {B : Nat} {w w1 w2 : World}
theorem VE.no (e : Ext No w w1) : VE B w w1 := ⟨No, e, NV.no w, fun _ h => h.elim⟩
theorem VE.refl (w : World) : VE B w w := VE.no (Ext.refl _ _)
theorem VE.trans (h : VE B w w1) (k : VE B w1 w2) : VE B w w2 := by
  obtain ⟨Y1, e1, n1, b1⟩ := h.out
  obtain ⟨Y2, e2, n2, b2⟩ := k.out
  refine ⟨fun b => Y1 b ∨ Y2 b, (e1.mono fun b _ h => .inl h).trans e2 fun b hb h => .inr h, n1.or (NV.back e1 n1 n2), fun b hb => hb.elim (b1 b) (b2 b)⟩
theorem VE.transN (h : VE B w w1) (k : Ext No w1 w2) : VE B w w2 := h.trans (VE.no k)
theorem VE.size (h : VE B w w1) : w.heap.size ≤ w1.heap.size := let ⟨_, e, _⟩ := h.out; e.size
theorem VE.bs {v : Value} {k : Key} (h : VE B w w1) (hk : Bs w v k) : Bs w1 v k := let ⟨_, e, n, _⟩ := h.out; hk.ext e n.nbp.b
theorem VE.ps {v : Value} {l : Kv} (h : VE B w w1) (hk : Ps w v l) : Ps w1 v l := let ⟨_, e, n, _⟩ := h.out; hk.ext e n.nbp
theorem VE.lw (h : VE B w w1) (hB : Floor.n ≤ B) (hk : Lw w) : Lw w1 := let ⟨_, e, n, b⟩ := h.out; hk.ext e fun x hx => Nat.le_trans hB (b x hx)
theorem VE.start {w0 : World} (e0 : Ext No w0 w) (hB : w0.heap.size ≤ B) (h : VE B w w1) : Ext No w0 w1 := let ⟨_, e, n, b⟩ := h.out; e0.trans e fun x hx hy => by have := b x hy; omega
theorem VE.of {Y : Nat → Prop} (e : Ext Y w w1) (hn : NV w Y) (hb : ∀ b, Y b → B ≤ b) : VE B w w1 := ⟨Y, e, hn, hb⟩
end
/-- one version in memory -/
structure VB (B : Nat) (w : World) (wb j vb : Nat) (t : T) (l : Kv) : Prop where
  ge : B ≤ vb
  blk : ∃ d c b, Blk w vb (verC wb t d c b) T_tree_Version ∧ (d = 0 ∨ d = 1 ∧ c = l.length)
  ct : Ct w t l
  pr : Pr l
  own : t.OwQ (· ≤ j)
/-- a world, and all versions of it that count -/
structure VI (B : Nat) (w : World) (wb n j : Nat) (V : Nat → Option (T × Kv)) : Prop where
  lw : Lw w
  fl : Floor.n ≤ B
  mt : Mt w (some (wmt wb j)) n
  ge : B ≤ wb
  ver : ∀ vb t l, V vb = some (t, l) → VB B w wb j vb t l
def updV (V : Nat → Option (T × Kv)) (vb : Nat) (x : T × Kv) : Nat → Option (T × Kv) := fun b => if b = vb then some x else V b
theorem updV_same (V : Nat → Option (T × Kv)) (vb : Nat) (x : T × Kv) : updV V vb x vb = some x := by simp [updV]
theorem updV_other {V : Nat → Option (T × Kv)} {vb b : Nat} {x : T × Kv} (h : b ≠ vb) : updV V vb x b = V b := by simp [updV, h]
theorem updV_self {V : Nat → Option (T × Kv)} {vb : Nat} {x : T × Kv} (h : V vb = some x) : updV V vb x = V := by
  funext b
  by_cases e : b = vb
  · subst e; rw [updV_same, h]
  · exact updV_other e
theorem oth_ver : Oth T_tree_Version := by unfold Oth; decide
theorem oth_world : Oth T_tree_World := by unfold Oth; decide
section
variable {B : Nat} {w w1 w2 : World} {wb n j vb : Nat} {t : T} {l : Kv} {V : Nat → Option (T × Kv)}
theorem VB.ext {X : Nat → Prop} (h : VB B w wb j vb t l) (e : Ext X w w1) (nb : NB w X) (hv : ¬ X vb) (ha : ∀ b, t.All b → ¬ X b) {j' : Nat} (hj : j ≤ j') : VB B w1 wb j' vb t l := by
  obtain ⟨d, c, b, h1, h2⟩ := h.blk
  exact ⟨h.ge, ⟨d, c, b, h1.ext e hv, h2⟩, ⟨h.ct.tree.ext e nb ha, h.ct.can, h.ct.leafy⟩, h.pr, h.own.mono fun o ho => by omega⟩
theorem VI.extN (h : VI B w wb n j V) (e : Ext No w w1) : VI B w1 wb n j V :=
  ⟨h.lw.extN e, h.fl, h.mt.extN e, h.ge, fun vb t l hv => (h.ver vb t l hv).ext e (NB.no w) (fun h => h) (fun _ _ h => h) (Nat.le_refl _)⟩
theorem VI.wblk (h : VI B w wb n j V) : Blk w wb [.int .i64 (IntKind.i64.wrap n), .int .u64 j] T_tree_World := h.mt.blk
/-- the world's own block is written -/
theorem VI.step (h : VI B w wb n j V) {n' j' : Nat} (e : Ext (· = wb) w w1) (hm : Mt w1 (some (wmt wb j')) n') (hj : j ≤ j') : VI B w1 wb n' j' V := by
  have hb := h.wblk
  refine ⟨h.lw.ext e fun b hb => by have e : b = wb := hb; subst e; exact Nat.le_trans h.fl h.ge, h.fl, hm, h.ge, fun vb t l hv => ?_⟩
  have hV := h.ver vb t l hv
  obtain ⟨d, c, b, h1, h2⟩ := hV.blk
  refine hV.ext e (fun b hb hl => h.mt.nb b (show wb = b from hb.symm) hl) (fun hx => ?_) (fun b hb' hx => ?_) hj
  · have hx : vb = wb := hx
    subst hx
    exact absurd (h1.inj hb).2 (by decide)
  · have hx : b = wb := hx
    subst hx
    exact hV.ct.tree.not hb oth_world hb'
theorem VI.stepE (h : VI B w wb n j V) (e : Ext (· = wb) w w1) : VE B w w1 := VE.of e (NV.blk h.wblk (.inl rfl) (Nat.le_trans h.fl h.ge)) fun b hb => by have e : b = wb := hb; subst e; exact h.ge
theorem VI.new (h : VI B w wb n j V) : V w.heap.size = none := by
  cases hv : V w.heap.size with
  | none => rfl
  | some x =>
    obtain ⟨t, l⟩ := x
    obtain ⟨d, c, b, h1, -⟩ := (h.ver _ t l hv).blk
    have := h1.lt
    omega
/-- a version more -/
theorem VI.add (h : VI B w wb n j V) (hv : VB B w wb j vb t l) : VI B w wb n j (updV V vb (t, l)) :=
  ⟨h.lw, h.fl, h.mt, h.ge, fun b t' l' hb => by
    by_cases e : b = vb
    · subst e
      rw [updV_same] at hb
      obtain ⟨rfl, rfl⟩ := by simpa using hb
      exact hv
    · rw [updV_other e] at hb
      exact h.ver b t' l' hb⟩
theorem wrap64 {j : Nat} : IntKind.u64.wrap (j : Int) = ((j % 18446744073709551616 : Nat) : Int) := by
  simp [IntKind.wrap, IntKind.bits, IntKind.signed]
set_option maxRecDepth 100000 in
theorem c_WOwner (hm : Mt w (some (wmt wb j)) n) (hj : j + 1 < 18446744073709551616) : Ret P n_tree_World_Owner [rp wb] w fun v w' => v = .int .u64 (j + 1 : Nat) ∧ Mt w' (some (wmt wb (j + 1))) n ∧ Ext (· = wb) w w' := by
  have hb : Blk w wb [.int .i64 (IntKind.i64.wrap n), .int .u64 j] T_tree_World := hm.blk
  obtain ⟨hfl, -, -⟩ := hm.at_ _ rfl
  refine W_tree_World_Owner ?_
  refine xifF rfl ?_
  show Ret P n_meter_Owners_Next [.pointer (some ⟨wb, 1, none⟩)] w _
  refine W_meter_Owners_Next ?_
  refine xifF rfl ?_
  show Ret P n_atomic_Uint64_Add [.pointer (some ⟨wb, 1, none⟩), .int .u64 1] w _
  refine W_atomic_Uint64_Add ?_
  simp only [S_atomic_Uint64_Add, xAt]
  refine xext (e := Extern.Atomic.update (Op.intArith .add) .u64 true) (by kernel_rfl) (by kernel_rfl) (by kernel_rfl) ?_
  have hc : w.cell? ⟨wb, 1, none⟩ = some (.int .u64 j) := by rw [hb.cell]; rfl
  refine ⟨.int .u64 (j + 1 : Nat), w.setCell ⟨wb, 1, none⟩ (.int .u64 (j + 1 : Nat)), ?_, ?_⟩
  · change Sem.run P (do
      let a' ← asAddr (.pointer (some ⟨wb, 1, none⟩))
      let old ← Extern.Atomic.read (.int .u64) a'
      let new ← Op.intArith .add .u64 (← asInt old) (← asInt (.int .u64 1))
      store a' new .atomic
      pure (if true = true then new else old)) w = _
    have hs : (Op.intArith .add .u64 (j : Int) 1).run P w = .ok (.int .u64 (j + 1 : Nat)) w := by
      have : IntKind.u64.wrap ((j : Int) + 1) = ((j + 1 : Nat) : Int) := by
        rw [show (j : Int) + 1 = ((j + 1 : Nat) : Int) by omega, wrap64, Nat.mod_eq_of_lt hj]
      simp only [Op.intArith]
      simp [this]
    generalize ((j + 1 : Nat) : Int) = r at hs ⊢
    simp [Extern.Atomic.read, asAddr, asInt, asIntOf, hc, hb.frozen, hs, run_store P w ⟨wb, 1, none⟩ (.int .u64 r) .atomic rfl, Result.andThen]
  · refine ⟨rfl, ?_, setCell_ext⟩
    have := setCell_blk (o := 1) (v := .int .u64 (j + 1 : Nat)) hb
    refine ⟨by simpa using hm.fl, fun m' hm2 => ?_⟩
    cases hm2
    exact ⟨hfl, .inr rfl, by simpa using this⟩
theorem c_WMeter : Ret P n_tree_World_Meter [rp wb] w fun v w' => v = mv (some (wmt wb j)) ∧ w' = w := by
  refine W_tree_World_Meter ?_
  exact xifF rfl ⟨rfl, rfl⟩
theorem c_WVersion : Ret P n_tree_World_Version [rp wb, t.v] w fun r w' => r = rp w.heap.size ∧ Blk w' w.heap.size (verC wb t 0 0 false) T_tree_Version ∧ Ext No w w' := by
  refine W_tree_World_Version ?_
  refine xifF rfl ?_
  show XNew w (verC wb t 0 0 false) T_tree_Version _
  refine xnew fun b w1 hb hblk hz he => ?_
  subst hb
  exact ⟨rfl, hblk, he⟩
/-- a new version of a tree -/
theorem VI.version (h : VI B w wb n j V) (hct : Ct w t l) (hp : Pr l) (how : t.OwQ (· ≤ j)) (hB : B ≤ w.heap.size) :
    Ret P n_tree_World_Version [rp wb, t.v] w fun r w' => r = rp w.heap.size ∧ VI B w' wb n j (updV V w.heap.size (t, l)) ∧ Ext No w w' := by
  refine c_WVersion.mono ?_
  rintro r w1 ⟨rfl, hblk, he⟩
  exact ⟨rfl, (h.extN he).add ⟨hB, ⟨0, 0, false, hblk, .inl rfl⟩, hct.extN he, hp, how⟩, he⟩
theorem VI.sizeB (h : VI B w wb n j V) : B ≤ w.heap.size := by have := h.wblk.lt; have := h.ge; omega
/-- trees are made -/
theorem c_BuildOk {v : Value} {mt : Option Mtr} {ow : Nat} (hv : Ps w v l) (hp : Pr l) (hm : Mt w mt n) (ho : ow ≠ 0) :
    Ret P n_canon_Build [mv mt, .int .u64 ow, v] w fun r w' => ∃ t, r = .tuple #[t.v, .int .i64 0] ∧ Ct w' t l ∧ t.Sep ow ∧ t.Owned ow ∧ (∀ b, t.All b → w.heap.size ≤ b) ∧ Mt w' mt (n + t.er.size) ∧ Ext (MX mt) w w' := by
  have hmany := hp.many
  refine W_canon_Build ?_
  refine (c_check hv (by omega)).mono ?_
  rintro r w2 ⟨⟨b, rfl, hb⟩, he2⟩
  have hck : checkN l b = 0 := by
    unfold checkN
    rw [if_pos hp.keys, hb.2 hp.rises]; rfl
  rw [hck]
  refine xifF rfl ?_
  refine (Go.Proofs.YtlhjfenpmnejoaaGreat.c_tree l.length (p := []) (Nat.le_refl _) (by omega) (hv.extN he2) hp.rises hp.keys (fun x _ => List.nil_prefix) (by simp) (hm.extN he2) ho).mono ?_
  rintro r w3 ⟨t, rfl, hR, hcan, hleaf, hown⟩
  have := he2.size
  exact ⟨t, rfl, ⟨hR.tree, hcan, hleaf⟩, hR.sep, hown, fun b hb => by have := hR.new hb; omega, hR.cnt, (he2.mono fun _ _ h => h.elim).transS hR.extM⟩
theorem c_BuildNo {v : Value} {mt : Option Mtr} {ow : Nat} (hv : Ps w v l) (hl : l.length ≤ 100000) (hn : ¬ ((∀ p ∈ l, p.1.length ≤ 65535) ∧ Rises l)) :
    Ret P n_canon_Build [mv mt, .int .u64 ow, v] w fun r w' => r = .tuple #[.pointer none, .int .i64 (if ∀ p ∈ l, p.1.length ≤ 65535 then 12 else 8)] ∧ Ext No w w' := by
  refine W_canon_Build ?_
  refine (c_check hv (by omega)).mono ?_
  rintro r w2 ⟨⟨b, rfl, hb⟩, he2⟩
  unfold checkN
  by_cases hk : ∀ p ∈ l, p.1.length ≤ 65535
  · rw [if_pos hk, if_pos hk]
    cases b with
    | true => exact absurd ⟨hk, hb.1 rfl⟩ hn
    | false => exact xifT rfl ⟨rfl, he2⟩
  · rw [if_neg hk, if_neg hk]
    exact xifT rfl ⟨rfl, he2⟩
/-- a world of its own -/
theorem c_WNew (hw : Lw w) (hB : B ≤ w.heap.size) (hfl : Floor.n ≤ B) : Ret P n_tree_New [] w fun r w' => r = rp w.heap.size ∧ VI B w' w.heap.size 0 0 (fun _ => none) ∧ Ext No w w' := by
  refine W_tree_New ?_
  show XNew w [.int .i64 0, .int .u64 0] T_tree_World _
  refine xnew fun b w1 hb hblk hz he => ?_
  subst hb
  refine ⟨rfl, ⟨hw.extN he, hfl, ⟨(hw.extN he).fl, fun m hm => ?_⟩, hB, fun vb t l h => by cases h⟩, he⟩
  cases hm
  exact ⟨hw.fl, .inr rfl, hblk⟩
/-- pairs as a version -/
theorem c_From {v : Value} (h : VI B w wb n j V) (hv : Ps w v l) (hp : Pr l) (hj : j + 1 < 18446744073709551616) :
    Ret P n_tree_World_From [rp wb, v] w fun r w' => ∃ vb t, r = .tuple #[rp vb, .int .i64 0] ∧ V vb = none ∧ w.heap.size ≤ vb ∧ VI B w' wb (n + t.er.size) (j + 1) (updV V vb (t, l)) ∧ t.Owned (j + 1) ∧ VE B w w' := by
  refine W_tree_World_From ?_
  refine xifF rfl ?_
  refine (c_WMeter (j := j)).mono ?_
  rintro _ w1 ⟨rfl, rfl⟩
  refine (c_WOwner h.mt hj).mono ?_
  rintro _ w2 ⟨rfl, hm2, he2⟩
  have hI2 := h.step he2 hm2 (by omega)
  have hE2 := h.stepE he2
  refine (c_BuildOk (mt := some (wmt wb (j + 1))) (hE2.ps hv) hp hm2 (by omega)).mono ?_
  rintro _ w3 ⟨t, rfl, hct, hsep, hown, hnew, hm3, he3⟩
  have he3 : Ext (· = wb) w2 w3 := he3.mono fun b _ hb => hb.symm
  have hI3 := hI2.step he3 hm3 (Nat.le_refl _)
  have hE3 := hE2.trans (hI2.stepE he3)
  refine xifF rfl ?_
  refine (hI3.version hct hp (hown.q.mono fun o h => by omega) hI3.sizeB).mono ?_
  rintro _ w4 ⟨rfl, hI4, he4⟩
  exact ⟨_, t, rfl, hI3.new, hE3.size, hI4, hown, hE3.transN he4⟩
end
end Go.Proofs.YtlhjfenpmnejoaaGreat
end
section
namespace Go.Proofs.YtlhjfenpmnejoaaGreat
open Go Go.RowKit X
set_option linter.unusedSimpArgs false
set_option linter.unusedVariables false
set_option linter.unusedSectionVars false
variable [Floor]
section
variable {B : Nat} {w w1 w2 : World} {wb n j vb : Nat} {t : T} {l : Kv} {V : Nat → Option (T × Kv)} {k : Key} {vk : Value} {x : Nat}
theorem xkeepV {w : World} {b o : Nat} {cs : List Value} {T : TypeId} {v : Value} (h : Blk w b cs T) (hv : cs[o]? = some v) : xKeep1 w (.pointer (some ((⟨b, 0, none⟩ : Addr).add o))) v := by
  show w.cell? ((⟨b, 0, none⟩ : Addr).add o) = some v
  rw [Addr.add_lit, h.cell, Nat.zero_add, hv]
theorem VI.drew (h : VI B w wb n j V) : VI B w.drew wb n j V := h.extN (Ext.drew (Ext.refl No w))
theorem c_VOk {cs : List Value} (hb : Blk w vb (rp wb :: cs) T_tree_Version) : Ret P n_tree_Version_ok [rp vb] w fun r w' => r = .bool true ∧ w' = w := by
  refine W_tree_Version_ok ?_
  refine xj (fun vs w' => vs = [.bool true] ∧ w' = w) ?_ ?_
  · refine xifT rfl ?_
    refine hb.ld (v := rp wb) rfl ?_
    exact ⟨rfl, rfl⟩
  · rintro vs g w' ⟨rfl, rfl⟩
    exact ⟨rfl, rfl⟩
theorem c_VRoot (h : VI B w wb n j V) (hv : V vb = some (t, l)) : Ret P n_tree_Version_Root [rp vb] w fun r w' => r = t.v ∧ w' = w := by
  obtain ⟨d, c, b, hb, -⟩ := (h.ver vb t l hv).blk
  refine W_tree_Version_Root ?_
  refine xifF rfl ?_
  exact hb.ld (v := t.v) rfl ⟨rfl, rfl⟩
theorem c_VWorld (h : VI B w wb n j V) (hv : V vb = some (t, l)) : Ret P n_tree_Version_World [rp vb] w fun r w' => r = rp wb ∧ w' = w := by
  obtain ⟨d, c, b, hb, -⟩ := (h.ver vb t l hv).blk
  refine W_tree_Version_World ?_
  refine xifF rfl ?_
  exact hb.ld (v := rp wb) rfl ⟨rfl, rfl⟩
theorem c_VList (h : VI B w wb n j V) (hv : V vb = some (t, l)) : Ret P n_tree_Version_List [rp vb] w fun r w' => Ps w' r l ∧ Ext No w w' := by
  have hV := h.ver vb t l hv
  have hl := hV.ct.can.list hV.pr.rises
  have := hV.pr.many
  refine W_tree_Version_List ?_
  refine (c_VRoot h hv).mono ?_
  rintro _ w1 ⟨rfl, rfl⟩
  refine (c_List hV.ct.tree (hV.ct.long hV.pr) (by rw [hl]; omega)).mono ?_
  rintro r w2 ⟨hps, he⟩
  rw [hl] at hps
  exact ⟨hps.ps (.inl rfl), he⟩
/-- a put, with what else is known of it -/
def PutG (o : Nat) (t : T) (mt : Option Mtr) (n : Nat) (k : Key) (x : Nat) (G : T → Nat → Prop) : Prop := ∀ {w : World} {vk : Value}, Tree w t → Mt w mt n → Bs w vk k →
  Ret P n_put_Put [t.v, vk, .int .u64 x, .int .u64 o, mv mt] w fun r w' => ∃ t' n', r = .tuple #[t'.v, .int .i64 0] ∧ PutR w w' o t t' mt n n' k x ∧ (t.get k = some x → t' = t ∧ n' = n) ∧ G t' n'
/-- a version's own block is written -/
theorem VI.nbV (h : VI B w wb n j V) (hv : V vb = some (t, l)) : NB w (· = vb) := fun b hb _ => by
  have e : b = vb := hb
  subst e
  obtain ⟨d, c, b', h1, -⟩ := (h.ver _ t l hv).blk
  exact ⟨Nat.le_trans h.fl (h.ver _ t l hv).ge, _, _, h1, by decide⟩
theorem VI.len (h : VI B w wb n j V) (hv : V vb = some (t, l)) (e : Ext (· = vb) w w1) {c : Nat} {b : Bool} (hb : Blk w1 vb (verC wb t 1 c b) T_tree_Version) (hc : c = l.length) : VI B w1 wb n j V := by
  have hV := h.ver vb t l hv
  obtain ⟨d0, c0, b0, hb0, -⟩ := hV.blk
  have hnt : ∀ {t' : T}, Tree w t' → ∀ b', t'.All b' → ¬ b' = vb := fun ht b' hb' e' => by subst e'; exact ht.not hb0 oth_ver hb'
  refine ⟨h.lw.ext e fun b hb => by have e : b = vb := hb; subst e; exact Nat.le_trans h.fl hV.ge, h.fl, h.mt.ext e fun b hb he => ?_, h.ge, fun vb' t' l' hv' => ?_⟩
  · have e1 : wb = b := hb
    have e2 : b = vb := he
    subst e1; subst e2
    exact absurd (hb0.inj h.wblk).2 (by decide)
  · by_cases e' : vb' = vb
    · subst e'
      rw [hv] at hv'
      obtain ⟨rfl, rfl⟩ := by simpa using hv'
      exact ⟨hV.ge, ⟨1, c, b, hb, .inr ⟨rfl, hc⟩⟩, ⟨hV.ct.tree.ext e (h.nbV hv) (hnt hV.ct.tree), hV.ct.can, hV.ct.leafy⟩, hV.pr, hV.own⟩
    · have hV' := h.ver vb' t' l' hv'
      exact hV'.ext e (h.nbV hv) e' (hnt hV'.ct.tree) (Nat.le_refl _)
theorem VI.lenE (h : VI B w wb n j V) (hv : V vb = some (t, l)) (e : Ext (· = vb) w w1) : VE B w w1 := by
  have hV := h.ver vb t l hv
  obtain ⟨d0, c0, b0, hb0, -⟩ := hV.blk
  exact VE.of e (NV.blk hb0 (.inr (.inl rfl)) (Nat.le_trans h.fl hV.ge)) fun b hb => by have e : b = vb := hb; subst e; exact hV.ge
set_option maxRecDepth 100000 in
/-- how many pairs a version has: counted once -/
theorem c_VLenX (h : VI B w wb n j V) (hv : V vb = some (t, l)) : Ret P n_tree_Version_Len [rp vb] w fun r w' => r = .int .i64 l.length ∧ VI B w' wb n j V ∧ VE B w w' ∧ Ext (· = vb) w w' := by
  have hV := h.ver vb t l hv
  obtain ⟨d, c, b, hb, hdc⟩ := hV.blk
  have hlist := hV.ct.can.list hV.pr.rises
  have hmany := hV.pr.many
  refine W_tree_Version_Len ?_
  show XNew w [rp vb] T_p_tree_Version _
  refine xnew fun a1 w1 ha1 hb1 hz1 he1 => ?_
  refine hb1.ld (v := rp vb) rfl ?_
  have hvb1 := hb.ext he1 fun h => h
  refine (c_VOk hvb1).mono ?_
  rintro _ w2 ⟨rfl, rfl⟩
  refine xifF rfl ?_
  refine hb1.ld (v := rp vb) rfl ?_
  show Ret P n_meter_Once_Get [.pointer (some ⟨vb, 2, none⟩), .func (.func n_tree_Version_Len_1) #[] #[.pointer (some ⟨a1, 0, none⟩)]] w2 _
  refine W_meter_Once_Get ?_
  show XNew w2 [.pointer (some ⟨vb, 2, none⟩)] T_p_meter_Once _
  refine xnew fun a2 w3 ha2 hb2 hz2 he2 => ?_
  refine xnew fun a3 w4 ha3 hb3 hz3 he3 => ?_
  have hb3 : Blk w4 a3 [.func (.func n_tree_Version_Len_1) #[] #[.pointer (some ⟨a1, 0, none⟩)]] _ := hb3
  have hb2 : Blk w4 a2 [.pointer (some ⟨vb, 2, none⟩)] _ := hb2.ext he3 fun h => h
  have hb1 : Blk w4 a1 [rp vb] _ := (hb1.ext he2 fun h => h).ext he3 fun h => h
  have hE4 : Ext No w w4 := (he1.transN he2).transN he3
  have hI4 := h.extN hE4
  have hvb4 := hb.ext hE4 fun h => h
  have hlt := hb.lt
  refine hb2.ld (v := .pointer (some ⟨vb, 2, none⟩)) rfl ?_
  refine xifF rfl ?_
  refine hb2.ld (v := .pointer (some ⟨vb, 2, none⟩)) rfl ?_
  show Ret P n_sync_Once_Do [.pointer (some ⟨vb, 2, none⟩), .func (.func n_meter_Once_Get_1) #[] #[.pointer (some ⟨a3, 0, none⟩), .pointer (some ⟨a2, 0, none⟩)]] w4 _
  have fin : ∀ wf c', Ext (· = vb) w4 wf → Blk wf vb (verC wb t 1 c' true) T_tree_Version → c' = l.length → XLd wf ⟨a2, 0, none⟩ fun v1010 => xAt v1010 fun a1011 => XLd wf (a1011.add 3) fun v1012 => v1012 = .int .i64 l.length ∧ VI B wf wb n j V ∧ VE B w wf ∧ Ext (· = vb) w wf := by
    rintro wf c' hEf hbf rfl
    refine (hb2.ext hEf (by show ¬ a2 = vb; omega)).ld (v := .pointer (some ⟨vb, 2, none⟩)) rfl ?_
    refine ⟨.int .i64 l.length, by show wf.cell? ⟨vb, 5, none⟩ = _; rw [hbf.cell]; rfl, rfl, hI4.len hv hEf hbf rfl, (VE.no hE4).trans (hI4.lenE hv hEf), (hE4.mono fun _ _ h => h.elim).transS hEf⟩
  have fin1 : ∀ wf c' b', Ext (· = vb) w4 wf → Blk wf vb (verC wb t 1 c' b') T_tree_Version → c' = l.length → XLd wf ⟨a2, 0, none⟩ fun v1010 => xAt v1010 fun a1011 => XLd wf (a1011.add 3) fun v1012 => v1012 = .int .i64 l.length ∧ VI B wf wb n j V ∧ VE B w wf ∧ Ext (· = vb) w wf := by
    rintro wf c' b' hEf hbf rfl
    refine (hb2.ext hEf (by show ¬ a2 = vb; omega)).ld (v := .pointer (some ⟨vb, 2, none⟩)) rfl ?_
    refine ⟨.int .i64 l.length, by show wf.cell? ⟨vb, 5, none⟩ = _; rw [hbf.cell]; rfl, rfl, hI4.len hv hEf hbf rfl, (VE.no hE4).trans (hI4.lenE hv hEf), (hE4.mono fun _ _ h => h.elim).transS hEf⟩
  rcases hdc with rfl | ⟨rfl, rfl⟩
  · refine Onc.first (R := fun w' => Blk w' vb [rp wb, t.v, .int .u32 0, .int .i32 1, .int .u32 0, .int .i64 l.length, .bool true] T_tree_Version ∧ Ext (· = vb) w4 w') (by rw [hvb4.cell]; rfl) (by rw [hvb4.cell]; rfl) (hvb4.frozen _) ?_ ?_
    · have hb5 : Blk (w4.setCell ⟨vb, 3, none⟩ (.int .i32 1)) vb [rp wb, t.v, .int .u32 0, .int .i32 1, .int .u32 0, .int .i64 c, .bool b] T_tree_Version := by simpa using setCell_blk (o := 3) (v := .int .i32 1) hvb4
      have hE5 : Ext (· = vb) w4 (w4.setCell ⟨vb, 3, none⟩ (.int .i32 1)) := setCell_ext
      generalize w4.setCell ⟨vb, 3, none⟩ (.int .i32 1) = w5 at hb5 hE5 ⊢
      have hd := Ext.drew (Ext.refl No w5)
      have h15 := (hb1.ext hE5 (by show ¬ a1 = vb; omega)).drew
      have h25 := (hb2.ext hE5 (by show ¬ a2 = vb; omega)).drew
      have h35 := (hb3.ext hE5 (by show ¬ a3 = vb; omega)).drew
      refine W_meter_Once_Get_1 ?_
      refine h25.ld (v := .pointer (some ⟨vb, 2, none⟩)) rfl ?_
      refine h25.ld (v := .pointer (some ⟨vb, 2, none⟩)) rfl ?_
      refine h35.ld (v := .func (.func n_tree_Version_Len_1) #[] #[.pointer (some ⟨a1, 0, none⟩)]) rfl ?_
      refine xfunc ?_
      refine xcall_ret (by kernel_rfl) ?_
      show Ret P n_tree_Version_Len_1 [.pointer (some ⟨a1, 0, none⟩)] w5.drew _
      refine W_tree_Version_Len_1 ?_
      refine h15.ld (v := rp vb) rfl ?_
      refine hb5.drew.ld (v := t.v) rfl ?_
      have hV4 := hI4.ver vb t l hv
      have ht5 : Tree w5.drew t := (hV4.ct.tree.ext hE5 (hI4.nbV hv) fun b' hb' e => by
        have e : b' = vb := e
        subst e
        exact hV4.ct.tree.not hvb4 oth_ver hb').extN hd
      refine (c_Count ht5 (hV4.ct.long hV4.pr) (by rw [hlist]; omega)).mono ?_
      rintro _ w6 ⟨rfl, he6⟩
      rw [hlist]
      have hE6 : Ext (· = vb) w4 w6 := (hE5.transN hd).transN he6
      have h26 := h25.ext he6 fun h => h
      have hb6 := hb5.drew.ext he6 fun h => h
      refine ⟨xkeepV h26 (o := 0) rfl, xkeepV h26 (o := 0) rfl, ?_⟩
      show XSt w6 ⟨vb, 5, none⟩ (.int .i64 l.length) _
      refine hb6.st (o := 5) (by simp) rfl fun w7 hb7 hz7 he7 => ?_
      have h27 := h26.ext he7 (by show ¬ a2 = vb; omega)
      refine ⟨xkeepV h27 (o := 0) rfl, ?_⟩
      show XSt w7 ⟨vb, 6, none⟩ (.bool true) _
      refine hb7.st (o := 6) (by simp) rfl fun w8 hb8 hz8 he8 => ?_
      have hb8 : Blk w8 vb [rp wb, t.v, .int .u32 0, .int .i32 1, .int .u32 0, .int .i64 l.length, .bool true] T_tree_Version := by simpa using hb8
      exact ⟨rfl, ⟨hb8, (hE6.transS he7).transS he8⟩, ⟨_, by rw [hb8.cell]; rfl⟩, hb8.frozen _, by rw [hb8.cell]; rfl, hb8.frozen _⟩
    · rintro w2' ⟨hb8, hE8⟩
      refine fin _ l.length ?_ ?_ rfl
      · exact ((hE8.transN (Ext.drew (Ext.refl No w2'))).transS setCell_ext).transS setCell_ext
      · have h9 := setCell_blk (o := 2) (v := .int .u32 1) hb8.drew
        have h10 := setCell_blk (o := 3) (v := .int .i32 0) h9
        simp only [List.set] at h10
        exact h10
  · refine Onc.later (by rw [hvb4.cell]; rfl) ?_
    exact fin1 w4 l.length b (Ext.refl _ _) hvb4 rfl
theorem c_VLen (h : VI B w wb n j V) (hv : V vb = some (t, l)) : Ret P n_tree_Version_Len [rp vb] w fun r w' => r = .int .i64 l.length ∧ VI B w' wb n j V ∧ VE B w w' :=
  (c_VLenX h hv).mono fun _ _ ⟨h1, h2, h3, _⟩ => ⟨h1, h2, h3⟩
end
end Go.Proofs.YtlhjfenpmnejoaaGreat
end
