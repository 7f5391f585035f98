/-  union: policies, ends, copies.  -/
import Derived.Test.YthnegkjhciakpaaGreatDoorSAu
import Derived.Test.YthnegkjhciakpaaGreatDoorPut
import Derived.Test.YthnegkjhciakpaaGreatDoorDet
import Derived.Test.YthnegkjhciakpaaGreatDoorG1
section
namespace Go.Proofs.YthnegkjhciakpaaGreatDoor
open Go Go.RowKit X
set_option linter.unusedSimpArgs false
set_option linter.unusedVariables false
set_option linter.unusedSectionVars false
/-- what stays of two values -/
def pickN : Nat → Nat → Nat → Nat
  | 1, a, _ => a
  | 2, _, b => b
  | 3, a, b => (a + b) % 18446744073709551616
  | 4, a, b => min a b
  | _, a, b => max a b
def polF : Nat → Value
  | 1 => .func (.func n_union_find_1) #[] #[]
  | 2 => .func (.func n_union_find_2) #[] #[]
  | 3 => .func (.func n_union_find_3) #[] #[]
  | 4 => .func (.func n_union_find_4) #[] #[]
  | _ => .func (.func n_union_find_5) #[] #[]
def polS (p : Nat) : Bool := p != 3
theorem wrapU64u {n : Nat} : IntKind.u64.wrap (n : Int) = ((n % 18446744073709551616 : Nat) : Int) := by
  simp [IntKind.wrap, IntKind.bits, IntKind.signed]
theorem pick_lt {p a b : Nat} (ha : a < 18446744073709551616) (hb : b < 18446744073709551616) : pickN p a b < 18446744073709551616 := by
  unfold pickN
  split <;> (try split) <;> first | omega | exact Nat.mod_lt _ (by omega)
/-- a variable of two cells is written whole -/
theorem store2 {w : World} {t T : TypeId} {g : Nat} {x y a b : Value} {K : World → Prop} (hg : Blk w g [x, y] T) (hi : (P.info? t).map (·.size) = some 2) (ha : a.oneCell' = true) (hb : b.oneCell' = true)
    (k : ∀ w', Blk w' g [a, b] T → w'.heap.size = w.heap.size → Ext (· = g) w w' → K w') : XDo P (storeVar t ⟨g, 0, none⟩ (.agg #[a, b])) w K := by
  refine xstoreVar (vs := [a, b]) hg hi (by simp) (by simp [ha, hb]) fun w' h1 h2 h3 => k w' ?_ h2 h3
  simpa using h1
variable [Floor]
set_option maxRecDepth 100000 in
theorem c_polF {w : World} {p a b : Nat} {K : Value → World → Prop} (hp : 1 ≤ p ∧ p ≤ 5) (ha : a < 18446744073709551616) (hb : b < 18446744073709551616) (k : ∀ w', Ext No w w' → K (.int .u64 (pickN p a b)) w') :
    xFunc (polF p) [.int .u64 a, .int .u64 b] fun f xs => xCall P f xs w K := by
  obtain ⟨h1, h5⟩ := hp
  have h : p = 1 ∨ p = 2 ∨ p = 3 ∨ p = 4 ∨ p = 5 := by omega
  rcases h with rfl | rfl | rfl | rfl | rfl
  · refine xfunc ?_
    refine xcall_ret (by kernel_rfl) ?_
    refine W_union_find_1 ?_
    exact k w (Ext.refl _ _)
  · refine xfunc ?_
    refine xcall_ret (by kernel_rfl) ?_
    refine W_union_find_2 ?_
    exact k w (Ext.refl _ _)
  · refine xfunc ?_
    refine xcall_ret (by kernel_rfl) ?_
    refine W_union_find_3 ?_
    refine xi (r := ((pickN 3 a b : Nat) : Int)) (by rw [show (a : Int) + (b : Int) = ((a + b : Nat) : Int) by omega, wrapU64u]; rfl) ?_
    exact k w (Ext.refl _ _)
  · refine xfunc ?_
    refine xcall_ret (by kernel_rfl) ?_
    refine W_union_find_4 ?_
    have e : (if (b : Int) < (a : Int) then (b : Int) else (a : Int)) = ((pickN 4 a b : Nat) : Int) := by
      show _ = ((min a b : Nat) : Int)
      split <;> omega
    have := k w (Ext.refl _ _)
    rw [← e] at this
    exact this
  · refine xfunc ?_
    refine xcall_ret (by kernel_rfl) ?_
    refine W_union_find_5 ?_
    have e : (if (a : Int) < (b : Int) then (b : Int) else (a : Int)) = ((pickN 5 a b : Nat) : Int) := by
      show _ = ((max a b : Nat) : Int)
      split <;> omega
    have := k w (Ext.refl _ _)
    rw [← e] at this
    exact this
theorem c_ufind {w : World} {z : Int} : Ret P n_union_find [.int .i64 z] w fun r w' => Ext No w w' ∧ ((∃ p : Nat, 1 ≤ p ∧ p ≤ 5 ∧ z = p ∧ r = .tuple #[.agg #[polF p, .bool (polS p)], .int .i64 0]) ∨ (¬ (1 ≤ z ∧ z ≤ 5) ∧ r = .tuple #[.agg #[.nilFunc, .bool false], .int .i64 1])) := by
  refine W_union_find ?_
  refine xnew fun b w1 hb hblk hz he => ?_
  have hblk : Blk w1 b [.nilFunc, .bool false] T_union_policy := hblk
  refine xifE (fun h => ?_) fun h1 => ?_
  · refine store2 hblk (by kernel_rfl) rfl rfl fun w2 hb2 hz2 he2 => ?_
    exact hb2.ldA rfl ⟨he.trans1 he2 (by omega), .inl ⟨1, by omega, by omega, h, rfl⟩⟩
  refine xifE (fun h => ?_) fun h2 => ?_
  · refine store2 hblk (by kernel_rfl) rfl rfl fun w2 hb2 hz2 he2 => ?_
    exact hb2.ldA rfl ⟨he.trans1 he2 (by omega), .inl ⟨2, by omega, by omega, h, rfl⟩⟩
  refine xifE (fun h => ?_) fun h3 => ?_
  · refine store2 hblk (by kernel_rfl) rfl rfl fun w2 hb2 hz2 he2 => ?_
    exact hb2.ldA rfl ⟨he.trans1 he2 (by omega), .inl ⟨3, by omega, by omega, h, rfl⟩⟩
  refine xifE (fun h => ?_) fun h4 => ?_
  · refine store2 hblk (by kernel_rfl) rfl rfl fun w2 hb2 hz2 he2 => ?_
    exact hb2.ldA rfl ⟨he.trans1 he2 (by omega), .inl ⟨4, by omega, by omega, h, rfl⟩⟩
  refine xifE (fun h => ?_) fun h5 => ?_
  · refine store2 hblk (by kernel_rfl) rfl rfl fun w2 hb2 hz2 he2 => ?_
    exact hb2.ldA rfl ⟨he.trans1 he2 (by omega), .inl ⟨5, by omega, by omega, h, rfl⟩⟩
  · refine store2 hblk (by kernel_rfl) rfl rfl fun w2 hb2 hz2 he2 => ?_
    exact hb2.ldA rfl ⟨he.trans1 he2 (by omega), .inr ⟨by omega, rfl⟩⟩
theorem c_UPick {w : World} {z : Int} {a b : Nat} (ha : a < 18446744073709551616) (hb : b < 18446744073709551616) : Ret P n_union_Pick [.int .i64 z, .int .u64 a, .int .u64 b] w fun r w' => Ext No w w' ∧ ((∃ p : Nat, 1 ≤ p ∧ p ≤ 5 ∧ z = p ∧ r = .tuple #[.int .u64 (pickN p a b), .int .i64 0]) ∨ (¬ (1 ≤ z ∧ z ≤ 5) ∧ r = .tuple #[.int .u64 0, .int .i64 1])) := by
  refine W_union_Pick ?_
  refine c_ufind.mono ?_
  rintro r w1 ⟨he1, ⟨p, h1, h5, rfl, rfl⟩ | ⟨hn, rfl⟩⟩
  · refine xnew fun g w2 hg hblk hz he2 => ?_
    refine store2 hblk (by kernel_rfl) (by unfold polF; split <;> rfl) rfl fun w3 hb3 hz3 he3 => ?_
    refine xifF rfl ?_
    refine hb3.ld (v := polF p) rfl ?_
    refine c_polF ⟨h1, h5⟩ ha hb fun w4 he4 => ?_
    have hz1 := he1.size
    exact ⟨((he1.transN he2).trans1 he3 (by omega)).transN he4, .inl ⟨p, h1, h5, rfl, rfl⟩⟩
  · refine xnew fun g w2 hg hblk hz he2 => ?_
    refine store2 hblk (by kernel_rfl) rfl rfl fun w3 hb3 hz3 he3 => ?_
    refine xifT rfl ?_
    have hz1 := he1.size
    exact ⟨(he1.transN he2).trans1 he3 (by omega), .inr ⟨hn, rfl⟩⟩
theorem c_r24Pick {w : World} {z : Int} {a b : Nat} (ha : a < 18446744073709551616) (hb : b < 18446744073709551616) : Ret P n_ref24_Pick [.int .i64 z, .int .u64 a, .int .u64 b] w fun r w' => w' = w ∧ ((∃ p : Nat, 1 ≤ p ∧ p ≤ 5 ∧ z = p ∧ r = .tuple #[.int .u64 (pickN p a b), .int .i64 0]) ∨ (¬ (1 ≤ z ∧ z ≤ 5) ∧ r = .tuple #[.int .u64 0, .int .i64 1])) := by
  refine W_ref24_Pick ?_
  refine xifE (fun h => ⟨rfl, .inl ⟨1, by omega, by omega, h, rfl⟩⟩) fun h1 => ?_
  refine xifE (fun h => ⟨rfl, .inl ⟨2, by omega, by omega, h, rfl⟩⟩) fun h2 => ?_
  refine xifE (fun h => ?_) fun h3 => ?_
  · refine xi (r := ((pickN 3 a b : Nat) : Int)) (by rw [show (a : Int) + (b : Int) = ((a + b : Nat) : Int) by omega, wrapU64u]; rfl) ?_
    exact ⟨rfl, .inl ⟨3, by omega, by omega, h, rfl⟩⟩
  refine xifE (fun h => ?_) fun h4 => ?_
  · have e : (if (b : Int) < (a : Int) then (b : Int) else (a : Int)) = ((pickN 4 a b : Nat) : Int) := by
      show _ = ((min a b : Nat) : Int)
      split <;> omega
    refine ⟨rfl, .inl ⟨4, by omega, by omega, h, ?_⟩⟩
    rw [← e]
  refine xifE (fun h => ?_) fun h5 => ?_
  · have e : (if (a : Int) < (b : Int) then (b : Int) else (a : Int)) = ((pickN 5 a b : Nat) : Int) := by
      show _ = ((max a b : Nat) : Int)
      split <;> omega
    refine ⟨rfl, .inl ⟨5, by omega, by omega, h, ?_⟩⟩
    rw [← e]
  · exact ⟨rfl, .inr ⟨by omega, rfl⟩⟩
abbrev endV (t : T) (off : Nat) : Value := .agg #[t.v, .int .i64 off]
abbrev joiV (p o : Nat) (mt : Option Mtr) : Value := .agg #[polF p, .bool (polS p), .int .u64 o, mv mt]
abbrev joiC (p o : Nat) (mt : Option Mtr) : List Value := [polF p, .bool (polS p), .int .u64 o, mv mt]
/-- the rest of a node, from within its part on -/
def offE (off : Nat) : E → E
  | .nil => .nil
  | .node p v k => .node (p.drop off) v k
theorem offE_fine {off : Nat} {e : E} (h : e.Fine) : (offE off e).Fine := by cases e with
  | nil => trivial
  | node => exact h
theorem offE_zero (e : E) : offE 0 e = e := by cases e <;> rfl
section
variable {w : World} {t : T} {off p o n : Nat} {mt : Option Mtr}
theorem c_endPart (ht : Tree w t) (ho : off ≤ t.part.length) : Ret P n_union_end_part [endV t off] w fun r w' => Bs w' r (t.part.drop off) ∧ Ext No w w' := by
  refine W_union_end_part ?_
  refine xnew fun b w1 hb hblk hz he => ?_
  have hblk : Blk w1 b [t.v, .int .i64 off] T_union_end := hblk
  have hd := he.drew
  refine hblk.drew.ld (v := t.v) rfl ?_
  refine hblk.drew.ld (v := .int .i64 off) rfl ?_
  refine (c_Part (ht.extN hd)).mono ?_
  rintro pv w2 ⟨hpv, he2⟩
  have hblk2 := hblk.drew.ext he2 fun h => h
  refine ⟨by show w2.cell? ⟨b, 1, none⟩ = _; rw [hblk2.cell]; rfl, ?_⟩
  exact hpv.drop off rfl ho fun v' hv' => ⟨hv', hd.transN he2⟩
theorem c_endLeaf (ht : Tree w t) : Ret P n_union_end_leaf [endV t off] w fun r w' => r = .bool (((t.kind : Nat) : Int) == 1) ∧ Ext No w w' := by
  refine W_union_end_leaf ?_
  refine xnew fun b w1 hb hblk hz he => ?_
  have hblk : Blk w1 b [t.v, .int .i64 off] T_union_end := hblk
  refine hblk.ld (v := t.v) rfl ?_
  refine (c_Kind (ht.extN he)).mono ?_
  rintro _ w2 ⟨rfl, rfl⟩
  exact ⟨rfl, he⟩
theorem c_endKid {c : UInt8} (ht : Tree w t) : Ret P n_union_end_kid [endV t off, bv c] w fun r w' => r = endV (t.kid c) 0 ∧ Ext No w w' := by
  refine W_union_end_kid ?_
  refine xnew fun b w1 hb hblk hz he => ?_
  have hblk : Blk w1 b [t.v, .int .i64 off] T_union_end := hblk
  refine xnew fun b2 w2 hb2 hblk2 hz2 he2 => ?_
  have hblk2 : Blk w2 b2 [.pointer none, .int .i64 0] T_union_end := hblk2
  refine (hblk.ext he2 fun h => h).ld (v := t.v) rfl ?_
  refine (c_Kid (ht.extN (he.transN he2))).mono ?_
  rintro _ w3 ⟨rfl, he3⟩
  refine store2 (a := (t.kid c).v) (b := .int .i64 0) (hblk2.ext he3 fun h => h) (by kernel_rfl) rfl rfl fun w4 hb4 hz4 he4 => ?_
  have hz1 := he.size
  exact hb4.ldA rfl ⟨rfl, ((he.transN he2).transN he3).trans1 he4 (by omega)⟩
theorem c_endBehind {m : Nat} (h1 : off + m + 1 ≤ 4611686018427387904) : Ret P n_union_end_behind [endV t off, .int .i64 m] w fun r w' => r = endV t (off + m + 1) ∧ Ext No w w' := by
  refine W_union_end_behind ?_
  refine xnew fun b w1 hb hblk hz he => ?_
  have hblk : Blk w1 b [t.v, .int .i64 off] T_union_end := hblk
  refine xnew fun b2 w2 hb2 hblk2 hz2 he2 => ?_
  have hblk2 : Blk w2 b2 [.pointer none, .int .i64 0] T_union_end := hblk2
  have hblk1 := hblk.ext he2 fun h => h
  refine hblk1.ld (v := t.v) rfl ?_
  refine hblk1.ld (v := .int .i64 off) rfl ?_
  refine xi (r := ((off + m : Nat) : Int)) (by rw [wrapI (by omega)]; omega) ?_
  refine xi (r := ((off + m + 1 : Nat) : Int)) (by rw [wrapI (by omega)]; omega) ?_
  refine store2 (a := t.v) (b := .int .i64 (off + m + 1 : Nat)) hblk2 (by kernel_rfl) rfl rfl fun w4 hb4 hz4 he4 => ?_
  have hz1 := he.size
  exact hb4.ldA rfl ⟨rfl, (he.transN he2).trans1 he4 (by omega)⟩
/-- a copy of a node, from within its part on -/
theorem c_uCopy {a ow : Nat} {part : Key} {val : Option Nat} {ks : List Nat} {kids : UInt8 → T} (ht : Tree w (.node a ow part val ks kids)) (hm : Mt w mt n) (ho : o ≠ 0) (hoff : off ≤ part.length) :
    Ret P n_union_joiner_copy [joiV p o mt, endV (.node a ow part val ks kids) off] w fun r w' => ∃ u uks, r = rp u ∧ Tree w' (.node u o (part.drop off) val uks kids) ∧ (uks = [] ↔ ks = []) ∧ (∀ b, NX u uks b → w.heap.size ≤ b) ∧ Mt w' mt (n + 1) ∧ Ext (MX mt) w w' := by
  have hshort := ht.1.short
  refine W_union_joiner_copy ?_
  refine xnew fun jb w1 hjb hj hz he => ?_
  have hj : Blk w1 jb (joiC p o mt) T_union_joiner := hj
  refine xnew fun eb w2 heb hE hz2 he2 => ?_
  have hE : Blk w2 eb [(T.node a ow part val ks kids).v, .int .i64 off] T_union_end := hE
  have hj2 := hj.ext he2 fun h => h
  have he12 := he.transN he2
  have ht2 := ht.extN he12
  have hm2 := hm.extN he12
  refine hE.ld (v := (T.node a ow part val ks kids).v) rfl ?_
  refine hj2.ld (v := mv mt) rfl ?_
  refine hj2.ld (v := .int .u64 o) rfl ?_
  refine (c_Copy (o := o) ht2.1 hm2).mono ?_
  rintro _ w3 ⟨u, uks, rfl, hna, hiff, hfr, hm3, he3⟩
  have hj3 := hj2.ext he3 (hm2.ne hj2 (by decide))
  have hE3 := hE.ext he3 (hm2.ne hE (by decide))
  have hz12 := he12.size
  have hz3 := he3.size
  have ht3 : Tree w3 (.node u o part val uks kids) := ⟨hna, fun c => (ht2.2 c).extM hm2 he3⟩
  have hEx3 : Ext (MX mt) w w3 := (he12.mono fun _ _ h => h.elim).transS he3
  have hfr' : ∀ b, NX u uks b → w.heap.size ≤ b := fun b hb => by have := hfr b hb; omega
  refine xj (fun vs w' => Tree w' (.node u o (part.drop off) val uks kids) ∧ Mt w' mt (n + 1) ∧ Ext (MX mt) w w') ?_ ?_
  · refine hE3.ld (v := .int .i64 off) rfl ?_
    refine xifD (fun h => ?_) fun h => ?_
    · have hd := Ext.drew (Ext.refl No w3)
      refine hj3.drew.ld (v := .int .u64 o) rfl ?_
      refine hE3.drew.ldA rfl ?_
      refine (c_endPart (off := off) (((ht2.extM hm2 he3)).extN hd) hoff).mono ?_
      rintro pv w4 ⟨hpv, he4⟩
      have hpv : Bs w4 pv (part.drop off) := hpv
      have he34 := hd.transN he4
      have hj4 := hj3.ext he34 fun h => h
      refine ⟨by show w4.cell? ⟨jb, 2, none⟩ = _; rw [hj4.cell]; rfl, ?_⟩
      have ht4 := ht3.extN he34
      refine (c_NSetPart ht4.1 ho rfl hpv (by rw [List.length_drop]; omega)).mono ?_
      rintro _ w5 ⟨hna5, he5⟩
      obtain ⟨pv0, hbu, -⟩ := ht4.1.blk
      have hu := hfr u (.inl rfl)
      refine ⟨⟨hna5, fun c => (ht4.2 c).ext he5 (ht4.nbX fun b hb => .inl (.inl hb)) fun b hb e => ?_⟩, (hm3.extN he34).ext he5 fun b hb e => ?_, (hEx3.transN he34).trans he5 fun b hb e => ?_⟩
      · have e : b = u := e
        subst e
        have := (ht2.2 c).lt hb
        omega
      · have e : b = u := e
        subst e
        exact (hm3.extN he34).ne hbu (by decide) hb
      · have e : b = u := e
        subst e
        omega
    · have : off = 0 := by omega
      subst this
      rw [List.drop_zero]
      exact ⟨ht3, hm3, hEx3⟩
  · rintro vs g w4 ⟨h1, h2, h3⟩
    exact ⟨u, uks, rfl, h1, hiff, hfr', h2, h3⟩
/-- a tree from within its part on: itself, or a copy -/
theorem c_whole (ht : Tree w t) (hm : Mt w mt n) (ho : o ≠ 0) (hoff : off ≤ t.part.length) :
    Ret P n_union_joiner_whole [joiV p o mt, endV t off] w fun r w' => ∃ t' n', r = t'.v ∧ Tree w' t' ∧ t'.er = offE off t.er ∧ (t.Leafy → t'.Leafy) ∧ (∀ b, t'.All b → t.All b ∨ w.heap.size ≤ b) ∧ Mt w' mt n' ∧ n' ≤ n + 1 ∧ (off = 0 → t' = t ∧ n' = n) ∧ Ext (MX mt) w w' := by
  refine W_union_joiner_whole ?_
  refine xnew fun jb w1 hjb hj hz he => ?_
  have hj : Blk w1 jb (joiC p o mt) T_union_joiner := hj
  refine xnew fun eb w2 heb hE hz2 he2 => ?_
  have hE : Blk w2 eb [t.v, .int .i64 off] T_union_end := hE
  have hj2 := hj.ext he2 fun h => h
  have he12 := he.transN he2
  refine hE.ld (v := .int .i64 off) rfl ?_
  refine xifE (fun h => ?_) fun h => ?_
  · have : off = 0 := by omega
    subst this
    refine hE.ld (v := t.v) rfl ?_
    exact ⟨t, n, rfl, ht.extN he12, (offE_zero _).symm, id, fun b h => .inl h, hm.extN he12, by omega, fun _ => ⟨rfl, rfl⟩, he12.mono fun _ _ h => h.elim⟩
  · cases t with
    | nil => exact absurd hoff (by show ¬ off ≤ 0; omega)
    | node a ow part val ks kids =>
      refine hj2.ldA rfl ?_
      refine hE.ldA rfl ?_
      refine (c_uCopy (p := p) (ht.extN he12) (hm.extN he12) ho hoff).mono ?_
      rintro _ w3 ⟨u, uks, rfl, htr, hiff, hfr, hm3, he3⟩
      have hz12 := he12.size
      refine ⟨.node u o (part.drop off) val uks kids, n + 1, rfl, htr, rfl, fun hl => ⟨by rw [hiff]; exact hl.1, hl.2⟩, fun b hb => ?_, hm3, by omega, fun h0 => absurd h0 (by omega), (he12.mono fun _ _ h => h.elim).transS he3⟩
      rcases hb with hb | hb
      · exact .inr (by have := hfr b hb; omega)
      · exact .inl (.inr hb)
end
end Go.Proofs.YthnegkjhciakpaaGreatDoor
end
section
namespace Go.Proofs.YthnegkjhciakpaaGreatDoor
open Go Go.RowKit X
set_option linter.unusedSimpArgs false
set_option linter.unusedVariables false
set_option linter.unusedSectionVars false
/-- two values together -/
def mergeO (p : Nat) : Option Nat → Option Nat → Option Nat
  | some a, some b => some (pickN p a b)
  | some a, none => some a
  | none, x => x
variable [Floor]
/-- a node that this call made, and fills -/
structure FN (w0 w : World) (u o : Nat) (q : Key) (val : Option Nat) (uks : List Nat) (kids : UInt8 → T) (mt : Option Mtr) (n : Nat) : Prop where
  tree : Tree w (.node u o q val uks kids)
  fresh : ∀ b, NX u uks b → w0.heap.size ≤ b
  apart : ∀ c b, (kids c).All b → ¬ NX u uks b
  cnt : Mt w mt n
  ext : Ext (MX mt) w0 w
section
variable {w0 w : World} {u o : Nat} {q : Key} {val : Option Nat} {uks : List Nat} {kids : UInt8 → T} {mt : Option Mtr} {n : Nat}
theorem FN.go (h : FN w0 w u o q val uks kids mt n) {w' : World} {n' : Nat} (e : Ext (MX mt) w w') (hm : Mt w' mt n') : FN w0 w' u o q val uks kids mt n' :=
  ⟨h.tree.extM h.cnt e, h.fresh, h.apart, hm, h.ext.transS e⟩
theorem FN.extN (h : FN w0 w u o q val uks kids mt n) {w' : World} (e : Ext No w w') : FN w0 w' u o q val uks kids mt n := h.go (e.mono fun _ _ h => h.elim) (h.cnt.extN e)
theorem FN.lt (h : FN w0 w u o q val uks kids mt n) {b : Nat} (hb : NX u uks b) : b < w.heap.size := h.tree.lt (.inl hb)
theorem FN.nb (h : FN w0 w u o q val uks kids mt n) {X : Nat → Prop} (hX : ∀ b, X b → NX u uks b) : NB w X := h.tree.nbX fun b hb => .inl (hX b hb)
theorem c_FVal (h : FN w0 w u o q val uks kids mt n) (ho : o ≠ 0) {x : Nat} (hx : x < 18446744073709551616) : Ret P n_node_Node_SetVal [rp u, .int .u64 o, .int .u64 x] w fun _ w' => FN w0 w' u o q (some x) uks kids mt n ∧ Ext (· = u) w w' := by
  refine (c_NSetVal h.tree.1 ho rfl hx).mono ?_
  rintro r w' ⟨hna, he⟩
  refine ⟨⟨⟨hna, fun c => (h.tree.2 c).ext he (h.nb fun b hb => .inl hb) fun b hb e => h.apart c b hb (.inl e)⟩, h.fresh, h.apart, h.cnt.ext he fun b hb e => ?_, h.ext.trans he fun b hb e => ?_⟩, he⟩
  · have e : b = u := e
    subst e
    exact mt_all h.tree h.cnt (.inl (.inl rfl)) hb
  · have e : b = u := e
    subst e
    have := h.fresh b (.inl rfl)
    omega
theorem c_FKid (h : FN w0 w u o q val uks kids mt n) (ho : o ≠ 0) (hne : uks ≠ []) {c0 : UInt8} {t2 : T} {a2 : Nat} (hp : t2.ptr = some ⟨a2, 0, none⟩) (ht2 : Tree w t2) (hd : ∀ b, t2.All b → ¬ NX u uks b) :
    Ret P n_node_Node_SetKid [rp u, .int .u64 o, bv c0, rp a2] w fun _ w' => ∃ uks', FN w0 w' u o q val uks' (updT kids c0 t2) mt n ∧ uks' ≠ [] ∧ Ext (NX u uks) w w' ∧ (∀ b, NX u uks' b → NX u uks b ∨ w.heap.size ≤ b) := by
  refine (c_NSetKid h.tree.1 ho rfl hne).mono ?_
  rintro r w' ⟨uks', hna, hne', he, hsub⟩
  have he' : Ext (NX u uks) w w' := he.mono fun b _ hb => .inr hb
  have hnb := h.nb (X := NX u uks) fun b hb => hb
  have hz := he.size
  have hz0 := h.ext.size
  have hNX : ∀ b, NX u uks' b → NX u uks b ∨ w.heap.size ≤ b := fun b hb => by
    rcases hb with hb | hb
    · exact .inl (.inl hb)
    · rcases hsub b hb with h1 | h1
      · exact .inl (.inr h1)
      · exact .inr h1
  have htk : ∀ c, Tree w (updT kids c0 t2 c) := fun c => by
    unfold updT; split
    · exact ht2
    · exact h.tree.2 c
  have hap : ∀ c b, (updT kids c0 t2 c).All b → ¬ NX u uks b := fun c b hb => by
    unfold updT at hb; split at hb
    · exact hd b hb
    · exact h.apart c b hb
  refine ⟨uks', ⟨⟨by rw [updT_ptr, hp]; exact hna, fun c => (htk c).ext he' hnb (hap c)⟩, fun b hb => ?_, fun c b hb hx => ?_, h.cnt.ext he' fun b hb hx => mt_all h.tree h.cnt (.inl hx) hb, h.ext.trans he' fun b hb hx => ?_⟩, hne', he', hNX⟩
  · rcases hNX b hb with h1 | h1
    · exact h.fresh b h1
    · omega
  · rcases hNX b hx with h1 | h1
    · exact hap c b hb h1
    · have := (htk c).lt hb; omega
  · have := h.fresh b hx; omega
end
section
variable {w : World} {a b : T} {p o n : Nat} {mt : Option Mtr}
theorem Tree.v64 {t : T} (h : Tree w t) : t.val.getD 0 < 18446744073709551616 := by
  cases t with
  | nil => show 0 < _; omega
  | node a ow part val ks kids =>
    show val.getD 0 < _
    cases val with
    | none => show 0 < _; omega
    | some v => exact h.1.v64 v rfl
theorem c_uValue (ha : Tree w a) (hb : Tree w b) (hp : 1 ≤ p ∧ p ≤ 5) : Ret P n_union_joiner_value [joiV p o mt, a.v, b.v] w fun r w' => r = valV (mergeO p a.val b.val) ∧ Ext No w w' := by
  refine W_union_joiner_value ?_
  refine xnew fun jb w1 hjb hj hz he => ?_
  have hj : Blk w1 jb (joiC p o mt) T_union_joiner := hj
  have hva := ha.v64
  have hvb := hb.v64
  refine (c_Val (ha.extN he)).mono ?_
  rintro _ w2 ⟨rfl, rfl⟩
  refine (c_Val (hb.extN he)).mono ?_
  rintro _ w3 ⟨rfl, rfl⟩
  refine xj (fun vs w' => vs = [.bool (a.val.isSome && b.val.isSome)] ∧ w3 = w') ?_ ?_
  · refine xif (fun h => ?_) fun h => ?_
    · exact ⟨by rw [h, Bool.true_and], rfl⟩
    · exact ⟨by rw [h, Bool.false_and], rfl⟩
  · rintro vs g w4 ⟨rfl, rfl⟩
    cases hav : a.val with
    | none =>
      refine xifF rfl ?_
      cases hbv : b.val with
      | none => exact xifF rfl ⟨rfl, he⟩
      | some y => exact xifT rfl ⟨rfl, he⟩
    | some x =>
      cases hbv : b.val with
      | none =>
        refine xifF rfl ?_
        exact xifF rfl ⟨rfl, he⟩
      | some y =>
        rw [hav] at hva
        rw [hbv] at hvb
        refine xifT rfl ?_
        refine hj.ld (v := polF p) rfl ?_
        refine c_polF hp hva hvb fun w5 he5 => ?_
        exact ⟨rfl, he.transN he5⟩
end
section
variable {w : World} {a b : T} {p o n oa ob : Nat} {mt : Option Mtr}
theorem offE_node {t : T} {off : Nat} (h : t ≠ .nil) {t' : T} (he : t'.er = offE off t.er) : ∃ a2, t'.ptr = some ⟨a2, 0, none⟩ := by
  cases t with
  | nil => exact absurd rfl h
  | node =>
    cases t' with
    | nil => cases he
    | node a2 => exact ⟨a2, rfl⟩
/-- two trees under a new node -/
theorem c_uFork {vq : Value} {q : Key} {x y : UInt8} (ha : Tree w a) (hb : Tree w b) (hla : a.Leafy) (hlb : b.Leafy) (han : a ≠ .nil) (hbn : b ≠ .nil) (hm : Mt w mt n) (ho : o ≠ 0) (hq : Bs w vq q) (hql : q.length ≤ 65535) (hoa : oa ≤ a.part.length) (hob : ob ≤ b.part.length) (hxy : x ≠ y) :
    Ret P n_union_joiner_fork [joiV p o mt, vq, bv x, endV a oa, bv y, endV b ob] w fun r w' => ∃ t' n', r = t'.v ∧ Tree w' t' ∧ t' ≠ .nil ∧ t'.er = .node q none (updE (updE noE x (offE oa a.er)) y (offE ob b.er)) ∧ t'.Leafy ∧ (∀ c, t'.All c → a.All c ∨ b.All c ∨ w.heap.size ≤ c) ∧ (∀ c, t'.ptr = some ⟨c, 0, none⟩ → w.heap.size ≤ c) ∧ Mt w' mt n' ∧ Ext (MX mt) w w' := by
  refine W_union_joiner_fork ?_
  refine xnew fun jb w1 hjb hj hz1 he1 => ?_
  have hj : Blk w1 jb (joiC p o mt) T_union_joiner := hj
  refine xnew fun ea w2 hea hA hz2 he2 => ?_
  have hA : Blk w2 ea [a.v, .int .i64 oa] T_union_end := hA
  refine xnew fun eb w3 heb hB hz3 he3 => ?_
  have hB : Blk w3 eb [b.v, .int .i64 ob] T_union_end := hB
  have hj3 := (hj.ext he2 fun h => h).ext he3 fun h => h
  have hA3 := hA.ext he3 fun h => h
  have hE3 := (he1.transN he2).transN he3
  have hs3 := hE3.size
  have hm3 := hm.extN hE3
  refine hj3.ld (v := mv mt) rfl ?_
  refine hj3.ld (v := .int .u64 o) rfl ?_
  refine (c_Inner (ow := o) hm3 (hq.extN hE3) hql).mono ?_
  rintro _ w4 ⟨u, uks, rfl, hna, hne, hfr, hm4, he4⟩
  have hF : FN w3 w4 u o q none uks (fun _ => .nil) mt (n + 1) := ⟨⟨hna, fun _ => trivial⟩, hfr, fun c b h => h.elim, hm4, he4⟩
  have hd4 := Ext.drew (Ext.refl No w4)
  have hF4 := hF.extN hd4
  have hj4 := (hj3.ext he4 (hm3.ne hj3 (by decide))).drew
  have hA4 := (hA3.ext he4 (hm3.ne hA3 (by decide))).drew
  have hB4 := (hB.ext he4 (hm3.ne hB (by decide))).drew
  have ha4 := ha.extM hm ((hE3.mono fun _ _ h => h.elim).transS hF4.ext)
  have hb4 := hb.extM hm ((hE3.mono fun _ _ h => h.elim).transS hF4.ext)
  refine hj4.ld (v := .int .u64 o) rfl ?_
  refine hj4.ldA rfl ?_
  refine hA4.ldA rfl ?_
  refine (c_whole (p := p) ha4 hF4.cnt ho hoa).mono ?_
  rintro _ w5 ⟨ta, n5, rfl, hta, hea5, hlta, halla, hm5, -, -, he5⟩
  have hF5 := hF4.go he5 hm5
  have hj5 := hj4.ext he5 (hF4.cnt.ne hj4 (by decide))
  have hB5 := hB4.ext he5 (hF4.cnt.ne hB4 (by decide))
  obtain ⟨a2, hpa⟩ := offE_node han hea5
  have hva : ta.v = rp a2 := by show Value.pointer ta.ptr = _; rw [hpa]
  have halt : ∀ c, a.All c → c < w.heap.size := fun c h => ha.lt h
  have hblt : ∀ c, b.All c → c < w.heap.size := fun c h => hb.lt h
  have hda : ∀ c, ta.All c → ¬ NX u uks c := fun c hc hx => by
    have h1 := hF4.fresh c hx
    have h2 := hF4.lt hx
    rcases halla c hc with h | h
    · have := halt c h; omega
    · omega
  refine ⟨by show w5.cell? ⟨jb, 2, none⟩ = _; rw [hj5.cell]; rfl, ?_⟩
  rw [hva]
  refine (c_FKid hF5 ho hne hpa hta hda).mono ?_
  rintro _ w6 ⟨uks6, hF6, hne6, he6, hNX6⟩
  have hd6 := Ext.drew (Ext.refl No w6)
  have hjlt := hj3.lt
  have hBlt := hB.lt
  have hj6 := (hj5.ext he6 fun h => by have := hF5.fresh _ h; omega).drew
  have hB6 := (hB5.ext he6 fun h => by have := hF5.fresh _ h; omega).drew
  have hF6' := hF6.extN hd6
  have hE6 : Ext (MX mt) w w6.drew := (hE3.mono fun _ _ h => h.elim).transS hF6'.ext
  have hb6 := hb.extM hm hE6
  refine hj6.ld (v := .int .u64 o) rfl ?_
  refine hj6.ldA rfl ?_
  refine hB6.ldA rfl ?_
  refine (c_whole (p := p) hb6 hF6'.cnt ho hob).mono ?_
  rintro _ w7 ⟨tb, n7, rfl, htb, heb7, hltb, hallb, hm7, -, -, he7⟩
  have hF7 := hF6'.go he7 hm7
  have hj7 := hj6.ext he7 (hF6'.cnt.ne hj6 (by decide))
  obtain ⟨b2, hpb⟩ := offE_node hbn heb7
  have hvb : tb.v = rp b2 := by show Value.pointer tb.ptr = _; rw [hpb]
  have hdb : ∀ c, tb.All c → ¬ NX u uks6 c := fun c hc hx => by
    have h1 := hF6'.fresh c hx
    have h2 := hF6'.lt hx
    rcases hallb c hc with h | h
    · have := hblt c h; omega
    · omega
  refine ⟨by show w7.cell? ⟨jb, 2, none⟩ = _; rw [hj7.cell]; rfl, ?_⟩
  rw [hvb]
  refine (c_FKid hF7 ho hne6 hpb htb hdb).mono ?_
  rintro _ w8 ⟨uks8, hF8, hne8, he8, hNX8⟩
  have hz4 : w3.heap.size ≤ w4.heap.size := hF.ext.size
  have hz6 : w3.heap.size ≤ w6.heap.size := hF6.ext.size
  refine ⟨.node u o q none uks8 (updT (updT (fun _ => .nil) x ta) y tb), n7, rfl, hF8.tree, by simp, ?_, ⟨iff_of_false hne8 (updT_cnt (by rw [hpb]; rfl)), fun d => ?_⟩, fun c hc => ?_, fun c hc => ?_, hF8.cnt, (hE3.mono fun _ _ h => h.elim).transS hF8.ext⟩
  · show E.node q none (fun d => (updT (updT (fun _ => .nil) x ta) y tb d).er) = _
    rw [updT_er, updT_er, hea5, heb7]
    rfl
  · unfold updT; split
    · exact hltb hlb
    · split
      · exact hlta hla
      · trivial
  · rcases hc with hc | ⟨d, hc⟩
    · exact .inr (.inr (by have := hF8.fresh c hc; omega))
    · unfold updT at hc; split at hc
      · rcases hallb c hc with h | h
        · exact .inr (.inl h)
        · exact .inr (.inr (by have : w6.heap.size ≤ c := h; omega))
      · split at hc
        · rcases halla c hc with h | h
          · exact .inl h
          · exact .inr (.inr (by have : w4.heap.size ≤ c := h; omega))
        · exact hc.elim
  · obtain rfl : u = c := by simpa [T.ptr] using hc
    have := hF8.fresh u (.inl rfl)
    omega
end
end Go.Proofs.YthnegkjhciakpaaGreatDoor
end
section
namespace Go.Proofs.YthnegkjhciakpaaGreatDoor
open Go X
set_option linter.unusedSimpArgs false
set_option linter.unusedVariables false
set_option linter.unusedSectionVars false
theorem merge_none {p : Nat} {x : Option Nat} : mergeO p x none = x := by cases x <;> rfl
theorem merge_isSome {p : Nat} {x y : Option Nat} : (mergeO p x y).isSome = (x.isSome || y.isSome) := by cases x <;> cases y <;> rfl
theorem pick_same {p a : Nat} (h : p ≠ 3) : pickN p a a = a := by
  unfold pickN
  split <;> first | rfl | omega | exact absurd rfl h
theorem merge_same {p : Nat} {x : Option Nat} (h : p ≠ 3) : mergeO p x x = x := by
  cases x with
  | none => rfl
  | some a => show some (pickN p a a) = _; rw [pick_same h]
/-- a longer part, as a kid -/
theorem low_get {q q' : Key} {y : UInt8} {v : Option Nat} {k : UInt8 → E} (K : Key) : (E.node (q ++ y :: q') v k).get K = (E.node q none (updE noE y (.node q' v k))).get K := by
  by_cases hp : q <+: K
  · obtain ⟨r, rfl⟩ := hp
    cases r with
    | nil => rw [List.append_nil, get_nil, get_nil']
    | cons c s =>
      rw [get_cons]
      by_cases hc : c = y
      · subst hc; rw [updE_same, get_shift]
      · rw [updE_other _ _ hc, get_other hc]; rfl
  · rw [get_no hp, get_no fun h => hp ((List.prefix_append q (y :: q')).trans h)]
/-- two nodes with one part -/
theorem merge_node {p : Nat} {q : Key} {va vb : Option Nat} {ka kb R : UInt8 → E} (h : ∀ c r, (R c).get r = mergeO p ((ka c).get r) ((kb c).get r)) (K : Key) : (E.node q (mergeO p va vb) R).get K = mergeO p ((E.node q va ka).get K) ((E.node q vb kb).get K) := by
  by_cases hp : q <+: K
  · obtain ⟨r, rfl⟩ := hp
    cases r with
    | nil => rw [List.append_nil, get_nil, get_nil, get_nil]
    | cons c s => rw [get_cons, get_cons, get_cons]; exact h c s
  · rw [get_no hp, get_no hp, get_no hp]; rfl
theorem noE_get (c : UInt8) (r : Key) : (noE c).get r = none := rfl
/-- a fork -/
theorem merge_fork {p : Nat} {q p' q' : Key} {x y : UInt8} {va vb : Option Nat} {ka kb : UInt8 → E} (hxy : x ≠ y) (K : Key) :
    (E.node q none (updE (updE noE x (.node p' va ka)) y (.node q' vb kb))).get K = mergeO p ((E.node (q ++ x :: p') va ka).get K) ((E.node (q ++ y :: q') vb kb).get K) := by
  rw [low_get (q := q) (q' := p') (y := x), low_get (q := q) (q' := q') (y := y)]
  refine merge_node (va := none) (vb := none) (fun c r => ?_) K
  by_cases hy : c = y
  · subst hy
    rw [updE_same, updE_same, updE_other _ _ (Ne.symm hxy), noE_get]; rfl
  · rw [updE_other _ _ hy, updE_other noE _ hy, noE_get, merge_none]
/-- one under the other: the upper first -/
theorem merge_under {p : Nat} {q q' : Key} {y : UInt8} {va vb : Option Nat} {ka kb : UInt8 → E} {e : E} (h : ∀ r, e.get r = mergeO p ((ka y).get r) ((E.node q' vb kb).get r)) (K : Key) :
    (E.node q va (updE ka y e)).get K = mergeO p ((E.node q va ka).get K) ((E.node (q ++ y :: q') vb kb).get K) := by
  rw [low_get (q := q) (q' := q') (y := y)]
  have := merge_node (p := p) (q := q) (va := va) (vb := none) (ka := ka) (kb := updE noE y (.node q' vb kb)) (R := updE ka y e) (fun c r => ?_) K
  · rw [merge_none] at this; exact this
  · by_cases hy : c = y
    · subst hy; rw [updE_same, updE_same]; exact h r
    · rw [updE_other _ _ hy, updE_other _ _ hy, noE_get, merge_none]
/-- .. the lower first -/
theorem merge_under' {p : Nat} {q q' : Key} {y : UInt8} {va vb : Option Nat} {ka kb : UInt8 → E} {e : E} (h : ∀ r, e.get r = mergeO p ((E.node q' vb kb).get r) ((ka y).get r)) (K : Key) :
    (E.node q va (updE ka y e)).get K = mergeO p ((E.node (q ++ y :: q') vb kb).get K) ((E.node q va ka).get K) := by
  rw [low_get (q := q) (q' := q') (y := y)]
  have := merge_node (p := p) (q := q) (va := none) (vb := va) (ka := updE noE y (.node q' vb kb)) (kb := ka) (R := updE ka y e) (fun c r => ?_) K
  · exact this
  · by_cases hy : c = y
    · subst hy; rw [updE_same, updE_same]; exact h r
    · rw [updE_other _ _ hy, updE_other _ _ hy, noE_get]; rfl
/-- what a canonical tree holds is canonical, whoever made it: a node with few things in it -/
theorem fine_fork {q : Key} {x y : UInt8} {ea eb : E} (hxy : x ≠ y) (ha : ea.Fine) (hb : eb.Fine) (ha0 : ea ≠ .nil) (hb0 : eb ≠ .nil) : (E.node q none (updE (updE noE x ea) y eb)).Fine := by
  have hsa : ea.opt.isSome = true := by cases ea with
    | nil => exact absurd rfl ha0
    | node => rfl
  have hsb : eb.opt.isSome = true := by cases eb with
    | nil => exact absurd rfl hb0
    | node => rfl
  have h1 := cntE_upd noE x ea
  have h2 := cntE_upd (updE noE x ea) y eb
  rw [cntE_no, if_pos hsa, if_neg (by show ¬ (E.nil.opt).isSome = true; decide)] at h1
  rw [updE_other _ _ (Ne.symm hxy), if_pos hsb, if_neg (by show ¬ (E.nil.opt).isSome = true; decide)] at h2
  refine fine_node (fun h => by omega) (fun _ => by omega) fun c => ?_
  unfold updE; split
  · exact hb
  · split
    · exact ha
    · trivial
end Go.Proofs.YthnegkjhciakpaaGreatDoor
end
section
namespace Go.Proofs.YthnegkjhciakpaaGreatDoor
open Go Go.RowKit X
set_option linter.unusedSimpArgs false
set_option linter.unusedVariables false
set_option linter.unusedSectionVars false
def mixV (p : Nat) (a : Kv) (x : Key × Nat) : Nat := match look a x.1 with | some w => pickN p w x.2 | none => x.2
def mixK (p : Nat) (a b : Kv) : Kv := b.map fun x => (x.1, mixV p a x)
/-- what the pairs of two trees are together -/
def unionK (p : Nat) (a b : Kv) : Kv := sortK (a ++ mixK p a b)
theorem look_mix (p : Nat) (a b : Kv) (k : Key) : look (mixK p a b) k = match look b k with | none => none | some v => mergeO p (look a k) (some v) := by
  induction b with
  | nil => rfl
  | cons x r ih =>
    show (if x.1 = k then some (mixV p a x) else look (mixK p a r) k) = match (if x.1 = k then some x.2 else look r k) with | none => none | some v => mergeO p (look a k) (some v)
    by_cases h : x.1 = k
    · rw [if_pos h, if_pos h]
      subst h
      unfold mixV
      cases look a x.1 <;> rfl
    · rw [if_neg h, if_neg h]; exact ih
theorem lookL_app (l m : Kv) (k : Key) : lookL (l ++ m) k = (lookL m k).or (lookL l k) := by
  unfold lookL
  rw [List.reverse_append, look_app]
theorem mixK_rises {p : Nat} {a b : Kv} (h : Rises b) : Rises (mixK p a b) := List.pairwise_map.2 h
theorem unionK_look {p : Nat} {a b : Kv} (ha : Rises a) (hb : Rises b) (k : Key) : look (unionK p a b) k = mergeO p (look a k) (look b k) := by
  unfold unionK
  rw [sortK_look, lookL_app, lookL_rises (mixK_rises hb), lookL_rises ha, look_mix]
  cases look b k with
  | none => rw [merge_none]; rfl
  | some v => cases look a k <;> rfl
theorem unionK_rises (p : Nat) (a b : Kv) : Rises (unionK p a b) := sortK_rises _
theorem mixK_length (p : Nat) (a b : Kv) : (mixK p a b).length = b.length := by simp [mixK]
theorem unionK_pr [Floor] {p : Nat} {a b : Kv} (ha : Pr a) (hb : Pr b) (h : a.length + b.length ≤ 100000) : Pr (unionK p a b) := by
  refine Pr.sort (by rw [List.length_append, mixK_length]; exact h) fun x hx => ?_
  rcases List.mem_append.1 hx with h | h
  · exact ha.keys x h
  · obtain ⟨y, hy, rfl⟩ := List.mem_map.1 h
    exact hb.keys y hy
theorem pick_assoc {p a b c : Nat} (hp : 1 ≤ p ∧ p ≤ 5) : pickN p (pickN p a b) c = pickN p a (pickN p b c) := by
  have h : p = 1 ∨ p = 2 ∨ p = 3 ∨ p = 4 ∨ p = 5 := by omega
  rcases h with rfl | rfl | rfl | rfl | rfl
  · rfl
  · rfl
  · show ((a + b) % 18446744073709551616 + c) % 18446744073709551616 = (a + (b + c) % 18446744073709551616) % 18446744073709551616
    omega
  · exact Nat.min_assoc ..
  · exact Nat.max_assoc ..
theorem merge_assoc {p : Nat} (hp : 1 ≤ p ∧ p ≤ 5) (x y z : Option Nat) : mergeO p (mergeO p x y) z = mergeO p x (mergeO p y z) := by
  cases x <;> cases y <;> cases z <;> first | rfl | (show some _ = some _; rw [pick_assoc hp])
def backN : Nat → Nat
  | 1 => 2
  | 2 => 1
  | p => p
theorem pick_back {p a b : Nat} (hp : 1 ≤ p ∧ p ≤ 5) : pickN (backN p) b a = pickN p a b := by
  have h : p = 1 ∨ p = 2 ∨ p = 3 ∨ p = 4 ∨ p = 5 := by omega
  rcases h with rfl | rfl | rfl | rfl | rfl
  · rfl
  · rfl
  · show (b + a) % _ = (a + b) % _
    rw [Nat.add_comm]
  · exact Nat.min_comm ..
  · exact Nat.max_comm ..
theorem merge_back {p : Nat} (hp : 1 ≤ p ∧ p ≤ 5) (x y : Option Nat) : mergeO (backN p) y x = mergeO p x y := by
  cases x <;> cases y <;> first | rfl | (show some _ = some _; rw [pick_back hp])
theorem backN_ok {p : Nat} (hp : 1 ≤ p ∧ p ≤ 5) : 1 ≤ backN p ∧ backN p ≤ 5 := by
  have h : p = 1 ∨ p = 2 ∨ p = 3 ∨ p = 4 ∨ p = 5 := by omega
  rcases h with rfl | rfl | rfl | rfl | rfl <;> exact ⟨by decide, by decide⟩
end Go.Proofs.YthnegkjhciakpaaGreatDoor
end
