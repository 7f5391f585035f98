/-  inter: what two trees share: the pieces.  -/
import Derived.Test.YtbgfmgkimccbeaaGreatDoorUni14
import Derived.Test.YtbgfmgkimccbeaaGreatDoorLeft
import Derived.Test.YtbgfmgkimccbeaaGreatDoorSAi
namespace Go.Proofs.YtbgfmgkimccbeaaGreatDoor
open Go Go.RowKit X
set_option linter.unusedSimpArgs false
set_option linter.unusedVariables false
set_option linter.unusedSectionVars false
noncomputable abbrev rstF (i : Nat) : Field := (P.fieldsOf T_inter_rest).getD i { name := "", type := 0, offset := 0, embedded := false, tag := "", pkgPath := "", byteOffset := 0 }
theorem rstF_all : (P.fieldsOf T_inter_rest).toList = [rstF 0, rstF 1] := by kernel_rfl
theorem rstF_0 : (rstF 0).name = "Node" ∧ (rstF 0).type = T_p_node_Node ∧ (rstF 0).offset = 0 := ⟨by kernel_rfl, by kernel_rfl, by kernel_rfl⟩
theorem rstF_1 : (rstF 1).name = "gone" ∧ (rstF 1).type = T_int ∧ (rstF 1).offset = 1 := ⟨by kernel_rfl, by kernel_rfl, by kernel_rfl⟩
theorem xeqv_rest {w : World} {a b : Nat} {i j : Nat} {x y : Operand} {t : Bool} {K : Bool → Prop} (h : (sameAddr ⟨a, 0, none⟩ ⟨b, 0, none⟩).run P w = .ok t w) (k : K (t && decide (i = j))) :
    XEqv P .eql T_inter_rest x y (.agg #[rp a, .int .i64 i]) (.agg #[rp b, .int .i64 j]) w K := by
  refine ⟨⟨t && decide (i = j), run_eqGuard_agg w _ _ _ _ _ _ (by kernel_rfl), ?_, k⟩⟩
  show (Op.equalIn (9999 + 1) T_inter_rest _ _).run P w = _
  rw [run_equalIn_struct w 9999 _ _ _ (by kernel_rfl) (by kernel_rfl), rstF_all]
  obtain ⟨n0, t0, o0⟩ := rstF_0
  obtain ⟨n1, t1, o1⟩ := rstF_1
  have e1 : (((i : Nat) : Int) == (j : Int)) = decide (i = j) := by
    by_cases e : i = j
    · subst e; simp
    · rw [decide_eq_false e]; exact beq_eq_false_iff_ne.2 (by omega)
  have hint : (Op.equalIn 9999 T_int (.int .i64 (i : Int)) (.int .i64 (j : Int))).run P w = .ok (decide (i = j)) w := by
    have := run_equalIn_int w 9998 T_int .i64 .i64 (i : Int) (j : Int) und_int
    rw [e1] at this
    exact this
  obtain ⟨inf, hinf⟩ := inf_node
  refine eq_two (x0 := rp a) (y0 := rp b) (x1 := .int .i64 (i : Int)) (y1 := .int .i64 (j : Int)) (by rw [n0]; decide) (by rw [n1]; decide) ?_ ?_ ?_ ?_ ?_ ?_
  · rw [t0, o0]; exact part_cell und_ptr agg_ptr rfl
  · rw [t0, o0]; exact part_cell und_ptr agg_ptr rfl
  · rw [t0]; exact eq_ptr_g (d := 9998) und_ptr hinf (by rw [size_node]; decide) h
  · rw [t1, o1]; exact part_cell und_int agg_int rfl
  · rw [t1, o1]; exact part_cell und_int agg_int rfl
  · rw [t1]; exact hint
/-- two values, if both are -/
def interO (p : Nat) : Option Nat → Option Nat → Option Nat
  | some a, some b => some (pickN p a b)
  | _, _ => none
theorem interO_none {p : Nat} {x : Option Nat} : interO p x none = none := by cases x <;> rfl
theorem interO_self {p : Nat} (h : p ≠ 3) (hp : 1 ≤ p ∧ p ≤ 5) (x : Option Nat) : interO p x x = x := by
  cases x with
  | none => rfl
  | some v =>
    show some (pickN p v v) = some v
    obtain ⟨h1, h2⟩ := hp
    match p, h1, h2, h with
    | 1, _, _, _ => rfl
    | 2, _, _, _ => rfl
    | 3, _, _, h => exact absurd rfl h
    | 4, _, _, _ => simp [pickN]
    | 5, _, _, _ => simp [pickN]
/-- what both have, by a key of the first one's -/
def gI (p : Nat) (a b : E) (oa ob : Nat) (k : Key) : Option Nat := interO p (a.get k) ((offE ob b).get (k.drop oa))
abbrev restV (t : T) (off : Nat) : Value := .agg #[t.v, .int .i64 off]
abbrev sivV (p o : Nat) (mt : Option Mtr) : Value := .agg #[.int .i64 p, .int .u64 o, mv mt]
abbrev sivC (p o : Nat) (mt : Option Mtr) : List Value := [.int .i64 p, .int .u64 o, mv mt]
theorem E.fine_some {e : E} (hf : e.Fine) (h : e ≠ .nil) : ∃ k v, e.get k = some v := by
  refine hf.some_key fun e' => ?_
  exact h e'
variable [Floor]
section
variable {ap bp : Key} {av bv' : Option Nat} {ak bk : UInt8 → E} {p oa ob : Nat}
theorem drop_app {ap r : Key} {oa : Nat} (h : oa ≤ ap.length) : (ap ++ r).drop oa = ap.drop oa ++ r := by rw [List.drop_append_of_le_length h]
/-- keys that part -/
theorem gI_apart {c : Key} {x y : UInt8} {q r : Key} (h : oa ≤ ap.length) (hxy : x ≠ y) (h1 : ap.drop oa = c ++ x :: q) (h2 : bp.drop ob = c ++ y :: r) (k : Key) : gI p (.node ap av ak) (.node bp bv' bk) oa ob k = none := by
  unfold gI
  by_cases hk : ap <+: k
  · obtain ⟨s, rfl⟩ := hk
    rw [drop_app h, h1]
    show interO p _ ((E.node (bp.drop ob) bv' bk).get (c ++ x :: q ++ s)) = none
    rw [h2, show c ++ x :: q ++ s = c ++ x :: (q ++ s) by simp, get_other hxy]
    exact interO_none
  · rw [get_no hk]; rfl
/-- the second one's part is the longer one -/
theorem gI_one {y : UInt8} {q : Key} {e : E} {ob' : Nat} (h : oa ≤ ap.length) (h2 : bp.drop ob = ap.drop oa ++ y :: q) (hq : bp.drop ob' = q) (he : Can e (gI p (ak y) (.node bp bv' bk) 0 ob')) (hak : ∀ c, (ak c).Fine) : Can (normE ap none (updE noE y e)) (gI p (.node ap av ak) (.node bp bv' bk) oa ob) := by
  refine ⟨normE_fine fun c => ?_, fun k => ?_⟩
  · unfold updE
    split
    · exact he.fine
    · trivial
  rw [normE_get]
  unfold gI
  by_cases hk : ap <+: k
  · obtain ⟨s, rfl⟩ := hk
    rw [drop_app h]
    show _ = interO p _ ((E.node (bp.drop ob) bv' bk).get (ap.drop oa ++ s))
    rw [h2]
    cases s with
    | nil =>
      rw [List.append_nil, List.append_nil, get_nil, get_nil, get_nil']
      exact interO_none.symm
    | cons c s =>
      rw [get_cons, get_cons]
      by_cases e' : c = y
      · subst e'
        rw [updE_same, get_shift, he.get s, ← hq]
        show interO p _ ((offE ob' (E.node bp bv' bk)).get (s.drop 0)) = _
        rfl
      · rw [updE_other _ _ e', get_other (fun h => e' h)]
        exact interO_none.symm
  · rw [get_no hk, get_no hk]; rfl
/-- the first one's part is the longer one -/
theorem gI_deep {x : UInt8} {q : Key} {oa' : Nat} (h : oa ≤ ap.length) (h' : oa' ≤ ap.length) (h1 : ap.drop oa = bp.drop ob ++ x :: q) (hq : ap.drop oa' = q) (k : Key) : gI p (.node ap av ak) (.node bp bv' bk) oa ob k = gI p (.node ap av ak) (bk x) oa' 0 k := by
  unfold gI
  by_cases hk : ap <+: k
  · obtain ⟨s, rfl⟩ := hk
    rw [drop_app h, drop_app h', hq, offE_zero]
    show interO p _ ((E.node (bp.drop ob) bv' bk).get (ap.drop oa ++ s)) = _
    rw [h1, show bp.drop ob ++ x :: q ++ s = bp.drop ob ++ x :: (q ++ s) by simp, get_cons]
  · rw [get_no hk]; rfl
/-- both end at once -/
theorem gI_level {val : Option Nat} {kids : UInt8 → E} (h : oa ≤ ap.length) (h1 : bp.drop ob = ap.drop oa) (hv : val = interO p av bv') (hk : ∀ c, Can (kids c) (gI p (ak c) (bk c) 0 0)) : Can (normE ap val kids) (gI p (.node ap av ak) (.node bp bv' bk) oa ob) := by
  refine ⟨normE_fine fun c => (hk c).fine, fun k => ?_⟩
  rw [normE_get]
  unfold gI
  by_cases hk' : ap <+: k
  · obtain ⟨s, rfl⟩ := hk'
    rw [drop_app h]
    show _ = interO p _ ((E.node (bp.drop ob) bv' bk).get (ap.drop oa ++ s))
    rw [h1]
    cases s with
    | nil => rw [List.append_nil, List.append_nil, get_nil, get_nil, get_nil, hv]
    | cons c s =>
      rw [get_cons, get_cons, get_cons, (hk c).get s]
      unfold gI
      rw [offE_zero]; rfl
  · rw [get_no hk', get_no hk']; rfl
end
section
variable {w w' : World} {a b : T} {p o n oa ob off m : Nat} {mt : Option Mtr}
theorem oth_sieve : Oth T_inter_sieve := by unfold Oth; decide
theorem c_rstLeft (ht : Tree w a) (ho : off ≤ a.part.length) : Ret P n_inter_rest_left [restV a off] w fun r w' => Bs w' r (a.part.drop off) ∧ Ext No w w' := by
  refine W_inter_rest_left ?_
  refine xnew fun eb w1 heb hE hz he => ?_
  have hE : Blk w1 eb [a.v, .int .i64 off] T_inter_rest := hE
  have hd := Ext.drew (Ext.refl No w1)
  refine hE.drew.ld (v := a.v) rfl ?_
  refine hE.drew.ld (v := .int .i64 off) rfl ?_
  refine (c_Part ((ht.extN he).extN hd)).mono ?_
  rintro pv w2 ⟨hpv, he2⟩
  have hE2 := hE.drew.ext he2 fun h => h
  refine ⟨?_, ?_⟩
  · show w2.cell? ((⟨eb, 0, none⟩ : Addr).add 1) = _
    rw [Addr.add_lit, hE2.cell]; rfl
  · exact hpv.drop off rfl ho fun v' hv' => ⟨hv', (he.transN hd).transN he2⟩
theorem c_rstPast (hb : off + m + 1 < 4611686018427387904) : Ret P n_inter_rest_past [restV a off, .int .i64 m] w fun r w' => r = restV a (off + m + 1) ∧ Ext No w w' := by
  refine W_inter_rest_past ?_
  refine xnew fun eb w1 heb hE hz he => ?_
  have hE : Blk w1 eb [a.v, .int .i64 off] T_inter_rest := hE
  refine xnew fun fb w2 hfb hF hz2 he2 => ?_
  have hE2 := hE.ext he2 fun h => h
  refine hE2.ld (v := a.v) rfl ?_
  refine hE2.ld (v := .int .i64 off) rfl ?_
  refine xi (r := ((off + m : Nat) : Int)) (by rw [wrapI (by omega)]; omega) ?_
  refine xi (r := ((off + m + 1 : Nat) : Int)) (by rw [wrapI (by omega)]; omega) ?_
  refine store2 hF (by kernel_rfl) rfl rfl fun w3 hb3 hz3 he3 => ?_
  exact hb3.ldA rfl ⟨rfl, (he.transN he2).trans1 he3 (by omega)⟩
theorem c_rstDown {c : UInt8} (ht : Tree w a) : Ret P n_inter_rest_down [restV a off, bv c] w fun r w' => r = restV (a.kid c) 0 ∧ Ext No w w' := by
  refine W_inter_rest_down ?_
  refine xnew fun eb w1 heb hE hz he => ?_
  have hE : Blk w1 eb [a.v, .int .i64 off] T_inter_rest := hE
  refine xnew fun fb w2 hfb hF hz2 he2 => ?_
  have hE2 := hE.ext he2 fun h => h
  refine hE2.ld (v := a.v) rfl ?_
  refine (c_Kid (ht.extN (he.transN he2)) (b := c)).mono ?_
  rintro _ w3 ⟨rfl, he3⟩
  have hz1 := he.size
  have hz2' := he2.size
  refine store2 (hF.ext he3 fun h => h) (by kernel_rfl) rfl rfl fun w4 hb4 hz4 he4 => ?_
  exact hb4.ldA rfl ⟨rfl, ((he.transN he2).transN he3).trans1 he4 (by omega)⟩
/-- what both have, in memory -/
structure IR (w w' : World) (p : Nat) (a b : T) (oa ob : Nat) (t' : T) (mt : Option Mtr) (n n' : Nat) : Prop where
  tree : Tree w' t'
  cnt : Mt w' mt n'
  ext : Ext (MX mt) w w'
  all : ∀ c, t'.All c → a.All c ∨ w.heap.size ≤ c
  leafy : t'.Leafy
  can : Can t'.er (gI p a.er b.er oa ob)
  idle : (∀ k, gI p a.er b.er oa ob k = a.er.get k) → t' = a ∧ n' = n
theorem IR.from' {w0 : World} {t' : T} {n' : Nat} (h : IR w w' p a b oa ob t' mt n n') (e : Ext No w0 w) : IR w0 w' p a b oa ob t' mt n n' :=
  ⟨h.tree, h.cnt, (e.mono fun _ _ h => h.elim).transS h.ext, fun c hc => (h.all c hc).imp id fun h => by have := e.size; omega, h.leafy, h.can, h.idle⟩
/-- nothing is shared -/
theorem IR.none (hf : a.er.Fine) (hm : Mt w mt n) (h : ∀ k, gI p a.er b.er oa ob k = none) : IR w w p a b oa ob .nil mt n n :=
  ⟨trivial, hm, Ext.refl _ _, fun c hc => hc.elim, trivial, Can.nil.congr fun k => (h k).symm, fun hk => by
    refine ⟨?_, rfl⟩
    cases a with
    | nil => rfl
    | node =>
      obtain ⟨k, v, hkv⟩ := E.fine_some hf (by simp [T.er])
      have := hk k
      rw [h k, hkv] at this
      cases this⟩
end
end Go.Proofs.YtbgfmgkimccbeaaGreatDoor
