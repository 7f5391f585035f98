/-  slices.Concat of bytes.  -/
import Derived.Test.YtidkkkdlaclolaaGreatNode
import Derived.Lib.AppendZeros
import Derived.Test.YtidkkkdlaclolaaGreatPut
import Derived.Test.YtidkkkdlaclolaaGreatStr
import Derived.Test.YtidkkkdlaclolaaGreatSub
section
namespace Go.Proofs.YtidkkkdlaclolaaGreat
open Go Go.RowKit X
set_option linter.unusedSimpArgs false
set_option linter.unusedVariables false
set_option linter.unusedSectionVars false
theorem intU : P.underlying T_int = some (.int .i64) := by kernel_rfl
/-- append of a number of zero values to nothing -/
theorem app_zeros {w : World} {n : Nat} {ty : TypeId} {K : Value → World → Prop} (h0 : 0 < n) (hn : n ≤ 100000000) (k : ∀ v' w' xs, Own w' w.heap.size T_uint8 1 v' n xs → Ext No w w' → K v' w') :
    XRun P (Builtin.append_ #[T_s_uint8, T_int] ty #[.slice none 0 0, .int .i64 n]) w K := by
  obtain ⟨i, hi1, hi2, hi3, hi4⟩ := ei_u8.parts
  have hr := Go.Lib.run_append_nil_zeros (P := P) w T_s_uint8 T_int ty T_uint8 i (.int .u8 0) .i64 .i64 ei_u8.u intU hi1 hi2 n h0 (by omega) (by omega) (by rw [hi4]; omega)
  have hge := grownCap_ge w n 0 T_uint8
  have hcm : grownCap w n 0 T_uint8 ≤ maxLen := grownCap_le_maxLen w n 0 T_uint8 (by unfold maxLen; omega)
  have hzs : (Value.int IntKind.u8 0).cells.size = 1 := rfl
  have hsz : (Builtin.zeroCells (Value.int IntKind.u8 0).cells n ++ Builtin.zeroCells (Value.int IntKind.u8 0).cells (grownCap w n 0 T_uint8 - n)).size = grownCap w n 0 T_uint8 * 1 := by
    simp only [Array.size_append, size_zeroCells, hzs]
    omega
  refine ⟨_, _, hr, k _ _ (List.take (n * 1) (Builtin.zeroCells (Value.int IntKind.u8 0).cells n ++ Builtin.zeroCells (Value.int IntKind.u8 0).cells (grownCap w n 0 T_uint8 - n)).toList) ⟨?_, .inr ⟨w.heap.size, _, _, rfl, Nat.le_refl _, heap_alloc_new w.drew _, hge, hcm, hsz, rfl⟩⟩ ⟨rfl, rfl, rfl, by simp, fun k hk _ => heap_alloc_old w.drew _ hk⟩⟩
  rw [List.length_take, Array.length_toList, hsz]
  omega
variable [Floor]
theorem c_Grow {w : World} {n : Nat} (hn : n ≤ 100000000) : Ret P n_slices_Grow_byte [.slice none 0 0, .int .i64 n] w fun r w' => Own w' w.heap.size T_uint8 1 r 0 [] ∧ Ext No w w' := by
  refine W_slices_Grow_byte ?_
  refine xj (fun vs w' => w = w') ?_ ?_
  · exact xifF (by simp) rfl
  rintro vs g w1 rfl
  refine xj (fun vs w' => ∃ x v, vs = [x, v] ∧ Own w' w.heap.size T_uint8 1 v 0 [] ∧ Ext No w w') ?_ ?_
  · refine xi (r := 0) (by decide) ?_
    refine xi (r := (n : Int)) (by rw [wrapI (by omega)]; omega) ?_
    refine xifD (fun h => ?_) fun h => ⟨_, _, rfl, Own.nil _ _ _ _, Ext.refl _ _⟩
    refine xcutH 0 rfl (Nat.le_refl _) ?_
    refine app_zeros (by omega) hn fun v w2 xs hv he => ?_
    refine Bs.len (w := w2) (bs := []) Sl.nil ?_
    refine X.Own.cut hv 0 rfl (by omega) fun v' hv' _ => ?_
    rw [List.take_zero] at hv'
    exact ⟨_, _, rfl, hv', he⟩
  · rintro vs g w2 ⟨x, v, rfl, hv, he⟩
    exact ⟨hv, he⟩
theorem lenF_append (a b : List Key) : (a ++ b).flatten = a.flatten ++ b.flatten := List.flatten_append
/-- slices.Concat of rows of bytes -/
theorem c_Concat {w : World} {Q : Nat → TypeId → Prop} {vs : Value} {cells : List Value} {ls : List Key} (hfl : Floor.n ≤ w.heap.size) (h : Sl w Q vs 1 ls.length cells) (hls : ∀ i (hi : i < ls.length), ∃ x, cells[i]? = some x ∧ Bs w x ls[i]) (hn : ls.flatten.length ≤ 100000000) (hm : ls.length ≤ 1000) :
    Ret P n_slices_Concat_byte [vs] w fun r w' => Bs w' r ls.flatten ∧ Ext No w w' := by
  have hpre : ∀ i, (ls.take i).flatten.length ≤ ls.flatten.length := fun i => by
    have := congrArg (fun l : List Key => l.flatten.length) (List.take_append_drop i ls)
    simp only [lenF_append, List.length_append] at this
    omega
  have hstep : ∀ i (hi : i < ls.length), (ls.take (i + 1)).flatten = (ls.take i).flatten ++ ls[i] := fun i hi => by
    rw [← List.take_append_getElem hi, lenF_append]
    simp
  refine W_slices_Concat_byte ?_
  refine xLen_sl h ?_
  refine xloop (fun n vs' w' => ∃ (i : Nat) (x : Value), vs' = [.int .i64 i, x, .int .i64 ((ls.take i).flatten.length : Nat)] ∧ n = ls.length - i ∧ i ≤ ls.length ∧ w = w') ls.length ⟨0, _, rfl, rfl, by omega, rfl⟩ ?_
  rintro n vs' g w1 ⟨i, x, rfl, rfl, hi, rfl⟩
  unfold S_slices_Concat_byte_l2
  refine xifD (fun hlt => ?_) fun hnl => ?_
  · have hil : i < ls.length := by omega
    obtain ⟨y, hy, hby⟩ := hls i hil
    have h1 := hpre (i + 1)
    have h2 := hstep i hil
    have h3 := congrArg List.length h2
    rw [List.length_append] at h3
    refine xj (fun vs' w' => ∃ x', vs' = [x', .int .i64 ((ls.take (i + 1)).flatten.length : Nat)] ∧ w = w') ?_ ?_
    · refine h.rd1 i rfl hil hy ?_
      refine hby.len ?_
      refine xi (r := (((ls.take (i + 1)).flatten.length : Nat) : Int)) (by rw [wrapI (by omega)]; omega) ?_
      refine xifF (by simp) ?_
      exact ⟨_, rfl, rfl⟩
    · rintro vs'' g w2 ⟨x', rfl, rfl⟩
      refine xi (r := ((i + 1 : Nat) : Int)) (by rw [wrapI (by omega)]; omega) ?_
      exact xnext (ls.length - (i + 1)) (by omega) ⟨i + 1, _, rfl, rfl, by omega, rfl⟩
  · have : i = ls.length := by omega
    subst this
    rw [List.take_length]
    refine (c_Grow hn).mono ?_
    rintro r w1 ⟨hr, he1⟩
    refine xLen_sl h ?_
    refine xloop (fun n vs' w' => ∃ (i : Nat) (x v : Value), vs' = [.int .i64 i, x, v] ∧ n = ls.length - i ∧ i ≤ ls.length ∧ Own w' w.heap.size T_uint8 1 v (ls.take i).flatten.length ((ls.take i).flatten.map bv) ∧ Ext No w w') ls.length ⟨0, _, _, rfl, rfl, by omega, hr, he1⟩ ?_
    rintro n vs' g w2 ⟨i, x, v, rfl, rfl, hi, hv, he2⟩
    unfold S_slices_Concat_byte_l1
    refine xifD (fun hlt => ?_) fun hnl => ?_
    · have hil : i < ls.length := by omega
      obtain ⟨y, hy, hby⟩ := hls i hil
      have h1 := hpre (i + 1)
      have h2 := hstep i hil
      have h3 := congrArg List.length h2
      rw [List.length_append] at h3
      refine (Sl.extN h he2).rd1 i rfl hil hy ?_
      refine app_own ei_u8 hv he2.size (hby.extN he2) (by simp only [List.mem_map]; rintro u ⟨c, -, rfl⟩; rfl) (by omega) (by omega) fun v' w3 hv' he3 _ _ => ?_
      refine xi (r := ((i + 1 : Nat) : Int)) (by rw [wrapI (by omega)]; omega) ?_
      refine xnext (ls.length - (i + 1)) (by omega) ⟨i + 1, _, v', rfl, rfl, by omega, ?_, he2.own hv (Nat.le_refl _) he3⟩
      rw [h2, List.length_append, List.map_append]
      exact hv'
    · have : i = ls.length := by omega
      subst this
      rw [List.take_length] at hv
      exact ⟨Bs.of hv.sl, he2⟩
end Go.Proofs.YtidkkkdlaclolaaGreat
end
section
namespace Go.Proofs.YtidkkkdlaclolaaGreat
open Go Go.RowKit X
set_option linter.unusedSimpArgs false
set_option linter.unusedVariables false
set_option linter.unusedSectionVars false
variable [Floor]
abbrev takV (o : Nat) (mt : Option Mtr) : Value := .agg #[.int .u64 o, mv mt]
abbrev takC (o : Nat) (mt : Option Mtr) : List Value := [.int .u64 o, mv mt]
theorem oth_tak : Oth T_del_taker := by unfold Oth; decide
theorem Bs.new2 {w : World} {b : Nat} {k : Key} (h : Blk w b (k.map bv) T_uint8) : Bs w (.slice (some ⟨b, 0, none⟩) k.length k.length) k := by
  have := h.sl (o := 0) (n := k.length) (cap := k.length) (by simp) (Nat.le_refl _)
  rw [List.drop_zero, List.take_of_length_le (by simp)] at this
  exact Bs.of this
/-- an operation on a kid is one on the tree -/
theorem Res.ofKid {w w' : World} {a ow o n : Nat} {part : Key} {val : Option Nat} {ks : List Nat} {kids : UInt8 → T} {c : UInt8} {t' : T} {mt : Option Mtr} (h : Res w w' o (kids c) t' mt n) : Res w w' o (.node a ow part val ks kids) t' mt n :=
  ⟨h.tree, h.ext.mono fun b _ hb => hb.imp id fun hb => .inr ⟨c, hb⟩, h.cnt, fun b hb => (h.all b hb).imp (fun hb => .inr ⟨c, hb⟩) id, fun b hb => (h.foot b hb).imp (fun hb => .inr ⟨c, hb⟩) id, h.sep⟩
section
variable {w : World} {a ow o : Nat} {part : Key} {val : Option Nat} {ks : List Nat} {kids : UInt8 → T} {mt : Option Mtr} {n : Nat}
/-- the three pieces of a lifted part, joined, and set -/
theorem c_join {w1 : World} {b1 : Nat} {p q : Key} {c : UInt8} {v1 v3 : Value} {K : Value → World → Prop} {A : World → Prop} (hA : ∀ w', Ext No w1 w' → A w') (hfl : Floor.n ≤ w1.heap.size) (h1 : Bs w1 v1 p) (hb : Blk w1 b1 [bv c] T_uint8) (h3 : Bs w1 v3 q) (hn : p.length + 1 + q.length ≤ 65535)
    (k : ∀ v' w', Bs w' v' (p ++ c :: q) → Ext No w1 w' → K v' w') :
    XNew w1 [v1, .slice (some ⟨b1, 0, none⟩) 1 1, v3] T_s_uint8 fun ad w2 => A w2 ∧ Ret P n_del_join [.slice (some ad) 3 3] w2 K := by
  refine xnew fun nb w2 hnb hblk hz he => ⟨hA _ he, ?_⟩
  refine W_del_join ?_
  have hsl : Sl w2 (tyQ T_s_uint8) (.slice (some ⟨nb, 0, none⟩) 3 3) 1 [p, [c], q].length [v1, .slice (some ⟨b1, 0, none⟩) 1 1, v3] := hblk.sln rfl
  have hz2 := he.size
  refine (c_Concat (by omega) hsl (fun i hi => ?_) (by simp; omega) (by simp)).mono ?_
  · match i, hi with
    | 0, _ => exact ⟨v1, rfl, h1.extN he⟩
    | 1, _ => exact ⟨_, rfl, (Bs.new2 (k := [c]) hb).extN he⟩
    | 2, _ => exact ⟨v3, rfl, h3.extN he⟩
    | n + 3, h => exact absurd h (by simp)
  · rintro r w3 ⟨hr, he3⟩
    refine k r w3 ?_ (he.transN he3)
    simpa using hr
theorem c_lift {a1 ow1 : Nat} {p1 : Key} {v1 : Option Nat} {ks1 : List Nat} {kids1 : UInt8 → T} {c : UInt8} (ht : Tree w (.node a ow part val ks kids)) (hs : (T.node a ow part val ks kids).Sep o) (hm : Mt w mt n) (ho : o ≠ 0) (hk : kids c = .node a1 ow1 p1 v1 ks1 kids1) (hlen : part.length + 1 + p1.length ≤ 65535) :
    Ret P n_del_taker_lift [takV o mt, (T.node a ow part val ks kids).v, bv c, (kids c).v] w fun r w' => ∃ u uks n', r = rp u ∧ Res w w' o (kids c) (.node u o (part ++ c :: p1) v1 uks kids1) mt n' ∧ (uks = [] ↔ ks1 = []) ∧ n' ≤ n + 1 ∧ (o = ow1 → n' = n) := by
  refine W_del_taker_lift ?_
  refine xnew fun pb w1 hpb hblk hz he => ?_
  have hblk : Blk w1 pb (takC o mt) T_del_taker := hblk
  have ht1 := ht.extN he
  have hm1 := hm.extN he
  have hk1 : Tree w1 (.node a1 ow1 p1 v1 ks1 kids1) := by rw [← hk]; exact ht1.2 c
  have hs1 : (T.node a1 ow1 p1 v1 ks1 kids1).Sep o := by rw [← hk]; exact hs.1 c
  rw [hk]
  refine hblk.ld (v := mv mt) rfl ?_
  refine hblk.ld (v := .int .u64 o) rfl ?_
  refine (c_HOwn (Res.start hk1 hs1 hm1).h ho).mono ?_
  rintro _ w2 ⟨u, uks, n', rfl, hH, hiff, he2, hle, hmine⟩
  have hd := Ext.drew (Ext.refl No w2)
  have hblk2 := (hblk.ext he2 (hm1.ne hblk (by decide))).drew
  have ht2 := (ht1.extM hm1 he2).extN hd
  have hk2 := (hk1.extM hm1 he2).extN hd
  have hR2 := (hH.extN hd).res rfl
  have hfl2 := (hR2.cnt).fl
  refine hblk2.ld (v := .int .u64 o) rfl ?_
  have keep : ∀ w', Ext No w2.drew w' → xKeep1 w' (.pointer (some ((⟨pb, 0, none⟩ : Addr).add 0))) (.int .u64 o) := fun w' e => by
    show w'.cell? ⟨pb, 0, none⟩ = _
    rw [(hblk2.ext e fun h => h).cell]; rfl
  have fin : ∀ v' w', Bs w' v' (part ++ c :: p1) → Ext No w2.drew w' → Ret P n_node_Node_SetPart [rp u, .int .u64 o, v'] w' fun _ w' => ∃ u' uks n', rp u = rp u' ∧ Res w w' o (.node a1 ow1 p1 v1 ks1 kids1) (.node u' o (part ++ c :: p1) v1 uks kids1) mt n' ∧ (uks = [] ↔ ks1 = []) ∧ n' ≤ n + 1 ∧ (o = ow1 → n' = n) := fun v' w' hv e => by
    refine (c_RPart (hR2.extN e) ho hv (by simp; omega)).mono ?_
    rintro _ w3 ⟨hR3, -⟩
    exact ⟨u, uks, n', rfl, hR3.from' he, hiff, hle, fun e => (hmine e).2.2⟩
  refine ⟨?_, ?_⟩
  · refine (c_Part ht2).mono ?_
    rintro pv w3 ⟨hpv, he3⟩
    have hpv : Bs w3 pv part := hpv
    obtain ⟨ad, cp, rfl⟩ := hpv.slice
    refine ⟨keep _ he3, ?_, ?_⟩
    · show XNew w3 ([c].map bv) T_uint8 _
      refine xnew fun b1 w4 hb1 hb1k hz4 he4 => ⟨keep _ (he3.transN he4), ?_⟩
      refine (c_Part (hk2.extN (he3.transN he4))).mono ?_
      rintro qv w5 ⟨hqv, he5⟩
      have hqv : Bs w5 qv p1 := hqv
      obtain ⟨ad', cp', rfl⟩ := hqv.slice
      have hE5 := (he3.transN he4).transN he5
      refine ⟨keep _ hE5, ?_⟩
      exact c_join (A := fun w' => xKeep1 w' (.pointer (some ((⟨pb, 0, none⟩ : Addr).add 0))) (.int .u64 o)) (fun w' e => keep _ (hE5.transN e)) (Nat.le_trans hfl2 hE5.size) (hpv.extN (he4.transN he5)) (hb1k.ext he5 fun h => h) hqv hlen fun v' w' hv e => ⟨keep _ (hE5.transN e), fin v' w' hv (hE5.transN e)⟩
    · refine (c_Part (hk2.extN he3)).mono ?_
      rintro qv w4 ⟨hqv, he4⟩
      have hqv : Bs w4 qv p1 := hqv
      obtain ⟨ad', cp', rfl⟩ := hqv.slice
      refine ⟨keep _ (he3.transN he4), ?_⟩
      show XNew w4 ([c].map bv) T_uint8 _
      refine xnew fun b1 w5 hb1 hb1k hz5 he5 => ?_
      have hE5 := (he3.transN he4).transN he5
      refine ⟨keep _ hE5, ?_⟩
      exact c_join (A := fun w' => xKeep1 w' (.pointer (some ((⟨pb, 0, none⟩ : Addr).add 0))) (.int .u64 o)) (fun w' e => keep _ (hE5.transN e)) (Nat.le_trans hfl2 hE5.size) (hpv.extN (he4.transN he5)) hb1k (hqv.extN he5) hlen fun v' w' hv e => ⟨keep _ (hE5.transN e), fin v' w' hv (hE5.transN e)⟩
  · show XNew w2.drew ([c].map bv) T_uint8 _
    refine xnew fun b1 w3 hb1 hb1k hz3 he3 => ⟨keep _ he3, ?_⟩
    refine (c_Part (ht2.extN he3)).mono ?_
    rintro pv w4 ⟨hpv, he4⟩
    have hpv : Bs w4 pv part := hpv
    obtain ⟨ad, cp, rfl⟩ := hpv.slice
    refine ⟨keep _ (he3.transN he4), ?_⟩
    refine (c_Part (hk2.extN (he3.transN he4))).mono ?_
    rintro qv w5 ⟨hqv, he5⟩
    have hqv : Bs w5 qv p1 := hqv
    obtain ⟨ad', cp', rfl⟩ := hqv.slice
    have hE5 := (he3.transN he4).transN he5
    refine ⟨keep _ hE5, ?_⟩
    exact c_join (A := fun w' => xKeep1 w' (.pointer (some ((⟨pb, 0, none⟩ : Addr).add 0))) (.int .u64 o)) (fun w' e => keep _ (hE5.transN e)) (Nat.le_trans hfl2 hE5.size) (hpv.extN he5) (hb1k.ext (he4.transN he5) fun h => h) hqv hlen fun v' w' hv e => ⟨keep _ (hE5.transN e), fin v' w' hv (hE5.transN e)⟩
end
/-- what an operation that makes less of a tree makes of it -/
structure DelR (w w' : World) (o : Nat) (t t' : T) (mt : Option Mtr) (n n' : Nat) (e : E) : Prop where
  res : Res w w' o t t' mt n'
  er : t'.er = e
  leafy : t.Leafy → t'.Leafy
  own : ∀ q : Nat → Prop, q o → t.OwQ q → t'.OwQ q
  root : ∀ a, t.ptr = some ⟨a, 0, none⟩ → ∃ cs T, Blk w' a cs T
  nil : t' = .nil → Ext No w w' ∧ n' = n
  pot : n' + t'.pot o ≤ n + t.pot o + 1
  up : t.Up o → t'.Up o ∧ (t' = .nil ∨ t'.Top o ∨ t' = t)
theorem DelR.from' {w w1 w2 : World} {o n n' : Nat} {t t' : T} {mt : Option Mtr} {e : E} (he : Ext No w w1) (h : DelR w1 w2 o t t' mt n n' e) : DelR w w2 o t t' mt n n' e :=
  ⟨h.res.from' he, h.er, h.leafy, h.own, h.root, fun e => ⟨he.transN (h.nil e).1, (h.nil e).2⟩, h.pot, h.up⟩
theorem kids_cnt {kids : UInt8 → T} : cntE (fun c => (kids c).er) = cnt (ptrs kids) := X.cnt_congr' fun c => T.er_opt (kids c)
theorem long_kid {a ow : Nat} {part : Key} {val : Option Nat} {ks : List Nat} {kids : UInt8 → T} {c : UInt8} (h : c ∈ dom (ptrs kids)) : part.length + 1 + (kids c).er.long ≤ (T.node a ow part val ks kids).er.long := by
  have hlong : (T.node a ow part val ks kids).er.long = maxL ((dom (ptrs kids)).map fun c => (kids c).er.long + 1) + part.length := by
    show (E.node part val fun c => (kids c).er).long = _
    rw [E.long_node, dom_er]
  have := maxL_le (l := (dom (ptrs kids)).map fun c => (kids c).er.long + 1) (List.mem_map.2 ⟨c, h, rfl⟩)
  omega
theorem long_part {a ow : Nat} {part : Key} {val : Option Nat} {ks : List Nat} {kids : UInt8 → T} : part.length ≤ (T.node a ow part val ks kids).er.long := by
  have hlong : (T.node a ow part val ks kids).er.long = maxL ((dom (ptrs kids)).map fun c => (kids c).er.long + 1) + part.length := by
    show (E.node part val fun c => (kids c).er).long = _
    rw [E.long_node, dom_er]
  omega
theorem kid_node {kids : UInt8 → T} {c : UInt8} (h : c ∈ dom (ptrs kids)) : ∃ a ow p v ks k, kids c = .node a ow p v ks k := by
  have h := dom_mem.1 h
  cases e : kids c with
  | nil => simp [ptrs, e, T.ptr] at h
  | node => exact ⟨_, _, _, _, _, _, rfl⟩
theorem kid_nil {kids : UInt8 → T} {c : UInt8} (h : c ∉ dom (ptrs kids)) : kids c = .nil := by
  cases e : kids c with
  | nil => rfl
  | node => exact absurd (dom_mem.2 (by simp [ptrs, e, T.ptr])) h
section
variable {w : World} {a ow o : Nat} {part : Key} {val : Option Nat} {ks : List Nat} {kids : UInt8 → T} {mt : Option Mtr} {n : Nat}
/-- a kid lifted into the node's place -/
theorem c_DLift {c : UInt8} {e : E} (ht : Tree w (.node a ow part val ks kids)) (hs : (T.node a ow part val ks kids).Sep o) (hm : Mt w mt n) (ho : o ≠ 0) (hlong : (T.node a ow part val ks kids).er.long ≤ 65535) (hc : c ∈ dom (ptrs kids)) (he : e = liftE part c (kids c).er) :
    Ret P n_del_taker_lift [takV o mt, (T.node a ow part val ks kids).v, bv c, (kids c).v] w fun r w' => ∃ t' n', r = t'.v ∧ DelR w w' o (.node a ow part val ks kids) t' mt n n' e ∧ n' ≤ n + 1 ∧ ∀ k, (T.node a ow part val ks kids).Sh t' k := by
  obtain ⟨a1, ow1, p1, v1, ks1, kids1, hk⟩ := kid_node hc
  have h1 := long_kid (a := a) (ow := ow) (part := part) (val := val) (ks := ks) hc
  have h2 := long_part (a := a1) (ow := ow1) (part := p1) (val := v1) (ks := ks1) (kids := kids1)
  rw [← hk] at h2
  refine (c_lift ht hs hm ho hk (by omega)).mono ?_
  rintro _ w1 ⟨u, uks, n', rfl, hR, hiff, hle, -⟩
  obtain ⟨pv, hb, -⟩ := ht.1.blk
  refine ⟨.node u o (part ++ c :: p1) v1 uks kids1, n', rfl, ⟨hR.ofKid, ?_, fun hl => ?_, fun q hq h => ?_, fun a' ha' => ?_, (fun e => by cases e), ?_, fun hu => ⟨⟨.inl rfl, ?_⟩, .inr (.inl rfl)⟩⟩, hle, fun k => T.Sh.ofPart fun e => key_here e.symm⟩
  · rw [he, hk]; rfl
  · have := hl.2 c
    rw [hk] at this
    exact ⟨by rw [hiff]; exact this.1, this.2⟩
  · have := h.2 c
    rw [hk] at this
    exact ⟨hq, this.2⟩
  · obtain rfl : a = a' := by simpa [T.ptr] using ha'
    refine ⟨_, _, hb.ext hR.ext fun hx => ?_⟩
    rcases hx with hx | hx
    · exact hm.ne hb (by decide) hx
    · exact hs.2.2.2 c a hx (.inl rfl)
  · have h1 := pots_kid o kids c
    rw [hk, pot_node] at h1
    rw [pot_node, pot_node, if_pos rfl]
    omega
  · have := hu.2 c
    rw [hk] at this
    exact this.2
theorem c_DHere (ht : Tree w (.node a ow part val ks kids)) (hs : (T.node a ow part val ks kids).Sep o) (hf : (T.node a ow part val ks kids).er.Fine) (hl : (T.node a ow part val ks kids).Leafy) (hm : Mt w mt n) (ho : o ≠ 0) (hlong : (T.node a ow part val ks kids).er.long ≤ 65535) (hv : val.isSome = true) :
    Ret P n_del_taker_here [takV o mt, (T.node a ow part val ks kids).v] w fun r w' => ∃ t' n', r = t'.v ∧ DelR w w' o (.node a ow part val ks kids) t' mt n n' (normE part none fun c => (kids c).er) ∧ n' ≤ n + 1 ∧ ∀ k, (T.node a ow part val ks kids).Sh t' k := by
  refine W_del_taker_here ?_
  refine xnew fun pb w1 hpb hblk hz he => ?_
  have hblk : Blk w1 pb (takC o mt) T_del_taker := hblk
  have ht1 := ht.extN he
  have hm1 := hm.extN he
  refine (c_Len ht1).mono ?_
  rintro _ w2 ⟨rfl, rfl⟩
  have hcnt : cnt (ptrs (T.node a ow part val ks kids).kid) = cnt (ptrs kids) := rfl
  rw [hcnt]
  have hcE := kids_cnt (kids := kids)
  refine xifE (fun h0 => ?_) fun h0 => ?_
  · have h0 : cnt (ptrs kids) = 0 := by omega
    obtain ⟨pv, hb, -⟩ := ht1.1.blk
    refine ⟨.nil, n, rfl, ⟨⟨trivial, he.mono fun _ _ h => h.elim, hm1, fun b h => h.elim, fun b h => h.elim, trivial⟩, ?_, fun _ => trivial, fun q _ _ => trivial, fun a' ha' => ?_, (fun _ => ⟨he, rfl⟩), (by have : (T.nil).pot o = 0 := rfl; omega), fun _ => ⟨trivial, .inl rfl⟩⟩, by omega, fun k => T.Sh.none⟩
    · show E.nil = if cntE (fun c => (kids c).er) = 0 then .nil else _
      rw [if_pos (by rw [hcE]; exact h0)]
    · obtain rfl : a = a' := by simpa [T.ptr] using ha'
      exact ⟨_, _, hb⟩
  · refine xifE (fun h1 => ?_) fun h1 => ?_
    · have h1 : cnt (ptrs kids) = 1 := by omega
      obtain ⟨c, hd⟩ := List.length_eq_one_iff.1 h1
      have hcd : c ∈ dom (ptrs kids) := by rw [hd]; simp
      refine (c_Next ht1 (i := 0) (by omega)).mono ?_
      rintro _ w3 ⟨rfl, he3⟩
      have hnx0 : next2 (ptrs (T.node a ow part val ks kids).kid) 0 = .tuple #[nxB (dom (ptrs kids)), nxP (ptrs kids) (dom (ptrs kids))] := next2_of (nextB_zero _)
      rw [hnx0, hd]
      have hblk3 := hblk.ext he3 fun h => h
      refine hblk3.ldA rfl ?_
      refine (c_DLift (c := c) (ht1.extN he3) hs (hm1.extN he3) ho hlong hcd (normE_one (kids := fun c => (kids c).er) (c := c) (by show ((kids c).er).opt.isSome = true; rw [T.er_opt]; exact dom_mem.1 hcd) fun d hdc => ?_)).mono ?_
      · have : kids d = .nil := kid_nil (by rw [hd]; simpa using hdc)
        simp only [this]; rfl
      · rintro _ w4 ⟨t', n', rfl, hD, hle, hsh⟩
        exact ⟨t', n', rfl, hD.from' (he.transN he3), hle, hsh⟩
    · refine hblk.ld (v := mv mt) rfl ?_
      refine hblk.ld (v := .int .u64 o) rfl ?_
      have hks : ks ≠ [] := fun e => by have : cnt (ptrs kids) = 0 := hl.1.1 e; omega
      refine (c_HOwn (Res.start ht1 hs hm1).h ho).mono ?_
      rintro _ w3 ⟨u, uks, n', rfl, hH, hiff, he3, hle, hmine⟩
      have hblk3 := hblk.ext he3 (hm1.ne hblk (by decide))
      refine hblk3.ld (v := .int .u64 o) rfl ?_
      refine (c_RDropVal (hH.res rfl) ho (fun h => hks (hiff.1 h)) hv).mono ?_
      rintro _ w4 ⟨hR, -⟩
      refine ⟨.node u o part none uks kids, n', rfl, DelR.from' he ⟨hR, ?_, fun hl => ⟨by rw [hiff]; exact hl.1, hl.2⟩, fun q hq h => ⟨hq, h.2⟩, (root_of hR ht1 hs hm1 fun e => .inl (.inl (hmine e).1.symm)), (fun e => by cases e), (by rw [pot_node, pot_node, if_pos rfl]; omega), fun hu => ⟨⟨.inl rfl, hu.2⟩, .inr (.inl rfl)⟩⟩, hle, fun k => T.Sh.ofKids⟩
      show E.node part none (fun c => (kids c).er) = if cntE (fun c => (kids c).er) = 0 then .nil else if cntE (fun c => (kids c).er) = 1 then _ else _
      rw [if_neg (by rw [hcE]; omega), if_neg (by rw [hcE]; omega)]
theorem xkeepB {w : World} {b o : Nat} {cs : List Value} {T : TypeId} {v : Value} (h : Blk w b cs T) (hv : cs[o]? = some v) : xKeep1 w (.pointer (some ((⟨b, 0, none⟩ : Addr).add o))) v := by
  show w.cell? ((⟨b, 0, none⟩ : Addr).add o) = some v
  rw [Addr.add_lit, h.cell, Nat.zero_add, hv]
theorem c_DWithout {c : UInt8} (ht : Tree w (.node a ow part val ks kids)) (hs : (T.node a ow part val ks kids).Sep o) (hf : (T.node a ow part val ks kids).er.Fine) (hl : (T.node a ow part val ks kids).Leafy) (hm : Mt w mt n) (ho : o ≠ 0) (hlong : (T.node a ow part val ks kids).er.long ≤ 65535) (hc : c ∈ dom (ptrs kids)) :
    Ret P n_del_taker_without [takV o mt, (T.node a ow part val ks kids).v, bv c] w fun r w' => ∃ t' n', r = t'.v ∧ DelR w w' o (.node a ow part val ks kids) t' mt n n' (normE part val (updE (fun c => (kids c).er) c .nil)) ∧ t' ≠ .nil ∧ n' ≤ n + 1 ∧ ∀ k, (T.node a ow part val ks kids).Sh t' k := by
  refine W_del_taker_without ?_
  refine xnew fun pb w1 hpb hblk hz he => ?_
  have hblk : Blk w1 pb (takC o mt) T_del_taker := hblk
  have ht1 := ht.extN he
  have hm1 := hm.extN he
  have hcE := kids_cnt (kids := kids)
  have hks : ks ≠ [] := fun e => by
    have : cnt (ptrs kids) = 0 := hl.1.1 e
    unfold cnt at this
    rw [List.length_eq_zero_iff.1 this] at hc
    cases hc
  have hcsome : ((kids c).er).opt.isSome = true := by rw [T.er_opt]; exact dom_mem.1 hc
  have hupd : cntE (updE (fun c => (kids c).er) c .nil) + 1 = cnt (ptrs kids) := by
    have := cntE_upd (fun c => (kids c).er) c .nil
    rw [if_pos hcsome, hcE] at this
    simpa [E.opt] using this
  have hfine := (fine_of hf).2.1 (by rw [hcE]; omega)
  rw [hcE] at hfine
  refine (c_Val ht1).mono ?_
  rintro _ w2 ⟨rfl, rfl⟩
  refine (c_NOcc ht1.1).mono ?_
  rintro _ w2' ⟨rfl, rfl⟩
  have hone : one val = if val.isSome then 1 else 0 := rfl
  rw [← hone]
  refine xifD (fun h2 => ?_) fun h2 => ?_
  · have h2 : 2 < cnt (ptrs kids) + one val := by omega
    refine hblk.ld (v := mv mt) rfl ?_
    refine hblk.ld (v := .int .u64 o) rfl ?_
    refine (c_HOwn (Res.start ht1 hs hm1).h ho).mono ?_
    rintro _ w3 ⟨u, uks, n', rfl, hH, hiff, he3, hle, hmine⟩
    have hblk3 := hblk.ext he3 (hm1.ne hblk (by decide))
    refine hblk3.ld (v := .int .u64 o) rfl ?_
    refine (c_RDropKid (hH.res rfl) ho (fun h => hks (hiff.1 h)) (dom_mem.1 hc)).mono ?_
    rintro _ w4 ⟨uks', hR, hne, -, -⟩
    have ho1 : one val ≤ 1 := by rw [hone]; split <;> omega
    refine ⟨.node u o part val uks' (updT kids c .nil), n', rfl, DelR.from' he ⟨hR, ?_, fun hl => ⟨iff_of_false hne fun e => ?_, fun d => ?_⟩, fun q hq h => ⟨hq, fun d => ?_⟩, (root_of hR ht1 hs hm1 fun e => .inl (.inl (hmine e).1.symm)), (fun e => by cases e), ?_, fun hu => ⟨⟨.inl rfl, fun d => ?_⟩, .inr (.inl rfl)⟩⟩, by simp, hle, fun k => T.Sh.ofCnt (by
      have h3 : cntE (fun d => (updT kids c .nil d).er) = cnt (ptrs (updT kids c .nil)) := kids_cnt
      rw [updT_er] at h3
      have h4 : cntE (updE (fun c => (kids c).er) c .nil) = cnt (ptrs (updT kids c .nil)) := h3
      omega)⟩
    · show E.node part val (fun d => (updT kids c .nil d).er) = _
      rw [updT_er, normE_id (by show 2 ≤ cntE (updE (fun c => (kids c).er) c .nil) + one val; omega)]
      rfl
    · have h3 : cntE (fun d => (updT kids c .nil d).er) = cnt (ptrs (updT kids c .nil)) := kids_cnt
      rw [updT_er] at h3
      have h4 : cntE (updE (fun c => (kids c).er) c .nil) = cnt (ptrs (updT kids c .nil)) := h3
      have h5 : cnt (ptrs (updT kids c .nil)) = 0 := e
      omega
    · unfold updT; split
      · trivial
      · exact hl.2 d
    · unfold updT; split
      · trivial
      · exact h.2 d
    · have h1 := pots_upd o kids c .nil
      have h2 : (T.nil).pot o = 0 := rfl
      rw [pot_node, pot_node, if_pos rfl]
      omega
    · unfold updT; split
      · trivial
      · exact hu.2 d
  · cases val with
    | some v =>
      refine xifT rfl ?_
      have h1 : one (some v) = 1 := rfl
      have hd := Ext.drew (Ext.refl No w2')
      have hblkd := hblk.drew
      refine hblkd.ld (v := mv mt) rfl ?_
      refine hblkd.ld (v := .int .u64 o) rfl ?_
      refine (c_Part (ht1.extN hd)).mono ?_
      rintro pv w3 ⟨hpv, he3⟩
      have hpv : Bs w3 pv part := hpv
      have hblk3 := hblkd.ext he3 fun h => h
      refine ⟨xkeepB hblk3 rfl, xkeepB hblk3 rfl, ?_⟩
      have he23 : Ext No w2' w3 := hd.transN he3
      refine (c_PLeaf (hm1.extN he23) hpv ht.1.short (ht.1.v64 v rfl)).mono ?_
      rintro _ w4 ⟨lf, rfl, htl, hlf, hm4, he4⟩
      obtain ⟨pv0, hb, -⟩ := ht.1.blk
      have hE : Ext (MX mt) w w4 := ((he.transN he23).mono fun _ _ h => h.elim).transS he4
      have hz3 := (he.transN he23).size
      refine ⟨.node lf o part (some v) [] fun _ => .nil, n + 1, rfl, ⟨⟨htl, hE.mono fun b _ h => .inl h, hm4, fun b hb => .inr (by rw [leaf_all hb]; omega), fun b hb => .inr (by rw [leaf_all hb.all]; omega), Sep.leaf⟩, ?_, fun _ => leaf_leafy, fun q hq _ => ⟨hq, fun _ => trivial⟩, fun a' ha' => ?_, (fun e => by cases e), (by rw [leaf_pot]; omega), fun _ => ⟨leaf_up, .inr (.inl rfl)⟩⟩, by simp, by omega, fun k => T.Sh.ofCnt (by
        have h3 : cnt (ptrs fun _ => T.nil) = 0 := by
          show cnt (fun _ : UInt8 => (T.nil).ptr) = 0
          simp [cnt, dom_none, T.ptr]
        omega)⟩
      · show E.node part (some v) noE = .node part (some v) (updE (fun c => (kids c).er) c .nil)
        rw [cntE_zero (kids := updE (fun c => (kids c).er) c .nil) (by omega)]
      · obtain rfl : a = a' := by simpa [T.ptr] using ha'
        exact ⟨_, _, hb.ext hE (hm.ne hb (by decide))⟩
    | none =>
      refine xifF rfl ?_
      have h1 : one none = 0 := rfl
      have hc2 : (dom (ptrs kids)).length = 2 := by show cnt (ptrs kids) = 2; omega
      obtain ⟨d1, d2, hd12⟩ : ∃ d1 d2, dom (ptrs kids) = [d1, d2] := by
        match h : dom (ptrs kids), hc2 with
        | [x, y], _ => exact ⟨x, y, rfl⟩
      refine (c_Next ht1 (i := 0) (by omega)).mono ?_
      rintro _ w3 ⟨rfl, he3⟩
      have hnx0 : next2 (ptrs (T.node a ow part none ks kids).kid) 0 = .tuple #[nxB (dom (ptrs kids)), nxP (ptrs kids) (dom (ptrs kids))] := next2_of (nextB_zero _)
      rw [hnx0, hd12]
      have hdne : d1 ≠ d2 := by
        have := dom_rise (ptrs kids)
        rw [hd12] at this
        intro e
        have := (List.pairwise_cons.1 this).1 d2 (by simp)
        rw [e] at this
        exact absurd this (by simp)
      have hblk3 := hblk.ext he3 fun h => h
      refine xj (fun vs w' => ∃ d, vs = [bv d, (kids d).v] ∧ Ext No w2' w' ∧ d ≠ c ∧ d ∈ dom (ptrs kids)) ?_ ?_
      · refine xifE (fun e => ?_) fun e => ?_
        · have e : d1 = c := by
            have : ((d1.toNat : Nat) : Int) = (c.toNat : Int) := e
            exact UInt8.toNat_inj.1 (by omega)
          subst e
          have hcb := u8_lt d1
          refine xi (r := (d1.toNat : Int)) (wrapI (by omega)) ?_
          refine xi (r := ((d1.toNat + 1 : Nat) : Int)) (by rw [wrapI (by omega)]; omega) ?_
          refine (c_Next (ht1.extN he3) (i := d1.toNat + 1) (by omega)).mono ?_
          rintro r w4 ⟨rfl, he4⟩
          have hnx : next2 (ptrs (T.node a ow part none ks kids).kid) (d1.toNat + 1) = .tuple #[nxB [d2], nxP (ptrs kids) [d2]] := next2_of (nextB_succ (d := []) hd12)
          rw [hnx]
          exact ⟨d2, rfl, he3.transN he4, hdne.symm, by rw [hd12]; simp⟩
        · refine ⟨d1, rfl, he3, fun h => e (by rw [h]), by rw [hd12]; simp⟩
      · rintro vs g w4 ⟨d, rfl, he4, hdc, hdd⟩
        have hblk4 := hblk.ext he4 fun h => h
        refine hblk4.ldA rfl ?_
        refine (c_DLift (c := d) (ht1.extN he4) hs (hm1.extN he4) ho hlong hdd (e := normE part none (updE (fun c => (kids c).er) c .nil)) ?_).mono ?_
        · rw [normE_one (kids := updE (fun c => (kids c).er) c .nil) (c := d) (by rw [updE_other _ _ hdc]; rw [T.er_opt]; exact dom_mem.1 hdd) fun x hx => ?_]
          · rw [updE_other _ _ hdc]
          · by_cases hxc : x = c
            · subst hxc; rw [updE_same]
            · rw [updE_other _ _ hxc]
              have : kids x = .nil := kid_nil (fun h => by
                rw [hd12] at h hdd hc
                simp only [List.mem_cons, List.mem_nil_iff, or_false] at h hdd hc
                rcases h with rfl | rfl <;> rcases hdd with rfl | rfl <;> rcases hc with rfl | rfl <;> simp_all)
              rw [this]; rfl
        · rintro _ w5 ⟨t', n', rfl, hD, hle, hsh⟩
          refine ⟨t', n', rfl, hD.from' (he.transN he4), fun e => ?_, hle, hsh⟩
          have her := hD.er
          rw [e, normE_one (kids := updE (fun c => (kids c).er) c .nil) (c := d) (by rw [updE_other _ _ hdc]; rw [T.er_opt]; exact dom_mem.1 hdd) fun x hx => ?_] at her
          · rw [updE_other _ _ hdc] at her
            obtain ⟨a1, ow1, p1, v1, ks1, kids1, hk⟩ := kid_node hdd
            rw [hk] at her
            cases her
          · by_cases hxc : x = c
            · subst hxc; rw [updE_same]
            · rw [updE_other _ _ hxc]
              have : kids x = .nil := kid_nil (fun h => by
                rw [hd12] at h hdd hc
                simp only [List.mem_cons, List.mem_nil_iff, or_false] at h hdd hc
                rcases h with rfl | rfl <;> rcases hdd with rfl | rfl <;> rcases hc with rfl | rfl <;> simp_all)
              rw [this]; rfl
end
def OutS (o : Nat) (mt : Option Mtr) (t : T) : Prop := ∀ {w : World} {vk : Value} {k : Key} {n : Nat}, Tree w t → t.Sep o → t.er.Fine → t.Leafy → t.er.long ≤ 65535 → Mt w mt n → Bs w vk k → (t.get k).isSome = true →
  Ret P n_del_taker_out [takV o mt, t.v, vk] w fun r w' => ∃ t' n', r = t'.v ∧ DelR w w' o t t' mt n n' (delE t.er k) ∧ n' ≤ n + t.steps k ∧ (t.OwQ (· = o) → n' ≤ n + 1) ∧ t.Sh t' k
theorem get_has {part : Key} {val : Option Nat} {kids : UInt8 → E} {k : Key} (h : ((E.node part val kids).get k).isSome = true) : ∃ r, k = part ++ r := by
  by_cases hp : part <+: k
  · obtain ⟨r, rfl⟩ := hp; exact ⟨r, rfl⟩
  · rw [get_no hp] at h; cases h
theorem c_DOut {o : Nat} {mt : Option Mtr} (ho : o ≠ 0) : ∀ t, OutS o mt t := by
  intro t
  induction t with
  | nil => intro w vk k n _ _ _ _ _ _ _ hg; cases hg
  | node a ow part val ks kids ih =>
    intro w vk k n ht hs hf hl hlong hm hk hg
    obtain ⟨r, rfl⟩ := get_has hg
    refine W_del_taker_out ?_
    refine xnew fun pb w1 hpb hblk hz he => ?_
    have hblk : Blk w1 pb (takC o mt) T_del_taker := hblk
    refine (c_Part (ht.extN he)).mono ?_
    rintro pv w2 ⟨hpv, he2⟩
    have hpv : Bs w2 pv part := hpv
    have hE2 := he.transN he2
    have hblk2 := hblk.ext he2 fun h => h
    refine hpv.len ?_
    refine (hk.extN hE2).drop part.length rfl (by simp) fun v' hv' => ?_
    rw [List.drop_left] at hv'
    refine hv'.len ?_
    have hsp := steps_pos (a := a) (ow := ow) (part := part) (val := val) (ks := ks) (kids := kids) (k := part ++ r)
    cases r with
    | nil =>
      refine xifT rfl ?_
      refine hblk2.ldA rfl ?_
      have hval : val.isSome = true := by
        have : (T.node a ow part val ks kids).get (part ++ []) = val := by rw [List.append_nil]; exact get_nil
        rw [this] at hg; exact hg
      refine (c_DHere (ht.extN hE2) hs hf hl (hm.extN hE2) ho hlong hval).mono ?_
      rintro _ w3 ⟨t', n', rfl, hD, hle, hsh⟩
      have he' : delE (T.node a ow part val ks kids).er (part ++ []) = normE part none fun c => (kids c).er := delE_app
      rw [← he'] at hD
      exact ⟨t', n', rfl, hD.from' hE2, by omega, fun _ => hle, hsh _⟩
    | cons c r =>
      refine xifF (by simp; omega) ?_
      refine hv'.rd 0 (by simp) rfl ?_
      refine (c_Kid (ht.extN hE2)).mono ?_
      rintro _ w3 ⟨rfl, he3⟩
      have hE3 : Ext No w w3.drew := (hE2.transN he3).drew
      have hblk3 : Blk w3.drew pb (takC o mt) T_del_taker := (hblk2.ext he3 fun h => h).drew
      have ht3 := ht.extN hE3
      have hm3 := hm.extN hE3
      have hv3 : Bs w3.drew v' (c :: r) := (hv'.extN he3).extN (Ext.refl No w3).drew
      refine hblk3.ldA rfl ?_
      refine (hv'.extN he3).drop 1 rfl (by simp) fun vr hvr => ?_
      have hvr : Bs w3.drew vr r := hvr.extN (Ext.refl No w3).drew
      have hgk : (T.node a ow part val ks kids).get (part ++ c :: r) = (kids c).get r := get_cons
      rw [hgk] at hg
      have hcd : c ∈ dom (ptrs kids) := by
        refine dom_mem.2 ?_
        cases e : kids c with
        | nil => rw [e] at hg; cases hg
        | node => simp [ptrs, e, T.ptr]
      have hlk := long_kid (a := a) (ow := ow) (part := part) (val := val) (ks := ks) hcd
      have hstep : (T.node a ow part val ks kids).steps (part ++ c :: r) = (kids c).steps r + 1 := by
        rw [T.steps_node, if_pos (List.prefix_append _ _), List.drop_left]
      have hdel : delE (T.node a ow part val ks kids).er (part ++ c :: r) = normE part val (updE (fun c => (kids c).er) c (delE (kids c).er r)) := delE_app
      refine (ih c (ht3.2 c) (hs.1 c) (hf.2 c) (hl.2 c) (by omega) hm3 hvr hg).mono ?_
      rintro _ w4 ⟨t2, n2, rfl, hD, hle, hown, hsh2⟩
      have hH := ResH.kid ht3 hs hm3 hD.res
      have hx1 : ∀ b, (MX mt b ∨ (T.node a ow part val ks kids).Foot o b) → b ≠ pb := fun b hb e => by
        subst e
        rcases hb with hb | hb
        · exact hm3.ne hblk3 (by decide) hb
        · exact ht3.not hblk3 oth_tak hb.all
      have hblk4 : Blk w4 pb (takC o mt) T_del_taker := hblk3.ext hH.ext fun h => hx1 _ h rfl
      have hv4 : Bs w4 v' (c :: r) := hv3.ext hH.ext (hm3.nb.or (Foot.nb ht3))
      obtain ⟨a1, ow1, p1, v1, ks1, kids1, hkc⟩ := kid_node hcd
      have hkp : (kids c).ptr = some ⟨a1, 0, none⟩ := by rw [hkc]; rfl
      have hks : ks ≠ [] := fun e => by
        have : cnt (ptrs kids) = 0 := hl.1.1 e
        unfold cnt at this
        rw [List.length_eq_zero_iff.1 this] at hcd
        cases hcd
      by_cases htn : t2 = .nil
      · subst htn
        obtain ⟨he4, rfl⟩ := hD.nil rfl
        refine (show xPEq P w4 (.pointer none) (.pointer (kids c).ptr) _ from ?_)
        rw [hkp]
        refine xifF rfl ?_
        refine xifF rfl ?_
        have hd4 := Ext.drew (Ext.refl No w4)
        refine hblk4.drew.ldA rfl ?_
        refine (hv4.extN hd4).rd 0 (by simp) rfl ?_
        have hE4 := hE3.transN (he4.transN hd4)
        refine (c_DWithout (c := c) (ht.extN hE4) hs hf hl (hm.extN hE4) ho hlong hcd).mono ?_
        rintro _ w5 ⟨t', n', rfl, hD', -, hle', hsh⟩
        have hz : delE (kids c).er r = .nil := hD.er.symm
        rw [hdel, hz]
        exact ⟨t', n', rfl, hD'.from' hE4, by omega, fun _ => hle', hsh _⟩
      · obtain ⟨a2, ow2, p2, v2, ks2, kids2, ht2e⟩ : ∃ a ow p v ks k, t2 = .node a ow p v ks k := by
          cases t2 with
          | nil => exact absurd rfl htn
          | node => exact ⟨_, _, _, _, _, _, rfl⟩
        have hp2 : t2.ptr = some ⟨a2, 0, none⟩ := by rw [ht2e]; rfl
        have hv2 : t2.v = rp a2 := by show Value.pointer t2.ptr = _; rw [hp2]
        have hcE := kids_cnt (kids := kids)
        have hcsome : ((kids c).er).opt.isSome = true := by rw [T.er_opt]; exact dom_mem.1 hcd
        have h2some : (t2.er).opt.isSome = true := by rw [T.er_opt, hp2]; rfl
        have hupd : cntE (updE (fun c => (kids c).er) c t2.er) = cnt (ptrs kids) := by
          have := cntE_upd (fun c => (kids c).er) c t2.er
          rw [if_pos hcsome, if_pos h2some, hcE] at this
          omega
        have hc0 : cntE (fun c => (kids c).er) ≠ 0 := by
          rw [hcE]
          intro e
          unfold cnt at e
          rw [List.length_eq_zero_iff.1 e] at hcd
          cases hcd
        have hfine := (fine_of hf).2.1 hc0
        rw [hcE] at hfine
        have her : ∀ u uks, (T.node u o part val uks (updT kids c t2)).er = delE (T.node a ow part val ks kids).er (part ++ c :: r) := fun u uks => by
          show E.node part val (fun d => (updT kids c t2 d).er) = _
          rw [hdel, updT_er, ← hD.er, normE_id (by omega)]
        have hleafk : (T.node a ow part val ks kids).Leafy → ∀ d, (updT kids c t2 d).Leafy := fun hlf d => by
          unfold updT; split
          · exact hD.leafy (hlf.2 c)
          · exact hlf.2 d
        have howq : ∀ q : Nat → Prop, q o → (∀ d, (kids d).OwQ q) → ∀ d, (updT kids c t2 d).OwQ q := fun q hq h d => by
          unfold updT; split
          · exact hD.own q hq (h c)
          · exact h d
        obtain ⟨pv0, hba, -⟩ := hH.na.blk
        obtain ⟨cs1, T1, hb1⟩ := hD.root a1 hkp
        have hb2 : ∃ cs T, Blk w4 a2 cs T := by
          have := hD.res.tree
          rw [ht2e] at this
          obtain ⟨pv, hb, -⟩ := this.1.blk
          exact ⟨_, _, hb⟩
        obtain ⟨cs2, T2, hb2⟩ := hb2
        show xPtrs P w4 (.pointer t2.ptr) (.pointer (kids c).ptr) _
        rw [hp2, hkp]
        by_cases e : a2 = a1
        · subst e
          refine xsame (run_sameAddr_same _ _) ?_
          refine xifT rfl ?_
          have hmm : ptrs kids = ptrs (updT kids c t2) := by rw [updT_ptr, hp2, ← hkp]; exact (upd_id _ _).symm
          refine ⟨.node a ow part val ks (updT kids c t2), n2, rfl, DelR.from' hE3 ⟨hH.res hmm, ?_, fun hlf => ⟨by rw [show (fun d => (updT kids c t2 d).ptr) = ptrs (updT kids c t2) from rfl, ← hmm]; exact hlf.1, hleafk hlf⟩, fun q hq h => ⟨h.1, howq q hq h.2⟩, fun a' ha' => ?_, (fun e => by cases e), ?_, fun hu => ?_⟩, by rw [hstep]; omega, fun h => hown (h.2 c), T.Sh.ofUpd hsh2⟩
          · exact her a ks
          · obtain rfl : a = a' := by simpa [T.ptr] using ha'
            exact ⟨_, _, hba⟩
          · have h1 := hD.pot
            have h2 := pots_upd o kids c t2
            rw [pot_node, pot_node]
            omega
          · obtain ⟨u1, u2⟩ := hD.up (hu.2 c)
            have how : ow = o := hu.1.elim id fun hf => by
              exfalso
              rcases u2 with u2 | u2 | u2
              · exact htn u2
              · exact same_top (ht3.2 c) hD.res.tree hm3 hD.res.ext (hf c) (by rw [hp2, hkp]) u2
              · have h1 : (kids c).er = delE (kids c).er r := by rw [← hD.er, u2]
                have h2 : (delE (kids c).er r).get r = none := by rw [delE_get, if_pos rfl]
                rw [← h1] at h2
                have h3 : (kids c).get r = none := h2
                rw [h3] at hg
                cases hg
            refine ⟨⟨.inl how, fun d => ?_⟩, .inr (.inl how)⟩
            unfold updT; split
            · exact u1
            · exact hu.2 d
        · refine xsame (run_sameAddr_other _ (by simp [e]) hb2.h hb1.h) ?_
          refine xifF rfl ?_
          have hne : ∀ K : Value → Prop, K (.bool true) → xPNe P w4 t2.v (.pointer none) K := fun K k => by rw [hv2]; exact k
          refine hne _ ?_
          refine xifT rfl ?_
          refine hblk4.ld (v := mv mt) rfl ?_
          refine hblk4.ld (v := .int .u64 o) rfl ?_
          refine (c_HOwn hH ho).mono ?_
          rintro _ w5 ⟨u, uks, n3, rfl, hH5, hiff, he5, hle5, hmine⟩
          have hblk5 : Blk w5.drew pb (takC o mt) T_del_taker := (hblk4.ext he5 (hH.cnt.ne hblk4 (by decide))).drew
          have hba5 := (hba.ext he5 (hH.cnt.ne hba (by decide))).drew
          have hv5 : Bs w5.drew v' (c :: r) := (hv4.mt he5 hH.cnt).extN (Ext.refl No w5).drew
          have hH5' := hH5.extN (Ext.refl No w5).drew
          have hu : uks ≠ [] := fun h => hks (hiff.1 h)
          refine hblk5.ld (v := .int .u64 o) rfl ?_
          refine hv5.rd 0 (by simp) rfl ?_
          rw [hv2]
          refine (c_HSet hH5' ho hu (c0 := c) (by rw [updT_same]; exact hp2) fun d hd => by rw [updT_other _ _ hd]).mono ?_
          rintro _ w6 ⟨uks', hR6, hne6, he6⟩
          have hnu : a ≠ u → ¬ a ∈ uks := fun _ hx => by
            obtain ⟨cs', T', h1, h2⟩ := hH5'.na.kd.ty a hx
            exact h2.ne.2.1 (h1.inj hba5).2
          refine ⟨.node u o part val uks' (updT kids c t2), n3, rfl, DelR.from' hE3 ⟨hR6, her u uks', fun hlf => ⟨iff_of_false hne6 (updT_cnt (by rw [hp2]; rfl)), hleafk hlf⟩, fun q hq h => ⟨hq, howq q hq h.2⟩, fun a' ha' => ?_, (fun e => by cases e), ?_, fun hu => ⟨⟨.inl rfl, fun d => ?_⟩, .inr (.inl rfl)⟩⟩, by rw [hstep]; omega, fun h => ?_, T.Sh.ofUpd hsh2⟩
          · obtain rfl : a = a' := by simpa [T.ptr] using ha'
            by_cases hau : a = u
            · subst hau
              obtain ⟨pvu, hbu, -⟩ := hR6.tree.1.blk
              exact ⟨_, _, hbu⟩
            · exact ⟨_, _, hba5.ext he6 (hnu hau)⟩
          · have h1 := hD.pot
            have h2 := pots_upd o kids c t2
            rw [pot_node, pot_node, if_pos rfl]
            split
            · rename_i how
              have := (hmine how.symm).2.2
              omega
            · omega
          · unfold updT; split
            · exact (hD.up (hu.2 c)).1
            · exact hu.2 d
          · have := (hmine h.1.symm).2.2
            have := hown (h.2 c)
            omega
/-- Del: what is taken out is gone, and nothing else has changed -/
theorem c_DelS {w : World} {t : T} {o n : Nat} {mt : Option Mtr} {vk : Value} {k : Key} (ht : Tree w t) (hs : t.Sep o) (hf : t.er.Fine) (hl : t.Leafy) (hlong : t.er.long ≤ 65535) (hm : Mt w mt n) (ho : o ≠ 0) (hk : Bs w vk k) (hkl : k.length ≤ 65535) :
    Ret P n_del_Del [t.v, vk, .int .u64 o, mv mt] w fun r w' => ∃ t' n', r = .tuple #[t'.v, .bool (t.get k).isSome, .int .i64 0] ∧ DelR w w' o t t' mt n n' (delE t.er k) ∧ n' ≤ n + t.steps k ∧ (t.OwQ (· = o) → n' ≤ n + 1) ∧ (t.get k = none → t' = t ∧ n' = n) ∧ t.Sh t' k := by
  refine W_del_Del ?_
  refine xifF (by simp; omega) ?_
  refine (c_May hk).mono ?_
  rintro _ w1 ⟨rfl, rfl⟩
  rw [if_pos hkl]
  refine xifF rfl ?_
  refine (c_Has hm.fl ht hk (by omega)).mono ?_
  rintro _ w2 ⟨rfl, he2⟩
  cases hg : t.get k with
  | none =>
    refine xifT rfl ?_
    refine ⟨t, n, rfl, ⟨(Res.start (ht.extN he2) hs (hm.extN he2)).from' he2, ?_, id, fun q _ h => h, fun a ha => ?_, (fun _ => ⟨he2, rfl⟩), by omega, fun h => ⟨h, .inr (.inr rfl)⟩⟩, by omega, fun _ => by omega, fun _ => ⟨rfl, rfl⟩, T.Sh.refl⟩
    · exact E.unique hf (delE_fine hf) fun k' => by
        rw [delE_get]
        split
        · rename_i e; subst e; exact hg
        · rfl
    · cases t with
      | nil => cases ha
      | node a1 ow1 p1 v1 ks1 kids1 =>
        obtain ⟨pv, hb, -⟩ := (ht.extN he2).1.blk
        obtain rfl : a1 = a := by simpa [T.ptr] using ha
        exact ⟨_, _, hb⟩
  | some v =>
    refine xifF rfl ?_
    refine (c_DOut (mt := mt) ho t (ht.extN he2) hs hf hl hlong (hm.extN he2) (hk.extN he2) (by rw [hg]; rfl)).mono ?_
    rintro _ w3 ⟨t', n', rfl, hD, hle, hown, hsh⟩
    exact ⟨t', n', rfl, hD.from' he2, hle, hown, (fun e => by cases e), hsh⟩
theorem c_Del {w : World} {t : T} {o n : Nat} {mt : Option Mtr} {vk : Value} {k : Key} (ht : Tree w t) (hs : t.Sep o) (hf : t.er.Fine) (hl : t.Leafy) (hlong : t.er.long ≤ 65535) (hm : Mt w mt n) (ho : o ≠ 0) (hk : Bs w vk k) (hkl : k.length ≤ 65535) :
    Ret P n_del_Del [t.v, vk, .int .u64 o, mv mt] w fun r w' => ∃ t' n', r = .tuple #[t'.v, .bool (t.get k).isSome, .int .i64 0] ∧ DelR w w' o t t' mt n n' (delE t.er k) ∧ n' ≤ n + t.steps k ∧ (t.OwQ (· = o) → n' ≤ n + 1) ∧ (t.get k = none → t' = t ∧ n' = n) :=
  (c_DelS ht hs hf hl hlong hm ho hk hkl).mono fun _ _ ⟨t', n', h1, h2, h3, h4, h5, _⟩ => ⟨t', n', h1, h2, h3, h4, h5⟩
theorem c_Del0 {w : World} {x y u : Value} : Ret P n_del_Del [x, y, .int .u64 0, u] w fun r w' => r = .tuple #[.pointer none, .bool false, .int .i64 1] ∧ w' = w := by
  refine W_del_Del ?_
  exact xifT rfl ⟨rfl, rfl⟩
theorem c_DelBig {w : World} {x u vk : Value} {k : Key} {o : Nat} (ho : o ≠ 0) (hk : Bs w vk k) (hkl : 65535 < k.length) : Ret P n_del_Del [x, vk, .int .u64 o, u] w fun r w' => r = .tuple #[.pointer none, .bool false, .int .i64 8] ∧ w' = w := by
  refine W_del_Del ?_
  refine xifF (by simp; omega) ?_
  refine (c_May hk).mono ?_
  rintro _ w1 ⟨rfl, rfl⟩
  rw [if_neg (by omega)]
  exact xifT rfl ⟨rfl, rfl⟩
end Go.Proofs.YtidkkkdlaclolaaGreat
end
