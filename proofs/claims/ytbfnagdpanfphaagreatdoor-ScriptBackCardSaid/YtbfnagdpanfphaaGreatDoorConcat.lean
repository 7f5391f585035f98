/-  slices.Concat of bytes.  -/
import Derived.Test.YtbfnagdpanfphaaGreatDoorNode
import Derived.Lib.AppendZeros
import Derived.Test.YtbfnagdpanfphaaGreatDoorPut
import Derived.Test.YtbfnagdpanfphaaGreatDoorStr
import Derived.Test.YtbfnagdpanfphaaGreatDoorSub
section
namespace Go.Proofs.YtbfnagdpanfphaaGreatDoor
open Go Go.RowKit X
set_option linter.unusedSimpArgs false
set_option linter.unusedVariables false
set_option linter.unusedSectionVars false
theorem intU : P.underlying T_int = some (.int .i64) := by kernel_rfl
/-- append of a number of zero values to nothing -/
theorem app_zeros {w : World} {n : Nat} {ty : TypeId} {K : Value → World → Prop} (h0 : 0 < n) (hn : n ≤ 100000000) (k : ∀ v' w' xs, Own w' w.heap.size T_uint8 1 v' n xs → Ext No w w' → K v' w') :
    XRun P (Builtin.append_ #[T_s_uint8, T_int] ty #[.slice none 0 0, .int .i64 n]) w K := by
  obtain ⟨i, hi1, hi2, hi3, hi4⟩ := ei_u8.parts
  have hr := Go.Lib.run_append_nil_zeros (P := P) w T_s_uint8 T_int ty T_uint8 i (.int .u8 0) .i64 .i64 ei_u8.u intU hi1 hi2 n h0 (by omega) (by omega) (by rw [hi4]; omega)
  have hge := grownCap_ge w n 0 T_uint8
  have hcm : grownCap w n 0 T_uint8 ≤ maxLen := grownCap_le_maxLen w n 0 T_uint8 (by unfold maxLen; omega)
  have hzs : (Value.int IntKind.u8 0).cells.size = 1 := rfl
  have hsz : (Builtin.zeroCells (Value.int IntKind.u8 0).cells n ++ Builtin.zeroCells (Value.int IntKind.u8 0).cells (grownCap w n 0 T_uint8 - n)).size = grownCap w n 0 T_uint8 * 1 := by
    simp only [Array.size_append, size_zeroCells, hzs]
    omega
  refine ⟨_, _, hr, k _ _ (List.take (n * 1) (Builtin.zeroCells (Value.int IntKind.u8 0).cells n ++ Builtin.zeroCells (Value.int IntKind.u8 0).cells (grownCap w n 0 T_uint8 - n)).toList) ⟨?_, .inr ⟨w.heap.size, _, _, rfl, Nat.le_refl _, heap_alloc_new w.drew _, hge, hcm, hsz, rfl⟩⟩ ⟨rfl, rfl, rfl, by simp, fun k hk _ => heap_alloc_old w.drew _ hk⟩⟩
  rw [List.length_take, Array.length_toList, hsz]
  omega
variable [Floor]
theorem lenF_append (a b : List Key) : (a ++ b).flatten = a.flatten ++ b.flatten := List.flatten_append
end Go.Proofs.YtbfnagdpanfphaaGreatDoor
end
section
namespace Go.Proofs.YtbfnagdpanfphaaGreatDoor
open Go Go.RowKit X
set_option linter.unusedSimpArgs false
set_option linter.unusedVariables false
set_option linter.unusedSectionVars false
variable [Floor]
abbrev takV (o : Nat) (mt : Option Mtr) : Value := .agg #[.int .u64 o, mv mt]
abbrev takC (o : Nat) (mt : Option Mtr) : List Value := [.int .u64 o, mv mt]
theorem Bs.new2 {w : World} {b : Nat} {k : Key} (h : Blk w b (k.map bv) T_uint8) : Bs w (.slice (some ⟨b, 0, none⟩) k.length k.length) k := by
  have := h.sl (o := 0) (n := k.length) (cap := k.length) (by simp) (Nat.le_refl _)
  rw [List.drop_zero, List.take_of_length_le (by simp)] at this
  exact Bs.of this
/-- an operation on a kid is one on the tree -/
theorem Res.ofKid {w w' : World} {a ow o n : Nat} {part : Key} {val : Option Nat} {ks : List Nat} {kids : UInt8 → T} {c : UInt8} {t' : T} {mt : Option Mtr} (h : Res w w' o (kids c) t' mt n) : Res w w' o (.node a ow part val ks kids) t' mt n :=
  ⟨h.tree, h.ext.mono fun b _ hb => hb.imp id fun hb => .inr ⟨c, hb⟩, h.cnt, fun b hb => (h.all b hb).imp (fun hb => .inr ⟨c, hb⟩) id, fun b hb => (h.foot b hb).imp (fun hb => .inr ⟨c, hb⟩) id, h.sep⟩
section
variable {w : World} {a ow o : Nat} {part : Key} {val : Option Nat} {ks : List Nat} {kids : UInt8 → T} {mt : Option Mtr} {n : Nat}
end
/-- what an operation that makes less of a tree makes of it -/
structure DelR (w w' : World) (o : Nat) (t t' : T) (mt : Option Mtr) (n n' : Nat) (e : E) : Prop where
  res : Res w w' o t t' mt n'
  er : t'.er = e
  leafy : t.Leafy → t'.Leafy
  own : ∀ q : Nat → Prop, q o → t.OwQ q → t'.OwQ q
  root : ∀ a, t.ptr = some ⟨a, 0, none⟩ → ∃ cs T, Blk w' a cs T
  nil : t' = .nil → Ext No w w' ∧ n' = n
  pot : n' + t'.pot o ≤ n + t.pot o + 1
  up : t.Up o → t'.Up o ∧ (t' = .nil ∨ t'.Top o ∨ t' = t)
theorem DelR.from' {w w1 w2 : World} {o n n' : Nat} {t t' : T} {mt : Option Mtr} {e : E} (he : Ext No w w1) (h : DelR w1 w2 o t t' mt n n' e) : DelR w w2 o t t' mt n n' e :=
  ⟨h.res.from' he, h.er, h.leafy, h.own, h.root, fun e => ⟨he.transN (h.nil e).1, (h.nil e).2⟩, h.pot, h.up⟩
theorem kids_cnt {kids : UInt8 → T} : cntE (fun c => (kids c).er) = cnt (ptrs kids) := X.cnt_congr' fun c => T.er_opt (kids c)
theorem long_kid {a ow : Nat} {part : Key} {val : Option Nat} {ks : List Nat} {kids : UInt8 → T} {c : UInt8} (h : c ∈ dom (ptrs kids)) : part.length + 1 + (kids c).er.long ≤ (T.node a ow part val ks kids).er.long := by
  have hlong : (T.node a ow part val ks kids).er.long = maxL ((dom (ptrs kids)).map fun c => (kids c).er.long + 1) + part.length := by
    show (E.node part val fun c => (kids c).er).long = _
    rw [E.long_node, dom_er]
  have := maxL_le (l := (dom (ptrs kids)).map fun c => (kids c).er.long + 1) (List.mem_map.2 ⟨c, h, rfl⟩)
  omega
theorem long_part {a ow : Nat} {part : Key} {val : Option Nat} {ks : List Nat} {kids : UInt8 → T} : part.length ≤ (T.node a ow part val ks kids).er.long := by
  have hlong : (T.node a ow part val ks kids).er.long = maxL ((dom (ptrs kids)).map fun c => (kids c).er.long + 1) + part.length := by
    show (E.node part val fun c => (kids c).er).long = _
    rw [E.long_node, dom_er]
  omega
theorem kid_node {kids : UInt8 → T} {c : UInt8} (h : c ∈ dom (ptrs kids)) : ∃ a ow p v ks k, kids c = .node a ow p v ks k := by
  have h := dom_mem.1 h
  cases e : kids c with
  | nil => simp [ptrs, e, T.ptr] at h
  | node => exact ⟨_, _, _, _, _, _, rfl⟩
theorem kid_nil {kids : UInt8 → T} {c : UInt8} (h : c ∉ dom (ptrs kids)) : kids c = .nil := by
  cases e : kids c with
  | nil => rfl
  | node => exact absurd (dom_mem.2 (by simp [ptrs, e, T.ptr])) h
section
variable {w : World} {a ow o : Nat} {part : Key} {val : Option Nat} {ks : List Nat} {kids : UInt8 → T} {mt : Option Mtr} {n : Nat}
theorem xkeepB {w : World} {b o : Nat} {cs : List Value} {T : TypeId} {v : Value} (h : Blk w b cs T) (hv : cs[o]? = some v) : xKeep1 w (.pointer (some ((⟨b, 0, none⟩ : Addr).add o))) v := by
  show w.cell? ((⟨b, 0, none⟩ : Addr).add o) = some v
  rw [Addr.add_lit, h.cell, Nat.zero_add, hv]
end
theorem get_has {part : Key} {val : Option Nat} {kids : UInt8 → E} {k : Key} (h : ((E.node part val kids).get k).isSome = true) : ∃ r, k = part ++ r := by
  by_cases hp : part <+: k
  · obtain ⟨r, rfl⟩ := hp; exact ⟨r, rfl⟩
  · rw [get_no hp] at h; cases h
end Go.Proofs.YtbfnagdpanfphaaGreatDoor
end
