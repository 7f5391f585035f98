/-  Written by gen.py for this claim: of each function a form without frames, the same as the engine's condition by reckoning.  -/
import Derived.Test.YtbneecjeifionaaGreatDoorSN
import Derived.Test.YtbneecjeifionaaGreatDoorProg
namespace Go.Proofs.YtbneecjeifionaaGreatDoor
open Go X
set_option linter.unusedVariables false
set_option maxRecDepth 100000
/- spunyarn/put.Put -/
abbrev S_put_Put (a0 : Value) (a1 : Value) (a2 : Value) (a3 : Value) (a4 : Value) (K : Value → World → Prop) (w0 : World) : Prop :=
xEq a3 (.int .u64 0) fun v1000 =>
xIf v1000 (K (.tuple #[(.pointer none), (.int .i64 1)]) w0) (Ret P n_keys_May [a1] w0 fun v1001 w1002 =>
xNe v1001 (.int .i64 0) fun v1003 =>
xIf v1003 (K (.tuple #[(.pointer none), v1001]) w1002) (Ret P n_find_Get [a0, a1] w1002 fun v1004 w1005 =>
xTup v1004 0 fun v1006 =>
xTup v1004 1 fun v1007 =>
/- 0 -/ XJ (fun J1008 =>
xIf v1007 (xEq v1006 a2 fun v1012 =>
J1008 [v1012] w1005) (J1008 [(.bool false)] w1005)) fun vs1009 g1010 w1011 =>
xIf (vs1009.getD 0 undef) (K (.tuple #[a0, (.int .i64 0)]) w1011) (xFill [(.int .u64 0), (.int .u64 0), (.pointer none)] [(0, 1, a2), (1, 1, a3), (2, 1, a4)] fun c1013 =>
Ret P n_put_putter_into [(.agg c1013.toArray), a0, a1] w1011 fun v1014 w1015 =>
K (.tuple #[v1014, (.int .i64 0)]) w1015)))
theorem W_put_Put {a0 a1 a2 a3 a4 : Value} {K : Value → World → Prop} {w : World} (h : S_put_Put a0 a1 a2 a3 a4 K w) : Ret P n_put_Put [a0, a1, a2, a3, a4] w K :=
  vcF_of mixed Tryz.func30 (show S_put_Put a0 a1 a2 a3 a4 K w = vcF P Tryz.f30 [a0, a1, a2, a3, a4] w K from by kernel_rfl) h
/- spunyarn/spunyarnlaw15.as -/
abbrev S_law15_as (a0 : Value) (a1 : Value) (K : Value → World → Prop) (w0 : World) : Prop :=
Ret P n_canon_Shape [a0] w0 fun v1000 w1001 =>
Ret P n_ref13_Build [a1] w1001 fun v1002 w1003 =>
Ret P n_ref13_Shape [v1002] w1003 fun v1004 w1005 =>
xSEq v1000 v1004 fun v1006 =>
K v1006 w1005
theorem W_law15_as {a0 a1 : Value} {K : Value → World → Prop} {w : World} (h : S_law15_as a0 a1 K w) : Ret P n_law15_as [a0, a1] w K :=
  vcF_of mixed Tryz.func31 (show S_law15_as a0 a1 K w = vcF P Tryz.f31 [a0, a1] w K from by kernel_rfl) h
/- spunyarn/canon.Fine -/
abbrev S_canon_Fine (a0 : Value) (K : Value → World → Prop) (w0 : World) : Prop :=
XNew w0 [(.bool false)] 4 fun a1000 w1001 =>
XSt w1001 a1000 (.bool true) fun w1002 =>
Ret P n_canon_each [a0, (.func (.func 67) #[] #[(.pointer (some a1000))])] w1002 fun v1003 w1004 =>
XLd w1004 a1000 fun v1005 =>
K v1005 w1004
theorem W_canon_Fine {a0 : Value} {K : Value → World → Prop} {w : World} (h : S_canon_Fine a0 K w) : Ret P n_canon_Fine [a0] w K :=
  vcF_of mixed Tryz.func32 (show S_canon_Fine a0 K w = vcF P Tryz.f32 [a0] w K from by kernel_rfl) h
/- spunyarn/spunyarnlaw15.tree -/
/- S_law15_tree_l1: 0=slot 12 1=slot 5 out -/
def S_law15_tree_l1 (K : Value → World → Prop) (a0 : Value) (a1 : Value) (v1000 : Value) (I1001 : Nat → List Value → World → Prop) (n1002 : Nat) (vs1003 : List Value) (g1004 : Nat → Value) (w1005 : World) : Prop :=
xLt (vs1003.getD 0 undef) v1000 fun v1006 =>
xIf v1006 (xIxS a0 (vs1003.getD 0 undef) 2 fun v1007 =>
xAt v1007 fun a1008 =>
XLdN w1005 a1008 2 fun v1009 =>
XNew w1005 [(.slice none 0 0), (.int .u64 0)] 54 fun a1010 w1011 =>
XDo P (storeVar 54 a1010 v1009) w1011 fun w1012 =>
XLdN w1012 a1010 2 fun v1013 =>
xFill (repL [(.slice none 0 0), (.int .u64 0)] 1) [(0, 2, v1013)] fun c1014 =>
XNew w1012 c1014 89 fun a1015 w1016 =>
XRun P (Builtin.append_ #[88, 88] 88 #[(vs1003.getD 1 undef), (.slice (some a1015) 1 1)]) w1016 fun v1017 w1018 =>
xAdd (vs1003.getD 0 undef) (.int .i64 1) fun v1019 =>
XNext I1001 n1002 [v1019, v1017] w1018) (Ret P n_canon_Build [(.pointer none), a1, (vs1003.getD 1 undef)] w1005 fun v1020 w1021 =>
xTup v1020 0 fun v1022 =>
xTup v1020 1 fun v1023 =>
K v1022 w1021)
abbrev S_law15_tree (a0 : Value) (a1 : Value) (K : Value → World → Prop) (w0 : World) : Prop :=
xLen a0 fun v1000 =>
XLoop [(.int .i64 0), (.slice none 0 0)] w0 (S_law15_tree_l1 K a0 a1 v1000)
theorem W_law15_tree {a0 a1 : Value} {K : Value → World → Prop} {w : World} (h : S_law15_tree a0 a1 K w) : Ret P n_law15_tree [a0, a1] w K :=
  vcF_of mixed Tryz.func33 (show S_law15_tree a0 a1 K w = vcF P Tryz.f33 [a0, a1] w K from by kernel_rfl) h
/- spunyarn/spunyarnref15.Put -/
abbrev S_ref15_Put (a0 : Value) (a1 : Value) (a2 : Value) (K : Value → World → Prop) (w0 : World) : Prop :=
XRun P (Builtin.append_ #[33, 33] 33 #[(.slice none 0 0), a0]) w0 fun v1000 w1001 =>
xFill [(.slice none 0 0), (.int .u64 0)] [(0, 1, a1), (1, 1, a2)] fun c1002 =>
xFill (repL [(.slice none 0 0), (.int .u64 0)] 1) [(0, 2, (.agg c1002.toArray))] fun c1003 =>
XNew w1001 c1003 54 fun a1004 w1005 =>
XRun P (Builtin.append_ #[33, 33] 33 #[v1000, (.slice (some a1004) 1 1)]) w1005 fun v1006 w1007 =>
Ret P n_ref13_Sort [v1006] w1007 fun v1008 w1009 =>
K v1008 w1009
theorem W_ref15_Put {a0 a1 a2 : Value} {K : Value → World → Prop} {w : World} (h : S_ref15_Put a0 a1 a2 K w) : Ret P n_ref15_Put [a0, a1, a2] w K :=
  vcF_of mixed Tryz.func34 (show S_ref15_Put a0 a1 a2 K w = vcF P Tryz.f34 [a0, a1, a2] w K from by kernel_rfl) h
/- spunyarn/find.Get -/
/- S_find_Get_l1: 0=slot 4 1=slot 5 -/
def S_find_Get_l1 (K : Value → World → Prop) (a1001 : Addr) (I1003 : Nat → List Value → World → Prop) (n1004 : Nat) (vs1005 : List Value) (g1006 : Nat → Value) (w1007 : World) : Prop :=
Ret P n_find_walk_into [(.pointer (some a1001))] w1007 fun v1008 w1009 =>
xIf v1008 (Ret P n_find_walk_ends [(.pointer (some a1001))] w1009 fun v1010 w1011 =>
xIf v1010 (XLd w1011 (a1001.add 0) fun v1012 =>
Ret P n_node_Node_Val [v1012] w1011 fun v1013 w1014 =>
xTup v1013 0 fun v1015 =>
xTup v1013 1 fun v1016 =>
K (.tuple #[v1015, v1016]) w1014) (Ret P n_find_walk_down [(.pointer (some a1001))] w1011 fun v1017 w1018 =>
XNext I1003 n1004 [(vs1005.getD 0 undef), (vs1005.getD 1 undef)] w1018)) (K (.tuple #[(.int .u64 0), (.bool false)]) w1009)
abbrev S_find_Get (a0 : Value) (a1 : Value) (K : Value → World → Prop) (w0 : World) : Prop :=
xFill [(.pointer none), (.slice none 0 0), (.int .i64 0), (.int .i64 0)] [(0, 1, a0), (1, 1, a1)] fun c1000 =>
XNew w0 (cellsV (.agg c1000.toArray)) 109 fun a1001 w1002 =>
XLoop [(.int .u64 0), (.bool false)] w1002 (S_find_Get_l1 K a1001)
theorem W_find_Get {a0 a1 : Value} {K : Value → World → Prop} {w : World} (h : S_find_Get a0 a1 K w) : Ret P n_find_Get [a0, a1] w K :=
  vcF_of mixed Tryz.func35 (show S_find_Get a0 a1 K w = vcF P Tryz.f35 [a0, a1] w K from by kernel_rfl) h
/- spunyarn/find.Steps -/
abbrev S_find_Steps (a0 : Value) (a1 : Value) (K : Value → World → Prop) (w0 : World) : Prop :=
Ret P n_find_each [a0, a1, (.func (.func 75) #[] #[])] w0 fun v1000 w1001 =>
K v1000 w1001
theorem W_find_Steps {a0 a1 : Value} {K : Value → World → Prop} {w : World} (h : S_find_Steps a0 a1 K w) : Ret P n_find_Steps [a0, a1] w K :=
  vcF_of mixed Tryz.func36 (show S_find_Steps a0 a1 K w = vcF P Tryz.f36 [a0, a1] w K from by kernel_rfl) h
/- spunyarn/canon.Depth -/
/- S_canon_Depth_l1: 0=slot 5 k 1=slot 3 deep 2=slot 4 b -/
def S_canon_Depth_l1 (K : Value → World → Prop) (a0 : Value) (I1005 : Nat → List Value → World → Prop) (n1006 : Nat) (vs1007 : List Value) (g1008 : Nat → Value) (w1009 : World) : Prop :=
xPNe P w1009 (vs1007.getD 0 undef) (.pointer none) fun v1010 =>
xIf v1010 (Ret P n_canon_Depth [(vs1007.getD 0 undef)] w1009 fun v1011 w1012 =>
xMax (vs1007.getD 1 undef) v1011 fun v1013 =>
xConv .i64 (vs1007.getD 2 undef) fun v1014 =>
xAdd v1014 (.int .i64 1) fun v1015 =>
Ret P n_node_Node_Next [a0, v1015] w1012 fun v1016 w1017 =>
xTup v1016 0 fun v1018 =>
xTup v1016 1 fun v1019 =>
XNext I1005 n1006 [v1019, v1013, v1018] w1017) (xAdd (vs1007.getD 1 undef) (.int .i64 1) fun v1020 =>
K v1020 w1009)
abbrev S_canon_Depth (a0 : Value) (K : Value → World → Prop) (w0 : World) : Prop :=
xPEq P w0 a0 (.pointer none) fun v1000 =>
xIf v1000 (K (.int .i64 0) w0) (Ret P n_node_Node_Next [a0, (.int .i64 0)] w0 fun v1001 w1002 =>
xTup v1001 0 fun v1003 =>
xTup v1001 1 fun v1004 =>
XLoop [v1004, (.int .i64 0), v1003] w1002 (S_canon_Depth_l1 K a0))
theorem W_canon_Depth {a0 : Value} {K : Value → World → Prop} {w : World} (h : S_canon_Depth a0 K w) : Ret P n_canon_Depth [a0] w K :=
  vcF_of mixed Tryz.func37 (show S_canon_Depth a0 K w = vcF P Tryz.f37 [a0] w K from by kernel_rfl) h
/- spunyarn/union.Pick -/
abbrev S_union_Pick (a0 : Value) (a1 : Value) (a2 : Value) (K : Value → World → Prop) (w0 : World) : Prop :=
Ret P n_union_find [a0] w0 fun v1000 w1001 =>
xTup v1000 0 fun v1002 =>
xTup v1000 1 fun v1003 =>
XNew w1001 [.nilFunc, (.bool false)] 114 fun a1004 w1005 =>
XDo P (storeVar 114 a1004 v1002) w1005 fun w1006 =>
xNe v1003 (.int .i64 0) fun v1007 =>
xIf v1007 (K (.tuple #[(.int .u64 0), v1003]) w1006) (XLd w1006 (a1004.add 0) fun v1008 =>
xFunc v1008 [a1, a2] fun f1009 xs1010 =>
xCall P f1009 xs1010 w1006 fun v1011 w1012 =>
K (.tuple #[v1011, (.int .i64 0)]) w1012)
theorem W_union_Pick {a0 a1 a2 : Value} {K : Value → World → Prop} {w : World} (h : S_union_Pick a0 a1 a2 K w) : Ret P n_union_Pick [a0, a1, a2] w K :=
  vcF_of mixed Tryz.func38 (show S_union_Pick a0 a1 a2 K w = vcF P Tryz.f38 [a0, a1, a2] w K from by kernel_rfl) h
/- spunyarn/spunyarnref24.Pick -/
abbrev S_ref24_Pick (a0 : Value) (a1 : Value) (a2 : Value) (K : Value → World → Prop) (w0 : World) : Prop :=
xEq a0 (.int .i64 1) fun v1000 =>
xIf v1000 (K (.tuple #[a1, (.int .i64 0)]) w0) (xEq a0 (.int .i64 2) fun v1001 =>
xIf v1001 (K (.tuple #[a2, (.int .i64 0)]) w0) (xEq a0 (.int .i64 3) fun v1002 =>
xIf v1002 (xAdd a1 a2 fun v1003 =>
K (.tuple #[v1003, (.int .i64 0)]) w0) (xEq a0 (.int .i64 4) fun v1004 =>
xIf v1004 (xMin a1 a2 fun v1005 =>
K (.tuple #[v1005, (.int .i64 0)]) w0) (xEq a0 (.int .i64 5) fun v1006 =>
xIf v1006 (xMax a1 a2 fun v1007 =>
K (.tuple #[v1007, (.int .i64 0)]) w0) (K (.tuple #[(.int .u64 0), (.int .i64 1)]) w0)))))
theorem W_ref24_Pick {a0 a1 a2 : Value} {K : Value → World → Prop} {w : World} (h : S_ref24_Pick a0 a1 a2 K w) : Ret P n_ref24_Pick [a0, a1, a2] w K :=
  vcF_of mixed Tryz.func39 (show S_ref24_Pick a0 a1 a2 K w = vcF P Tryz.f39 [a0, a1, a2] w K from by kernel_rfl) h
/- spunyarn/union.Of -/
abbrev S_union_Of (a0 : Value) (a1 : Value) (a2 : Value) (a3 : Value) (a4 : Value) (K : Value → World → Prop) (w0 : World) : Prop :=
Ret P n_union_find [a0] w0 fun v1000 w1001 =>
xTup v1000 0 fun v1002 =>
xTup v1000 1 fun v1003 =>
XNew w1001 [.nilFunc, (.bool false)] 114 fun a1004 w1005 =>
XDo P (storeVar 114 a1004 v1002) w1005 fun w1006 =>
/- 0 -/ XJ (fun J1007 =>
xNe v1003 (.int .i64 0) fun v1011 =>
xIf v1011 (J1007 [(.bool true)] w1006) (xEq a3 (.int .u64 0) fun v1012 =>
J1007 [v1012] w1006)) fun vs1008 g1009 w1010 =>
xIf (vs1008.getD 0 undef) (K (.tuple #[(.pointer none), (.int .i64 1)]) w1010) (XLdN w1010 a1004 2 fun v1013 =>
xFill [.nilFunc, (.bool false), (.int .u64 0), (.pointer none)] [(0, 2, v1013), (2, 1, a3), (3, 1, a4)] fun c1014 =>
xFill [(.pointer none), (.int .i64 0)] [(0, 1, a1)] fun c1015 =>
xFill [(.pointer none), (.int .i64 0)] [(0, 1, a2)] fun c1016 =>
Ret P n_union_joiner_of [(.agg c1014.toArray), (.agg c1015.toArray), (.agg c1016.toArray)] w1010 fun v1017 w1018 =>
K (.tuple #[v1017, (.int .i64 0)]) w1018)
theorem W_union_Of {a0 a1 a2 a3 a4 : Value} {K : Value → World → Prop} {w : World} (h : S_union_Of a0 a1 a2 a3 a4 K w) : Ret P n_union_Of [a0, a1, a2, a3, a4] w K :=
  vcF_of mixed Tryz.func40 (show S_union_Of a0 a1 a2 a3 a4 K w = vcF P Tryz.f40 [a0, a1, a2, a3, a4] w K from by kernel_rfl) h
/- spunyarn/spunyarnlaw24.alive -/
abbrev S_law24_alive  (K : Value → World → Prop) (w0 : World) : Prop :=
xFill (repL [(.int .u8 0)] 1) [(0, 1, (.int .u8 1))] fun c1000 =>
XNew w0 c1000 5 fun a1001 w1002 =>
xFill [(.slice none 0 0), (.int .u64 0)] [(0, 1, (.slice (some a1001) 1 1)), (1, 1, (.int .u64 5))] fun c1003 =>
xFill (repL [(.slice none 0 0), (.int .u64 0)] 1) [(0, 2, (.agg c1003.toArray))] fun c1004 =>
XNew w1002 c1004 54 fun a1005 w1006 =>
Ret P n_law24_tree [(.slice (some a1005) 1 1), (.int .u64 1)] w1006 fun v1007 w1008 =>
xFill (repL [(.int .u8 0)] 1) [(0, 1, (.int .u8 1))] fun c1009 =>
XNew w1008 c1009 5 fun a1010 w1011 =>
xFill [(.slice none 0 0), (.int .u64 0)] [(0, 1, (.slice (some a1010) 1 1)), (1, 1, (.int .u64 6))] fun c1012 =>
xFill (repL [(.int .u8 0)] 2) [(0, 1, (.int .u8 1)), (1, 1, (.int .u8 2))] fun c1013 =>
XNew w1011 c1013 5 fun a1014 w1015 =>
xFill [(.slice none 0 0), (.int .u64 0)] [(0, 1, (.slice (some a1014) 2 2)), (1, 1, (.int .u64 7))] fun c1016 =>
xFill (repL [(.slice none 0 0), (.int .u64 0)] 2) [(0, 2, (.agg c1012.toArray)), (2, 2, (.agg c1016.toArray))] fun c1017 =>
XNew w1015 c1017 54 fun a1018 w1019 =>
Ret P n_law24_tree [(.slice (some a1018) 2 2), (.int .u64 1)] w1019 fun v1020 w1021 =>
Ret P n_union_Of [(.int .i64 3), v1007, v1020, (.int .u64 2), (.pointer none)] w1021 fun v1022 w1023 =>
xTup v1022 0 fun v1024 =>
xTup v1022 1 fun v1025 =>
Ret P n_union_Pick [(.int .i64 5), (.int .u64 1), (.int .u64 2)] w1023 fun v1026 w1027 =>
xTup v1026 0 fun v1028 =>
xTup v1026 1 fun v1029 =>
/- 0 -/ XJ (fun J1030 =>
Ret P n_canon_Shape [v1024] w1027 fun v1034 w1035 =>
xSEq v1034 (.string ⟨#[52, 60, 48, 49, 61, 49, 49, 58, 48, 50, 76, 61, 55, 62]⟩) fun v1036 =>
xIf v1036 (xEq v1025 (.int .i64 0) fun v1037 =>
xIf v1037 (xEq v1028 (.int .u64 2) fun v1038 =>
xIf v1038 (xEq v1029 (.int .i64 0) fun v1039 =>
J1030 [v1039] w1035) (J1030 [(.bool false)] w1035)) (J1030 [(.bool false)] w1035)) (J1030 [(.bool false)] w1035)) fun vs1031 g1032 w1033 =>
K (vs1031.getD 0 undef) w1033
theorem W_law24_alive {K : Value → World → Prop} {w : World} (h : S_law24_alive  K w) : Ret P n_law24_alive [] w K :=
  vcF_of mixed Tryz.func41 (show S_law24_alive  K w = vcF P Tryz.f41 [] w K from by kernel_rfl) h
/- spunyarn/spunyarnlaw24.far -/
/- S_law24_far_l1: 0=slot 13 1=slot 4 -/
def S_law24_far_l1 (K : Value → World → Prop) (a0 : Value) (v1002 : Value) (I1003 : Nat → List Value → World → Prop) (n1004 : Nat) (vs1005 : List Value) (g1006 : Nat → Value) (w1007 : World) : Prop :=
xLt (vs1005.getD 0 undef) v1002 fun v1008 =>
xIf v1008 (xIxS a0 (vs1005.getD 0 undef) 2 fun v1009 =>
xAt v1009 fun a1010 =>
XLdN w1007 a1010 2 fun v1011 =>
XNew w1007 [(.slice none 0 0), (.int .u64 0)] 54 fun a1012 w1013 =>
XDo P (storeVar 54 a1012 v1011) w1013 fun w1014 =>
XLd w1014 (a1012.add 0) fun v1015 =>
xLen v1015 fun v1016 =>
xGt v1016 (.int .i64 300) fun v1017 =>
xIf v1017 (K (.bool true) w1014) (xAdd (vs1005.getD 0 undef) (.int .i64 1) fun v1018 =>
XNext I1003 n1004 [v1018, (vs1005.getD 1 undef)] w1014)) (K (.bool false) w1007)
abbrev S_law24_far (a0 : Value) (a1 : Value) (K : Value → World → Prop) (w0 : World) : Prop :=
xLen a0 fun v1000 =>
xGt v1000 a1 fun v1001 =>
xIf v1001 (K (.bool true) w0) (xLen a0 fun v1002 =>
XLoop [(.int .i64 0), (.bool false)] w0 (S_law24_far_l1 K a0 v1002))
theorem W_law24_far {a0 a1 : Value} {K : Value → World → Prop} {w : World} (h : S_law24_far a0 a1 K w) : Ret P n_law24_far [a0, a1] w K :=
  vcF_of mixed Tryz.func42 (show S_law24_far a0 a1 K w = vcF P Tryz.f42 [a0, a1] w K from by kernel_rfl) h
/- spunyarn/spunyarnlaw24.tree -/
/- S_law24_tree_l1: 0=slot 12 1=slot 5 out -/
def S_law24_tree_l1 (K : Value → World → Prop) (a0 : Value) (a1 : Value) (v1000 : Value) (I1001 : Nat → List Value → World → Prop) (n1002 : Nat) (vs1003 : List Value) (g1004 : Nat → Value) (w1005 : World) : Prop :=
xLt (vs1003.getD 0 undef) v1000 fun v1006 =>
xIf v1006 (xIxS a0 (vs1003.getD 0 undef) 2 fun v1007 =>
xAt v1007 fun a1008 =>
XLdN w1005 a1008 2 fun v1009 =>
XNew w1005 [(.slice none 0 0), (.int .u64 0)] 54 fun a1010 w1011 =>
XDo P (storeVar 54 a1010 v1009) w1011 fun w1012 =>
XLdN w1012 a1010 2 fun v1013 =>
xFill (repL [(.slice none 0 0), (.int .u64 0)] 1) [(0, 2, v1013)] fun c1014 =>
XNew w1012 c1014 89 fun a1015 w1016 =>
XRun P (Builtin.append_ #[88, 88] 88 #[(vs1003.getD 1 undef), (.slice (some a1015) 1 1)]) w1016 fun v1017 w1018 =>
xAdd (vs1003.getD 0 undef) (.int .i64 1) fun v1019 =>
XNext I1001 n1002 [v1019, v1017] w1018) (Ret P n_canon_Build [(.pointer none), a1, (vs1003.getD 1 undef)] w1005 fun v1020 w1021 =>
xTup v1020 0 fun v1022 =>
xTup v1020 1 fun v1023 =>
K v1022 w1021)
abbrev S_law24_tree (a0 : Value) (a1 : Value) (K : Value → World → Prop) (w0 : World) : Prop :=
xLen a0 fun v1000 =>
XLoop [(.int .i64 0), (.slice none 0 0)] w0 (S_law24_tree_l1 K a0 a1 v1000)
theorem W_law24_tree {a0 a1 : Value} {K : Value → World → Prop} {w : World} (h : S_law24_tree a0 a1 K w) : Ret P n_law24_tree [a0, a1] w K :=
  vcF_of mixed Tryz.func43 (show S_law24_tree a0 a1 K w = vcF P Tryz.f43 [a0, a1] w K from by kernel_rfl) h
/- spunyarn/canon.Shape -/
abbrev S_canon_Shape (a0 : Value) (K : Value → World → Prop) (w0 : World) : Prop :=
XNew w0 [(.pointer none), (.slice none 0 0)] 124 fun a1000 w1001 =>
Ret P n_canon_shape [(.pointer (some a1000)), a0] w1001 fun v1002 w1003 =>
Ret P n_strings_Builder_String [(.pointer (some a1000))] w1003 fun v1004 w1005 =>
K v1004 w1005
theorem W_canon_Shape {a0 : Value} {K : Value → World → Prop} {w : World} (h : S_canon_Shape a0 K w) : Ret P n_canon_Shape [a0] w K :=
  vcF_of mixed Tryz.func44 (show S_canon_Shape a0 K w = vcF P Tryz.f44 [a0] w K from by kernel_rfl) h
/- spunyarn/spunyarnlaw16.far -/
/- S_law16_far_l1: 0=slot 13 1=slot 4 -/
def S_law16_far_l1 (K : Value → World → Prop) (a0 : Value) (v1002 : Value) (I1003 : Nat → List Value → World → Prop) (n1004 : Nat) (vs1005 : List Value) (g1006 : Nat → Value) (w1007 : World) : Prop :=
xLt (vs1005.getD 0 undef) v1002 fun v1008 =>
xIf v1008 (xIxS a0 (vs1005.getD 0 undef) 2 fun v1009 =>
xAt v1009 fun a1010 =>
XLdN w1007 a1010 2 fun v1011 =>
XNew w1007 [(.slice none 0 0), (.int .u64 0)] 54 fun a1012 w1013 =>
XDo P (storeVar 54 a1012 v1011) w1013 fun w1014 =>
XLd w1014 (a1012.add 0) fun v1015 =>
xLen v1015 fun v1016 =>
xGt v1016 (.int .i64 300) fun v1017 =>
xIf v1017 (K (.bool true) w1014) (xAdd (vs1005.getD 0 undef) (.int .i64 1) fun v1018 =>
XNext I1003 n1004 [v1018, (vs1005.getD 1 undef)] w1014)) (K (.bool false) w1007)
abbrev S_law16_far (a0 : Value) (a1 : Value) (K : Value → World → Prop) (w0 : World) : Prop :=
xLen a0 fun v1000 =>
xGt v1000 a1 fun v1001 =>
xIf v1001 (K (.bool true) w0) (xLen a0 fun v1002 =>
XLoop [(.int .i64 0), (.bool false)] w0 (S_law16_far_l1 K a0 v1002))
theorem W_law16_far {a0 a1 : Value} {K : Value → World → Prop} {w : World} (h : S_law16_far a0 a1 K w) : Ret P n_law16_far [a0, a1] w K :=
  vcF_of mixed Tryz.func45 (show S_law16_far a0 a1 K w = vcF P Tryz.f45 [a0, a1] w K from by kernel_rfl) h
/- spunyarn/spunyarnlaw16.alive -/
abbrev S_law16_alive  (K : Value → World → Prop) (w0 : World) : Prop :=
xFill (repL [(.int .u8 0)] 1) [(0, 1, (.int .u8 1))] fun c1000 =>
XNew w0 c1000 5 fun a1001 w1002 =>
xFill [(.slice none 0 0), (.int .u64 0)] [(0, 1, (.slice (some a1001) 1 1)), (1, 1, (.int .u64 5))] fun c1003 =>
xFill (repL [(.int .u8 0)] 2) [(0, 1, (.int .u8 1)), (1, 1, (.int .u8 2))] fun c1004 =>
XNew w1002 c1004 5 fun a1005 w1006 =>
xFill [(.slice none 0 0), (.int .u64 0)] [(0, 1, (.slice (some a1005) 2 2)), (1, 1, (.int .u64 6))] fun c1007 =>
xFill (repL [(.slice none 0 0), (.int .u64 0)] 2) [(0, 2, (.agg c1003.toArray)), (2, 2, (.agg c1007.toArray))] fun c1008 =>
XNew w1006 c1008 54 fun a1009 w1010 =>
Ret P n_law16_tree [(.slice (some a1009) 2 2), (.int .u64 1)] w1010 fun v1011 w1012 =>
xFill (repL [(.int .u8 0)] 1) [(0, 1, (.int .u8 1))] fun c1013 =>
XNew w1012 c1013 5 fun a1014 w1015 =>
Ret P n_del_Del [v1011, (.slice (some a1014) 1 1), (.int .u64 2), (.pointer none)] w1015 fun v1016 w1017 =>
xTup v1016 0 fun v1018 =>
xTup v1016 1 fun v1019 =>
xTup v1016 2 fun v1020 =>
/- 0 -/ XJ (fun J1021 =>
Ret P n_canon_Shape [v1018] w1017 fun v1025 w1026 =>
xSEq v1025 (.string ⟨#[76, 48, 49, 48, 50, 61, 54]⟩) fun v1027 =>
xIf v1027 (xIf v1019 (xEq v1020 (.int .i64 0) fun v1028 =>
J1021 [v1028] w1026) (J1021 [(.bool false)] w1026)) (J1021 [(.bool false)] w1026)) fun vs1022 g1023 w1024 =>
K (vs1022.getD 0 undef) w1024
theorem W_law16_alive {K : Value → World → Prop} {w : World} (h : S_law16_alive  K w) : Ret P n_law16_alive [] w K :=
  vcF_of mixed Tryz.func46 (show S_law16_alive  K w = vcF P Tryz.f46 [] w K from by kernel_rfl) h
/- spunyarn/spunyarnlaw16.tree -/
/- S_law16_tree_l1: 0=slot 12 1=slot 5 out -/
def S_law16_tree_l1 (K : Value → World → Prop) (a0 : Value) (a1 : Value) (v1000 : Value) (I1001 : Nat → List Value → World → Prop) (n1002 : Nat) (vs1003 : List Value) (g1004 : Nat → Value) (w1005 : World) : Prop :=
xLt (vs1003.getD 0 undef) v1000 fun v1006 =>
xIf v1006 (xIxS a0 (vs1003.getD 0 undef) 2 fun v1007 =>
xAt v1007 fun a1008 =>
XLdN w1005 a1008 2 fun v1009 =>
XNew w1005 [(.slice none 0 0), (.int .u64 0)] 54 fun a1010 w1011 =>
XDo P (storeVar 54 a1010 v1009) w1011 fun w1012 =>
XLdN w1012 a1010 2 fun v1013 =>
xFill (repL [(.slice none 0 0), (.int .u64 0)] 1) [(0, 2, v1013)] fun c1014 =>
XNew w1012 c1014 89 fun a1015 w1016 =>
XRun P (Builtin.append_ #[88, 88] 88 #[(vs1003.getD 1 undef), (.slice (some a1015) 1 1)]) w1016 fun v1017 w1018 =>
xAdd (vs1003.getD 0 undef) (.int .i64 1) fun v1019 =>
XNext I1001 n1002 [v1019, v1017] w1018) (Ret P n_canon_Build [(.pointer none), a1, (vs1003.getD 1 undef)] w1005 fun v1020 w1021 =>
xTup v1020 0 fun v1022 =>
xTup v1020 1 fun v1023 =>
K v1022 w1021)
abbrev S_law16_tree (a0 : Value) (a1 : Value) (K : Value → World → Prop) (w0 : World) : Prop :=
xLen a0 fun v1000 =>
XLoop [(.int .i64 0), (.slice none 0 0)] w0 (S_law16_tree_l1 K a0 a1 v1000)
theorem W_law16_tree {a0 a1 : Value} {K : Value → World → Prop} {w : World} (h : S_law16_tree a0 a1 K w) : Ret P n_law16_tree [a0, a1] w K :=
  vcF_of mixed Tryz.func47 (show S_law16_tree a0 a1 K w = vcF P Tryz.f47 [a0, a1] w K from by kernel_rfl) h
/- spunyarn/del.Del -/
abbrev S_del_Del (a0 : Value) (a1 : Value) (a2 : Value) (a3 : Value) (K : Value → World → Prop) (w0 : World) : Prop :=
xEq a2 (.int .u64 0) fun v1000 =>
xIf v1000 (K (.tuple #[(.pointer none), (.bool false), (.int .i64 1)]) w0) (Ret P n_keys_May [a1] w0 fun v1001 w1002 =>
xNe v1001 (.int .i64 0) fun v1003 =>
xIf v1003 (K (.tuple #[(.pointer none), (.bool false), v1001]) w1002) (Ret P n_find_Has [a0, a1] w1002 fun v1004 w1005 =>
xNot v1004 fun v1006 =>
xIf v1006 (K (.tuple #[a0, (.bool false), (.int .i64 0)]) w1005) (xFill [(.int .u64 0), (.pointer none)] [(0, 1, a2), (1, 1, a3)] fun c1007 =>
Ret P n_del_taker_out [(.agg c1007.toArray), a0, a1] w1005 fun v1008 w1009 =>
K (.tuple #[v1008, (.bool true), (.int .i64 0)]) w1009)))
theorem W_del_Del {a0 a1 a2 a3 : Value} {K : Value → World → Prop} {w : World} (h : S_del_Del a0 a1 a2 a3 K w) : Ret P n_del_Del [a0, a1, a2, a3] w K :=
  vcF_of mixed Tryz.func48 (show S_del_Del a0 a1 a2 a3 K w = vcF P Tryz.f48 [a0, a1, a2, a3] w K from by kernel_rfl) h
/- spunyarn/spunyarnlaw16.as -/
abbrev S_law16_as (a0 : Value) (a1 : Value) (K : Value → World → Prop) (w0 : World) : Prop :=
Ret P n_canon_Shape [a0] w0 fun v1000 w1001 =>
Ret P n_ref13_Build [a1] w1001 fun v1002 w1003 =>
Ret P n_ref13_Shape [v1002] w1003 fun v1004 w1005 =>
xSEq v1000 v1004 fun v1006 =>
K v1006 w1005
theorem W_law16_as {a0 a1 : Value} {K : Value → World → Prop} {w : World} (h : S_law16_as a0 a1 K w) : Ret P n_law16_as [a0, a1] w K :=
  vcF_of mixed Tryz.func49 (show S_law16_as a0 a1 K w = vcF P Tryz.f49 [a0, a1] w K from by kernel_rfl) h
/- spunyarn/spunyarnref16.Del -/
/- S_ref16_Del_l1: 0=slot 8 i 1=slot 7 was 2=slot 6 out -/
def S_ref16_Del_l1 (K : Value → World → Prop) (a0 : Value) (a1 : Value) (I1000 : Nat → List Value → World → Prop) (n1001 : Nat) (vs1002 : List Value) (g1003 : Nat → Value) (w1004 : World) : Prop :=
xLen a0 fun v1005 =>
xLt (vs1002.getD 0 undef) v1005 fun v1006 =>
xIf v1006 (/- 0 was 1 out -/ XJ (fun J1007 =>
xIxS a0 (vs1002.getD 0 undef) 2 fun v1011 =>
xFld v1011 0 fun v1012 =>
xAt v1012 fun a1013 =>
XLd w1004 a1013 fun v1014 =>
Ret P n_ref01_Same [v1014, a1] w1004 fun v1015 w1016 =>
xIf v1015 (J1007 [(.bool true), (vs1002.getD 2 undef)] w1016) (xIxS a0 (vs1002.getD 0 undef) 2 fun v1017 =>
xAt v1017 fun a1018 =>
XLdN w1016 a1018 2 fun v1019 =>
xFill (repL [(.slice none 0 0), (.int .u64 0)] 1) [(0, 2, v1019)] fun c1020 =>
XNew w1016 c1020 54 fun a1021 w1022 =>
XRun P (Builtin.append_ #[33, 33] 33 #[(vs1002.getD 2 undef), (.slice (some a1021) 1 1)]) w1022 fun v1023 w1024 =>
J1007 [(vs1002.getD 1 undef), v1023] w1024)) fun vs1008 g1009 w1010 =>
xAdd (vs1002.getD 0 undef) (.int .i64 1) fun v1025 =>
XNext I1000 n1001 [v1025, (vs1008.getD 0 undef), (vs1008.getD 1 undef)] w1010) (K (.tuple #[(vs1002.getD 2 undef), (vs1002.getD 1 undef)]) w1004)
abbrev S_ref16_Del (a0 : Value) (a1 : Value) (K : Value → World → Prop) (w0 : World) : Prop :=
XLoop [(.int .i64 0), (.bool false), (.slice none 0 0)] w0 (S_ref16_Del_l1 K a0 a1)
theorem W_ref16_Del {a0 a1 : Value} {K : Value → World → Prop} {w : World} (h : S_ref16_Del a0 a1 K w) : Ret P n_ref16_Del [a0, a1] w K :=
  vcF_of mixed Tryz.func50 (show S_ref16_Del a0 a1 K w = vcF P Tryz.f50 [a0, a1] w K from by kernel_rfl) h
/- (*spunyarn/meter.Meter).Made -/
abbrev S_meter_Meter_Made (a0 : Value) (a1 : Value) (K : Value → World → Prop) (w0 : World) : Prop :=
/- 0 -/ XJ (fun J1000 =>
xPNe P w0 a0 (.pointer none) fun v1004 =>
xIf v1004 (xGt a1 (.int .i64 0) fun v1005 =>
J1000 [v1005] w0) (J1000 [(.bool false)] w0)) fun vs1001 g1002 w1003 =>
xIf (vs1001.getD 0 undef) (xAt a0 fun a1006 =>
Ret P n_atomic_Int64_Add [(.pointer (some (a1006.add 0))), a1] w1003 fun v1007 w1008 =>
K (.tuple #[]) w1008) (K (.tuple #[]) w1003)
theorem W_meter_Meter_Made {a0 a1 : Value} {K : Value → World → Prop} {w : World} (h : S_meter_Meter_Made a0 a1 K w) : Ret P n_meter_Meter_Made [a0, a1] w K :=
  vcF_of mixed Tryz.func51 (show S_meter_Meter_Made a0 a1 K w = vcF P Tryz.f51 [a0, a1] w K from by kernel_rfl) h
/- bytes.Clone -/
abbrev S_bytes_Clone (a0 : Value) (K : Value → World → Prop) (w0 : World) : Prop :=
xLEq a0 (.slice none 0 0) fun v1000 =>
xIf v1000 (K (.slice none 0 0) w0) (xFill (repL [(.int .u8 0)] 0) [] fun c1001 =>
XNew w0 c1001 5 fun a1002 w1003 =>
XRun P (Builtin.append_ #[26, 26] 26 #[(.slice (some a1002) 0 0), a0]) w1003 fun v1004 w1005 =>
K v1004 w1005)
theorem W_bytes_Clone {a0 : Value} {K : Value → World → Prop} {w : World} (h : S_bytes_Clone a0 K w) : Ret P n_bytes_Clone [a0] w K :=
  vcF_of mixed Tryz.func52 (show S_bytes_Clone a0 K w = vcF P Tryz.f52 [a0] w K from by kernel_rfl) h
/- spunyarn/sub.with -/
abbrev S_sub_with (a0 : Value) (a1 : Value) (a2 : Value) (a3 : Value) (K : Value → World → Prop) (w0 : World) : Prop :=
/- 0 -/ XJ (fun J1000 =>
xPEq P w0 a0 (.pointer none) fun v1004 =>
xIf v1004 (J1000 [(.bool true)] w0) (Ret P n_node_Node_Part [a0] w0 fun v1005 w1006 =>
Ret P n_keys_Same [v1005, a1] w1006 fun v1007 w1008 =>
J1000 [v1007] w1008)) fun vs1001 g1002 w1003 =>
xIf (vs1001.getD 0 undef) (K a0 w1003) (Ret P n_node_Node_Copy [a0, a3, a2] w1003 fun v1009 w1010 =>
Ret P n_node_Node_SetPart [v1009, a2, a1] w1010 fun v1011 w1012 =>
K v1009 w1012)
theorem W_sub_with {a0 a1 a2 a3 : Value} {K : Value → World → Prop} {w : World} (h : S_sub_with a0 a1 a2 a3 K w) : Ret P n_sub_with [a0, a1, a2, a3] w K :=
  vcF_of mixed Tryz.func53 (show S_sub_with a0 a1 a2 a3 K w = vcF P Tryz.f53 [a0, a1, a2, a3] w K from by kernel_rfl) h
/- (*spunyarn/node.Node).Part -/
abbrev S_node_Node_Part (a0 : Value) (K : Value → World → Prop) (w0 : World) : Prop :=
xPEq P w0 a0 (.pointer none) fun v1000 =>
xIf v1000 (K (.slice none 0 0) w0) (xAt a0 fun a1001 =>
XLd w0 (a1001.add 1) fun v1002 =>
xLen v1002 fun v1003 =>
XRun P (Instr.makeSlice 26 v1003 v1003) w0 fun v1004 w1005 =>
xAt a0 fun a1006 =>
XLd w1005 (a1006.add 1) fun v1007 =>
XRun P (Builtin.copy_ #[26, 26] 3 #[v1004, v1007]) w1005 fun v1008 w1009 =>
K v1004 w1009)
theorem W_node_Node_Part {a0 : Value} {K : Value → World → Prop} {w : World} (h : S_node_Node_Part a0 K w) : Ret P n_node_Node_Part [a0] w K :=
  vcF_of mixed Tryz.func54 (show S_node_Node_Part a0 K w = vcF P Tryz.f54 [a0] w K from by kernel_rfl) h
/- (*spunyarn/node.Node).Next -/
abbrev S_node_Node_Next (a0 : Value) (a1 : Value) (K : Value → World → Prop) (w0 : World) : Prop :=
xPEq P w0 a0 (.pointer none) fun v1000 =>
xIf v1000 (K (.tuple #[(.int .u8 0), (.pointer none)]) w0) (xAt a0 fun a1001 =>
XLd w0 (a1001.add 4) fun v1002 =>
Ret P n_kids_Kids_Next [v1002, a1] w0 fun v1003 w1004 =>
xTup v1003 0 fun v1005 =>
xTup v1003 1 fun v1006 =>
xTup v1003 2 fun v1007 =>
K (.tuple #[v1005, v1006]) w1004)
theorem W_node_Node_Next {a0 a1 : Value} {K : Value → World → Prop} {w : World} (h : S_node_Node_Next a0 a1 K w) : Ret P n_node_Node_Next [a0, a1] w K :=
  vcF_of mixed Tryz.func55 (show S_node_Node_Next a0 a1 K w = vcF P Tryz.f55 [a0, a1] w K from by kernel_rfl) h
/- spunyarn/spunyarnref01.Cmp -/
abbrev S_ref01_Cmp (a0 : Value) (a1 : Value) (K : Value → World → Prop) (w0 : World) : Prop :=
Ret P n_ref01_Common [a0, a1] w0 fun v1000 w1001 =>
/- 0 -/ XJ (fun J1002 =>
xLen a0 fun v1006 =>
xEq v1000 v1006 fun v1007 =>
xIf v1007 (xLen a1 fun v1008 =>
xEq v1000 v1008 fun v1009 =>
J1002 [v1009] w1001) (J1002 [(.bool false)] w1001)) fun vs1003 g1004 w1005 =>
xIf (vs1003.getD 0 undef) (K (.int .i64 0) w1005) (xLen a0 fun v1010 =>
xEq v1000 v1010 fun v1011 =>
xIf v1011 (K (.int .i64 (-1)) w1005) (xLen a1 fun v1012 =>
xEq v1000 v1012 fun v1013 =>
xIf v1013 (K (.int .i64 1) w1005) (xIxS a0 v1000 1 fun v1014 =>
xAt v1014 fun a1015 =>
XLd w1005.drew a1015 fun v1016 =>
xIxS a1 v1000 1 fun v1017 =>
xAt v1017 fun a1018 =>
XLd w1005.drew a1018 fun v1019 =>
xLt v1016 v1019 fun v1020 =>
xIf v1020 (K (.int .i64 (-1)) (w1005.drew)) (K (.int .i64 1) (w1005.drew)))))
theorem W_ref01_Cmp {a0 a1 : Value} {K : Value → World → Prop} {w : World} (h : S_ref01_Cmp a0 a1 K w) : Ret P n_ref01_Cmp [a0, a1] w K :=
  vcF_of mixed Tryz.func56 (show S_ref01_Cmp a0 a1 K w = vcF P Tryz.f56 [a0, a1] w K from by kernel_rfl) h
/- spunyarn/spunyarnref01.Same -/
abbrev S_ref01_Same (a0 : Value) (a1 : Value) (K : Value → World → Prop) (w0 : World) : Prop :=
Ret P n_ref01_Cmp [a0, a1] w0 fun v1000 w1001 =>
xEq v1000 (.int .i64 0) fun v1002 =>
K v1002 w1001
theorem W_ref01_Same {a0 a1 : Value} {K : Value → World → Prop} {w : World} (h : S_ref01_Same a0 a1 K w) : Ret P n_ref01_Same [a0, a1] w K :=
  vcF_of mixed Tryz.func57 (show S_ref01_Same a0 a1 K w = vcF P Tryz.f57 [a0, a1] w K from by kernel_rfl) h
/- spunyarn/canon.Build -/
abbrev S_canon_Build (a0 : Value) (a1 : Value) (a2 : Value) (K : Value → World → Prop) (w0 : World) : Prop :=
Ret P n_canon_check [a2] w0 fun v1000 w1001 =>
xNe v1000 (.int .i64 0) fun v1002 =>
xIf v1002 (K (.tuple #[(.pointer none), v1000]) w1001) (xFill [(.pointer none), (.int .u64 0)] [(0, 1, a0), (1, 1, a1)] fun c1003 =>
Ret P n_canon_maker_tree [(.agg c1003.toArray), a2, (.int .i64 0)] w1001 fun v1004 w1005 =>
K (.tuple #[v1004, (.int .i64 0)]) w1005)
theorem W_canon_Build {a0 a1 a2 : Value} {K : Value → World → Prop} {w : World} (h : S_canon_Build a0 a1 a2 K w) : Ret P n_canon_Build [a0, a1, a2] w K :=
  vcF_of mixed Tryz.func58 (show S_canon_Build a0 a1 a2 K w = vcF P Tryz.f58 [a0, a1, a2] w K from by kernel_rfl) h
/- spunyarn/sub.seek -/
/- S_sub_seek_l1: 0=slot 0 n 1=slot 6 part 2=slot 5 at 3=slot 7 left 4=slot 8 same 5=slot 19 6=slot 30 -/
def S_sub_seek_l1 (K : Value → World → Prop) (a1 : Value) (a1000 : Addr) (I1002 : Nat → List Value → World → Prop) (n1003 : Nat) (vs1004 : List Value) (g1005 : Nat → Value) (w1006 : World) : Prop :=
xPNe P w1006 (vs1004.getD 0 undef) (.pointer none) fun v1007 =>
xIf v1007 (Ret P n_node_Node_Part [(vs1004.getD 0 undef)] w1006 fun v1008 w1009 =>
xCutS 1 a1 (some (vs1004.getD 2 undef)) none none fun v1010 =>
Ret P n_keys_Common [v1008, v1010] w1009 fun v1011 w1012 =>
xLen v1010 fun v1013 =>
xEq v1011 v1013 fun v1014 =>
xIf v1014 (xCutS 1 a1 none (some (vs1004.getD 2 undef)) (some (vs1004.getD 2 undef)) fun v1015 =>
xFill [(.pointer none), (.slice none 0 0)] [(0, 1, (vs1004.getD 0 undef)), (1, 1, v1015)] fun c1016 =>
XDo P (storeVar 92 a1000 (.agg c1016.toArray)) w1012 fun w1017 =>
XLdN w1017 a1000 2 fun v1018 =>
K v1018 w1017) (xLen v1008 fun v1019 =>
xLt v1011 v1019 fun v1020 =>
xIf v1020 (xFill [(.pointer none), (.slice none 0 0)] [] fun c1021 =>
XDo P (storeVar 92 a1000 (.agg c1021.toArray)) w1012 fun w1022 =>
XLdN w1022 a1000 2 fun v1023 =>
K v1023 w1022) (xIxS v1010 v1011 1 fun v1024 =>
xAt v1024 fun a1025 =>
XLd w1012 a1025 fun v1026 =>
Ret P n_node_Node_Kid [(vs1004.getD 0 undef), v1026] w1012 fun v1027 w1028 =>
xAdd v1011 (.int .i64 1) fun v1029 =>
xAdd (vs1004.getD 2 undef) v1029 fun v1030 =>
XNext I1002 n1003 [v1027, v1008, v1030, v1010, v1011, v1014, v1020] w1028))) (xFill [(.pointer none), (.slice none 0 0)] [] fun c1031 =>
XDo P (storeVar 92 a1000 (.agg c1031.toArray)) w1006 fun w1032 =>
XLdN w1032 a1000 2 fun v1033 =>
K v1033 w1032)
abbrev S_sub_seek (a0 : Value) (a1 : Value) (K : Value → World → Prop) (w0 : World) : Prop :=
XNew w0 [(.pointer none), (.slice none 0 0)] 92 fun a1000 w1001 =>
XLoop [a0, undef, (.int .i64 0), undef, undef, undef, undef] w1001 (S_sub_seek_l1 K a1 a1000)
theorem W_sub_seek {a0 a1 : Value} {K : Value → World → Prop} {w : World} (h : S_sub_seek a0 a1 K w) : Ret P n_sub_seek [a0, a1] w K :=
  vcF_of mixed Tryz.func59 (show S_sub_seek a0 a1 K w = vcF P Tryz.f59 [a0, a1] w K from by kernel_rfl) h
/- (*sync/atomic.Int64).Load -/
abbrev S_atomic_Int64_Load (a0 : Value) (K : Value → World → Prop) (w0 : World) : Prop :=
xAt a0 fun a1000 =>
xCall P 92 [(.pointer (some (a1000.add 0)))] w0 fun v1001 w1002 =>
K v1001 w1002
theorem W_atomic_Int64_Load {a0 : Value} {K : Value → World → Prop} {w : World} (h : S_atomic_Int64_Load a0 K w) : Ret P n_atomic_Int64_Load [a0] w K :=
  vcF_of mixed Tryz.func60 (show S_atomic_Int64_Load a0 K w = vcF P Tryz.f60 [a0] w K from by kernel_rfl) h
/- spunyarn/spunyarnref01.Begins -/
abbrev S_ref01_Begins (a0 : Value) (a1 : Value) (K : Value → World → Prop) (w0 : World) : Prop :=
Ret P n_ref01_Common [a0, a1] w0 fun v1000 w1001 =>
xLen a1 fun v1002 =>
xEq v1000 v1002 fun v1003 =>
K v1003 w1001
theorem W_ref01_Begins {a0 a1 : Value} {K : Value → World → Prop} {w : World} (h : S_ref01_Begins a0 a1 K w) : Ret P n_ref01_Begins [a0, a1] w K :=
  vcF_of mixed Tryz.func61 (show S_ref01_Begins a0 a1 K w = vcF P Tryz.f61 [a0, a1] w K from by kernel_rfl) h
/- spunyarn/spunyarnref13.Shape -/
/- S_ref13_Shape_l1: 0=slot 4 i 1=slot 3 s -/
def S_ref13_Shape_l1 (K : Value → World → Prop) (a1000 : Addr) (I1034 : Nat → List Value → World → Prop) (n1035 : Nat) (vs1036 : List Value) (g1037 : Nat → Value) (w1038 : World) : Prop :=
XLd w1038 (a1000.add 5) fun v1039 =>
xLen v1039 fun v1040 =>
xLt (vs1036.getD 0 undef) v1040 fun v1041 =>
xIf v1041 (XLd w1038.drew (a1000.add 4) fun v1042 =>
xIxS v1042 (vs1036.getD 0 undef) 1 fun v1043 =>
xAt v1043 fun a1044 =>
XLd w1038.drew a1044 fun v1045 =>
XLd w1038.drew (a1000.add 5) fun v1046 =>
xIxS v1046 (vs1036.getD 0 undef) 6 fun v1047 =>
xAt v1047 fun a1048 =>
XLdN w1038.drew a1048 6 fun v1049 =>
xFill (repL [(.int .u8 0)] 1) [(0, 1, v1045)] fun c1050 =>
XNew w1038.drew c1050 5 fun a1051 w1052 =>
xKeepN w1052 v1047 v1049 ∧ (xKeep1 w1052 (.pointer (some (a1000.add 5))) v1046 ∧ (Ret P n_ref01_Text [(.slice (some a1051) 1 1)] w1052 fun v1053 w1054 =>
xKeepN w1054 v1047 v1049 ∧ (xKeep1 w1054 (.pointer (some (a1000.add 5))) v1046 ∧ (xSCat (.string ⟨#[58]⟩) v1053 fun v1055 =>
Ret P n_ref13_Shape [v1049] w1054 fun v1056 w1057 =>
xSCat v1055 v1056 fun v1058 =>
xSCat (vs1036.getD 1 undef) v1058 fun v1059 =>
xAdd (vs1036.getD 0 undef) (.int .i64 1) fun v1060 =>
XNext I1034 n1035 [v1060, v1059] w1057))))) (xSCat (vs1036.getD 1 undef) (.string ⟨#[62]⟩) fun v1061 =>
K v1061 w1038)
abbrev S_ref13_Shape (a0 : Value) (K : Value → World → Prop) (w0 : World) : Prop :=
XNew w0 (cellsV a0) 98 fun a1000 w1001 =>
XLd w1001 (a1000.add 0) fun v1002 =>
xEq v1002 (.int .i64 0) fun v1003 =>
xIf v1003 (K (.string ⟨#[46]⟩) w1001) (XLd w1001 (a1000.add 0) fun v1004 =>
xEq v1004 (.int .i64 1) fun v1005 =>
xIf v1005 (XLd w1001.drew (a1000.add 1) fun v1006 =>
XLd w1001.drew (a1000.add 3) fun v1007 =>
Ret P n_ref01_Text [v1006] w1001.drew fun v1008 w1009 =>
xKeep1 w1009 (.pointer (some (a1000.add 3))) v1007 ∧ (xSCat (.string ⟨#[76]⟩) v1008 fun v1010 =>
xSCat v1010 (.string ⟨#[61]⟩) fun v1011 =>
Ret P n_ref13_Digits [v1007] w1009 fun v1012 w1013 =>
xSCat v1011 v1012 fun v1014 =>
K v1014 w1013)) (XLd w1001.drew (a1000.add 0) fun v1015 =>
xConv .u64 v1015 fun v1016 =>
XLd w1001.drew (a1000.add 1) fun v1017 =>
Ret P n_ref13_Digits [v1016] w1001.drew fun v1018 w1019 =>
xKeep1 w1019 (.pointer (some (a1000.add 1))) v1017 ∧ (xSCat v1018 (.string ⟨#[60]⟩) fun v1020 =>
Ret P n_ref01_Text [v1017] w1019 fun v1021 w1022 =>
xSCat v1020 v1021 fun v1023 =>
/- 0 s -/ XJ (fun J1024 =>
XLd w1022 (a1000.add 2) fun v1028 =>
xIf v1028 (XLd w1022 (a1000.add 3) fun v1029 =>
Ret P n_ref13_Digits [v1029] w1022 fun v1030 w1031 =>
xSCat (.string ⟨#[61]⟩) v1030 fun v1032 =>
xSCat v1023 v1032 fun v1033 =>
J1024 [v1033] w1031) (J1024 [v1023] w1022)) fun vs1025 g1026 w1027 =>
XLoop [(.int .i64 0), (vs1025.getD 0 undef)] w1027 (S_ref13_Shape_l1 K a1000))))
theorem W_ref13_Shape {a0 : Value} {K : Value → World → Prop} {w : World} (h : S_ref13_Shape a0 K w) : Ret P n_ref13_Shape [a0] w K :=
  vcF_of mixed Tryz.func62 (show S_ref13_Shape a0 K w = vcF P Tryz.f62 [a0] w K from by kernel_rfl) h
/- spunyarn/spunyarnref13.Build -/
abbrev S_ref13_Build (a0 : Value) (K : Value → World → Prop) (w0 : World) : Prop :=
XNew w0 [(.int .i64 0), (.slice none 0 0), (.bool false), (.int .u64 0), (.slice none 0 0), (.slice none 0 0)] 98 fun a1000 w1001 =>
Ret P n_ref13_build [a0, (.int .i64 0)] w1001 fun v1002 w1003 =>
XDo P (storeVar 98 a1000 v1002) w1003 fun w1004 =>
XLdN w1004 a1000 6 fun v1005 =>
K v1005 w1004
theorem W_ref13_Build {a0 : Value} {K : Value → World → Prop} {w : World} (h : S_ref13_Build a0 K w) : Ret P n_ref13_Build [a0] w K :=
  vcF_of mixed Tryz.func63 (show S_ref13_Build a0 K w = vcF P Tryz.f63 [a0] w K from by kernel_rfl) h
/- spunyarn/keys.May -/
abbrev S_keys_May (a0 : Value) (K : Value → World → Prop) (w0 : World) : Prop :=
xLen a0 fun v1000 =>
xGt v1000 (.int .i64 65535) fun v1001 =>
xIf v1001 (K (.int .i64 8) w0) (K (.int .i64 0) w0)
theorem W_keys_May {a0 : Value} {K : Value → World → Prop} {w : World} (h : S_keys_May a0 K w) : Ret P n_keys_May [a0] w K :=
  vcF_of mixed Tryz.func64 (show S_keys_May a0 K w = vcF P Tryz.f64 [a0] w K from by kernel_rfl) h
/- (spunyarn/put.putter).into -/
abbrev S_put_putter_into (a0 : Value) (a1 : Value) (a2 : Value) (K : Value → World → Prop) (w0 : World) : Prop :=
XNew w0 (cellsV a0) 102 fun a1000 w1001 =>
xPEq P w1001 a1 (.pointer none) fun v1002 =>
xIf v1002 (XLd w1001 (a1000.add 2) fun v1003 =>
XLd w1001 (a1000.add 1) fun v1004 =>
XLd w1001 (a1000.add 0) fun v1005 =>
Ret P n_node_Leaf [v1003, v1004, a2, v1005] w1001 fun v1006 w1007 =>
K v1006 w1007) (Ret P n_node_Node_Part [a1] w1001 fun v1008 w1009 =>
Ret P n_keys_Common [v1008, a2] w1009 fun v1010 w1011 =>
Ret P n_node_Node_Kind [a1] w1011 fun v1012 w1013 =>
xEq v1012 (.int .i64 1) fun v1014 =>
/- 0 1 2 3 -/ XJ (fun J1015 =>
/- 0 -/ XJ (fun J1019 =>
xLen v1008 fun v1023 =>
xEq v1010 v1023 fun v1024 =>
xIf v1024 (xLen a2 fun v1025 =>
xEq v1010 v1025 fun v1026 =>
J1019 [v1026] w1013) (J1019 [(.bool false)] w1013)) fun vs1020 g1021 w1022 =>
xIf (vs1020.getD 0 undef) (XLdN w1022 a1000 3 fun v1027 =>
Ret P n_put_putter_here [v1027, a1] w1022 fun v1028 w1029 =>
K v1028 w1029) (xLen v1008 fun v1030 =>
xLt v1010 v1030 fun v1031 =>
xIf v1031 (J1015 [(vs1020.getD 0 undef), v1031, undef, (.pointer none)] w1022) (xIf v1014 (J1015 [(vs1020.getD 0 undef), v1031, v1014, (.pointer none)] w1022) (XLdN w1022.drew a1000 3 fun v1032 =>
xCutS 1 a2 (some v1010) none none fun v1033 =>
Ret P n_put_putter_below [v1032, a1, v1033] w1022.drew fun v1034 w1035 =>
K v1034 w1035)))) fun vs1016 g1017 w1018 =>
XLdN w1018 a1000 3 fun v1036 =>
Ret P n_put_putter_split [v1036, a1, v1008, a2, v1010] w1018 fun v1037 w1038 =>
K v1037 w1038)
theorem W_put_putter_into {a0 a1 a2 : Value} {K : Value → World → Prop} {w : World} (h : S_put_putter_into a0 a1 a2 K w) : Ret P n_put_putter_into [a0, a1, a2] w K :=
  vcF_of mixed Tryz.func65 (show S_put_putter_into a0 a1 a2 K w = vcF P Tryz.f65 [a0, a1, a2] w K from by kernel_rfl) h
/- spunyarn/canon.each -/
abbrev S_canon_each (a0 : Value) (a1 : Value) (K : Value → World → Prop) (w0 : World) : Prop :=
XNew w0 (cellsV a1) 106 fun a1000 w1001 =>
XNew w1001 [.nilFunc] 106 fun a1002 w1003 =>
XSt w1003 a1002 (.func (.func 99) #[] #[(.pointer (some a1000)), (.pointer (some a1002))]) fun w1004 =>
XLd w1004 a1002 fun v1005 =>
xFunc v1005 [(.slice none 0 0), a0] fun f1006 xs1007 =>
xCall P f1006 xs1007 w1004 fun v1008 w1009 =>
K (.tuple #[]) w1009
theorem W_canon_each {a0 a1 : Value} {K : Value → World → Prop} {w : World} (h : S_canon_each a0 a1 K w) : Ret P n_canon_each [a0, a1] w K :=
  vcF_of mixed Tryz.func66 (show S_canon_each a0 a1 K w = vcF P Tryz.f66 [a0, a1] w K from by kernel_rfl) h
/- spunyarn/canon.Fine$1 -/
abbrev S_canon_Fine_1 (a0 : Value) (a1 : Value) (a2 : Value) (K : Value → World → Prop) (w0 : World) : Prop :=
Ret P n_node_Node_Val [a1] w0 fun v1000 w1001 =>
xTup v1000 0 fun v1002 =>
xTup v1000 1 fun v1003 =>
/- 0 -/ XJ (fun J1004 =>
Ret P n_node_Node_Kind [a1] w1001 fun v1008 w1009 =>
xNe v1008 (.int .i64 1) fun v1010 =>
xIf v1010 (Ret P n_node_Node_Occupants [a1] w1009 fun v1011 w1012 =>
xLt v1011 (.int .i64 2) fun v1013 =>
xIf v1013 (J1004 [(.bool true)] w1012) (xIf v1003 (Ret P n_keys_May [a0] w1012 fun v1014 w1015 =>
xNe v1014 (.int .i64 0) fun v1016 =>
J1004 [v1016] w1015) (J1004 [(.bool false)] w1012))) (xIf v1003 (Ret P n_keys_May [a0] w1009 fun v1017 w1018 =>
xNe v1017 (.int .i64 0) fun v1019 =>
J1004 [v1019] w1018) (J1004 [(.bool false)] w1009))) fun vs1005 g1006 w1007 =>
xIf (vs1005.getD 0 undef) (xAt a2 fun a1021 =>
XSt w1007 a1021 (.bool false) fun w1020 =>
K (.tuple #[]) w1020) (K (.tuple #[]) w1007)
theorem W_canon_Fine_1 {a0 a1 a2 : Value} {K : Value → World → Prop} {w : World} (h : S_canon_Fine_1 a0 a1 a2 K w) : Ret P n_canon_Fine_1 [a0, a1, a2] w K :=
  vcF_of mixed Tryz.func67 (show S_canon_Fine_1 a0 a1 a2 K w = vcF P Tryz.f67 [a0, a1, a2] w K from by kernel_rfl) h
/- (*spunyarn/node.Node).Val -/
abbrev S_node_Node_Val (a0 : Value) (K : Value → World → Prop) (w0 : World) : Prop :=
/- 0 -/ XJ (fun J1000 =>
xPEq P w0 a0 (.pointer none) fun v1004 =>
xIf v1004 (J1000 [(.bool true)] w0) (xAt a0 fun a1005 =>
XLd w0 (a1005.add 3) fun v1006 =>
xNot v1006 fun v1007 =>
J1000 [v1007] w0)) fun vs1001 g1002 w1003 =>
xIf (vs1001.getD 0 undef) (K (.tuple #[(.int .u64 0), (.bool false)]) w1003) (xAt a0 fun a1008 =>
XLd w1003 (a1008.add 2) fun v1009 =>
K (.tuple #[v1009, (.bool true)]) w1003)
theorem W_node_Node_Val {a0 : Value} {K : Value → World → Prop} {w : World} (h : S_node_Node_Val a0 K w) : Ret P n_node_Node_Val [a0] w K :=
  vcF_of mixed Tryz.func68 (show S_node_Node_Val a0 K w = vcF P Tryz.f68 [a0] w K from by kernel_rfl) h
/- (*spunyarn/node.Node).Kind -/
abbrev S_node_Node_Kind (a0 : Value) (K : Value → World → Prop) (w0 : World) : Prop :=
xPEq P w0 a0 (.pointer none) fun v1000 =>
xIf v1000 (K (.int .i64 0) w0) (Ret P n_node_Node_isLeaf [a0] w0 fun v1001 w1002 =>
xIf v1001 (K (.int .i64 1) w1002) (xAt a0 fun a1003 =>
XLd w1002 (a1003.add 4) fun v1004 =>
Ret P n_kids_Kids_Kind [v1004] w1002 fun v1005 w1006 =>
K v1005 w1006))
theorem W_node_Node_Kind {a0 : Value} {K : Value → World → Prop} {w : World} (h : S_node_Node_Kind a0 K w) : Ret P n_node_Node_Kind [a0] w K :=
  vcF_of mixed Tryz.func69 (show S_node_Node_Kind a0 K w = vcF P Tryz.f69 [a0] w K from by kernel_rfl) h
/- (*spunyarn/node.Node).Occupants -/
abbrev S_node_Node_Occupants (a0 : Value) (K : Value → World → Prop) (w0 : World) : Prop :=
/- 0 -/ XJ (fun J1000 =>
xPNe P w0 a0 (.pointer none) fun v1004 =>
xIf v1004 (xAt a0 fun a1005 =>
XLd w0 (a1005.add 3) fun v1006 =>
J1000 [v1006] w0) (J1000 [(.bool false)] w0)) fun vs1001 g1002 w1003 =>
xIf (vs1001.getD 0 undef) (xAt a0 fun a1007 =>
XLd w1003 (a1007.add 4) fun v1008 =>
Ret P n_kids_Kids_Len [v1008] w1003 fun v1009 w1010 =>
xAdd v1009 (.int .i64 1) fun v1011 =>
K v1011 w1010) (Ret P n_node_Node_Len [a0] w1003 fun v1012 w1013 =>
K v1012 w1013)
theorem W_node_Node_Occupants {a0 : Value} {K : Value → World → Prop} {w : World} (h : S_node_Node_Occupants a0 K w) : Ret P n_node_Node_Occupants [a0] w K :=
  vcF_of mixed Tryz.func70 (show S_node_Node_Occupants a0 K w = vcF P Tryz.f70 [a0] w K from by kernel_rfl) h
/- (*spunyarn/find.walk).into -/
abbrev S_find_walk_into (a0 : Value) (K : Value → World → Prop) (w0 : World) : Prop :=
xAt a0 fun a1000 =>
XLd w0 (a1000.add 0) fun v1001 =>
xPEq P w0 v1001 (.pointer none) fun v1002 =>
xIf v1002 (K (.bool false) w0) (xAt a0 fun a1003 =>
XLd w0 (a1003.add 3) fun v1004 =>
xAdd v1004 (.int .i64 1) fun v1005 =>
xAt a0 fun a1006 =>
XSt w0 (a1006.add 3) v1005 fun w1007 =>
xAt a0 fun a1008 =>
XLd w1007 (a1008.add 0) fun v1009 =>
Ret P n_node_Node_Part [v1009] w1007 fun v1010 w1011 =>
xAt a0 fun a1012 =>
XLd w1011.drew (a1012.add 1) fun v1013 =>
xAt a0 fun a1014 =>
XLd w1011.drew (a1014.add 2) fun v1015 =>
xCutS 1 v1013 (some v1015) none none fun v1016 =>
Ret P n_bytes_HasPrefix [v1016, v1010] w1011.drew fun v1017 w1018 =>
xNot v1017 fun v1019 =>
xIf v1019 (K (.bool false) w1018) (xAt a0 fun a1020 =>
XLd w1018 (a1020.add 2) fun v1021 =>
xLen v1010 fun v1022 =>
xAdd v1021 v1022 fun v1023 =>
xAt a0 fun a1024 =>
XSt w1018 (a1024.add 2) v1023 fun w1025 =>
K (.bool true) w1025))
theorem W_find_walk_into {a0 : Value} {K : Value → World → Prop} {w : World} (h : S_find_walk_into a0 K w) : Ret P n_find_walk_into [a0] w K :=
  vcF_of mixed Tryz.func71 (show S_find_walk_into a0 K w = vcF P Tryz.f71 [a0] w K from by kernel_rfl) h
/- (*spunyarn/find.walk).ends -/
abbrev S_find_walk_ends (a0 : Value) (K : Value → World → Prop) (w0 : World) : Prop :=
xAt a0 fun a1000 =>
XLd w0.drew (a1000.add 2) fun v1001 =>
xAt a0 fun a1002 =>
XLd w0.drew (a1002.add 1) fun v1003 =>
xLen v1003 fun v1004 =>
xEq v1001 v1004 fun v1005 =>
K v1005 (w0.drew)
theorem W_find_walk_ends {a0 : Value} {K : Value → World → Prop} {w : World} (h : S_find_walk_ends a0 K w) : Ret P n_find_walk_ends [a0] w K :=
  vcF_of mixed Tryz.func72 (show S_find_walk_ends a0 K w = vcF P Tryz.f72 [a0] w K from by kernel_rfl) h
/- (*spunyarn/find.walk).down -/
abbrev S_find_walk_down (a0 : Value) (K : Value → World → Prop) (w0 : World) : Prop :=
xAt a0 fun a1000 =>
XLd w0.drew (a1000.add 0) fun v1001 =>
xAt a0 fun a1002 =>
XLd w0.drew (a1002.add 1) fun v1003 =>
xAt a0 fun a1004 =>
XLd w0.drew (a1004.add 2) fun v1005 =>
xIxS v1003 v1005 1 fun v1006 =>
xAt v1006 fun a1007 =>
XLd w0.drew a1007 fun v1008 =>
Ret P n_node_Node_Kid [v1001, v1008] w0.drew fun v1009 w1010 =>
xAt a0 fun a1011 =>
XSt w1010 (a1011.add 0) v1009 fun w1012 =>
xAt a0 fun a1013 =>
XLd w1012 (a1013.add 2) fun v1014 =>
xAdd v1014 (.int .i64 1) fun v1015 =>
xAt a0 fun a1016 =>
XSt w1012 (a1016.add 2) v1015 fun w1017 =>
K (.tuple #[]) w1017
theorem W_find_walk_down {a0 : Value} {K : Value → World → Prop} {w : World} (h : S_find_walk_down a0 K w) : Ret P n_find_walk_down [a0] w K :=
  vcF_of mixed Tryz.func73 (show S_find_walk_down a0 K w = vcF P Tryz.f73 [a0] w K from by kernel_rfl) h
/- spunyarn/find.each -/
/- S_find_each_l1: 0=slot 8 v 1=slot 9 has -/
def S_find_each_l1 (a2 : Value) (a1001 : Addr) (J1003 : List Value → World → Prop) (I1007 : Nat → List Value → World → Prop) (n1008 : Nat) (vs1009 : List Value) (g1010 : Nat → Value) (w1011 : World) : Prop :=
Ret P n_find_walk_into [(.pointer (some a1001))] w1011 fun v1012 w1013 =>
xIf v1012 (/- 0 v 1 has -/ XJ (fun J1014 =>
XLd w1013 (a1001.add 0) fun v1018 =>
Ret P n_node_Node_Val [v1018] w1013 fun v1019 w1020 =>
xTup v1019 0 fun v1021 =>
xTup v1019 1 fun v1022 =>
xIf v1022 (XLd w1020 (a1001.add 2) fun v1023 =>
xFunc a2 [v1023, v1021] fun f1024 xs1025 =>
xCall P f1024 xs1025 w1020 fun v1026 w1027 =>
J1014 [v1021, v1022] w1027) (J1014 [v1021, v1022] w1020)) fun vs1015 g1016 w1017 =>
Ret P n_find_walk_ends [(.pointer (some a1001))] w1017 fun v1028 w1029 =>
xIf v1028 (J1003 [(vs1015.getD 0 undef), (vs1015.getD 1 undef)] w1029) (Ret P n_find_walk_down [(.pointer (some a1001))] w1029 fun v1030 w1031 =>
XNext I1007 n1008 [(vs1015.getD 0 undef), (vs1015.getD 1 undef)] w1031)) (J1003 [(vs1009.getD 0 undef), (vs1009.getD 1 undef)] w1013)
abbrev S_find_each (a0 : Value) (a1 : Value) (a2 : Value) (K : Value → World → Prop) (w0 : World) : Prop :=
xFill [(.pointer none), (.slice none 0 0), (.int .i64 0), (.int .i64 0)] [(0, 1, a0), (1, 1, a1)] fun c1000 =>
XNew w0 (cellsV (.agg c1000.toArray)) 109 fun a1001 w1002 =>
/- 0 v 1 has -/ XJ (fun J1003 =>
XLoop [undef, undef] w1002 (S_find_each_l1 a2 a1001 J1003)) fun vs1004 g1005 w1006 =>
XLd w1006 (a1001.add 3) fun v1032 =>
K v1032 w1006
theorem W_find_each {a0 a1 a2 : Value} {K : Value → World → Prop} {w : World} (h : S_find_each a0 a1 a2 K w) : Ret P n_find_each [a0, a1, a2] w K :=
  vcF_of mixed Tryz.func74 (show S_find_each a0 a1 a2 K w = vcF P Tryz.f74 [a0, a1, a2] w K from by kernel_rfl) h
/- spunyarn/find.Steps$1 -/
abbrev S_find_Steps_1 (a0 : Value) (a1 : Value) (K : Value → World → Prop) (w0 : World) : Prop :=
K (.tuple #[]) w0
theorem W_find_Steps_1 {a0 a1 : Value} {K : Value → World → Prop} {w : World} (h : S_find_Steps_1 a0 a1 K w) : Ret P n_find_Steps_1 [a0, a1] w K :=
  vcF_of mixed Tryz.func75 (show S_find_Steps_1 a0 a1 K w = vcF P Tryz.f75 [a0, a1] w K from by kernel_rfl) h
/- spunyarn/union.find -/
abbrev S_union_find (a0 : Value) (K : Value → World → Prop) (w0 : World) : Prop :=
XNew w0 [.nilFunc, (.bool false)] 114 fun a1000 w1001 =>
xEq a0 (.int .i64 1) fun v1002 =>
xIf v1002 (xFill [.nilFunc, (.bool false)] [(0, 1, (.func (.func 105) #[] #[])), (1, 1, (.bool true))] fun c1003 =>
XDo P (storeVar 114 a1000 (.agg c1003.toArray)) w1001 fun w1004 =>
XLdN w1004 a1000 2 fun v1005 =>
K (.tuple #[v1005, (.int .i64 0)]) w1004) (xEq a0 (.int .i64 2) fun v1006 =>
xIf v1006 (xFill [.nilFunc, (.bool false)] [(0, 1, (.func (.func 106) #[] #[])), (1, 1, (.bool true))] fun c1007 =>
XDo P (storeVar 114 a1000 (.agg c1007.toArray)) w1001 fun w1008 =>
XLdN w1008 a1000 2 fun v1009 =>
K (.tuple #[v1009, (.int .i64 0)]) w1008) (xEq a0 (.int .i64 3) fun v1010 =>
xIf v1010 (xFill [.nilFunc, (.bool false)] [(0, 1, (.func (.func 107) #[] #[])), (1, 1, (.bool false))] fun c1011 =>
XDo P (storeVar 114 a1000 (.agg c1011.toArray)) w1001 fun w1012 =>
XLdN w1012 a1000 2 fun v1013 =>
K (.tuple #[v1013, (.int .i64 0)]) w1012) (xEq a0 (.int .i64 4) fun v1014 =>
xIf v1014 (xFill [.nilFunc, (.bool false)] [(0, 1, (.func (.func 108) #[] #[])), (1, 1, (.bool true))] fun c1015 =>
XDo P (storeVar 114 a1000 (.agg c1015.toArray)) w1001 fun w1016 =>
XLdN w1016 a1000 2 fun v1017 =>
K (.tuple #[v1017, (.int .i64 0)]) w1016) (xEq a0 (.int .i64 5) fun v1018 =>
xIf v1018 (xFill [.nilFunc, (.bool false)] [(0, 1, (.func (.func 109) #[] #[])), (1, 1, (.bool true))] fun c1019 =>
XDo P (storeVar 114 a1000 (.agg c1019.toArray)) w1001 fun w1020 =>
XLdN w1020 a1000 2 fun v1021 =>
K (.tuple #[v1021, (.int .i64 0)]) w1020) (xFill [.nilFunc, (.bool false)] [] fun c1022 =>
XDo P (storeVar 114 a1000 (.agg c1022.toArray)) w1001 fun w1023 =>
XLdN w1023 a1000 2 fun v1024 =>
K (.tuple #[v1024, (.int .i64 1)]) w1023)))))
theorem W_union_find {a0 : Value} {K : Value → World → Prop} {w : World} (h : S_union_find a0 K w) : Ret P n_union_find [a0] w K :=
  vcF_of mixed Tryz.func76 (show S_union_find a0 K w = vcF P Tryz.f76 [a0] w K from by kernel_rfl) h
/- (spunyarn/union.joiner).of -/
abbrev S_union_joiner_of (a0 : Value) (a1 : Value) (a2 : Value) (K : Value → World → Prop) (w0 : World) : Prop :=
XNew w0 (cellsV a0) 118 fun a1000 w1001 =>
XNew w1001 (cellsV a1) 121 fun a1002 w1003 =>
XNew w1003 (cellsV a2) 121 fun a1004 w1005 =>
XLd w1005 (a1002.add 0) fun v1006 =>
xPEq P w1005 v1006 (.pointer none) fun v1007 =>
xIf v1007 (XLdN w1005 a1000 4 fun v1008 =>
XLdN w1005 a1004 2 fun v1009 =>
Ret P n_union_joiner_whole [v1008, v1009] w1005 fun v1010 w1011 =>
K v1010 w1011) (/- 0 -/ XJ (fun J1012 =>
XLd w1005 (a1004.add 0) fun v1016 =>
xPEq P w1005 v1016 (.pointer none) fun v1017 =>
xIf v1017 (J1012 [v1017] w1005) (XLdN w1005 a1002 2 fun v1018 =>
XLdN w1005 a1004 2 fun v1019 =>
XEqv P .eql 121 (.tmp 21) (.tmp 22) v1018 v1019 w1005 fun r1020 =>
xIf (.bool r1020) (XLd w1005 ((a1000.add 0).add 1) fun v1021 =>
J1012 [v1021] w1005) (J1012 [(.bool false)] w1005))) fun vs1013 g1014 w1015 =>
xIf (vs1013.getD 0 undef) (XLdN w1015 a1000 4 fun v1022 =>
XLdN w1015 a1002 2 fun v1023 =>
Ret P n_union_joiner_whole [v1022, v1023] w1015 fun v1024 w1025 =>
K v1024 w1025) (XLdN w1015.drew a1002 2 fun v1026 =>
XLdN w1015.drew a1004 2 fun v1027 =>
Ret P n_union_end_part [v1026] w1015.drew fun v1028 w1029 =>
xKeepN w1029 (.pointer (some a1004)) v1027 ∧ (Ret P n_union_end_part [v1027] w1029 fun v1030 w1031 =>
Ret P n_keys_Common [v1028, v1030] w1031 fun v1032 w1033 =>
/- 0 -/ XJ (fun J1034 =>
xLen v1028 fun v1038 =>
xLt v1032 v1038 fun v1039 =>
xIf v1039 (xLen v1030 fun v1040 =>
xLt v1032 v1040 fun v1041 =>
J1034 [v1041] w1033) (J1034 [(.bool false)] w1033)) fun vs1035 g1036 w1037 =>
xIf (vs1035.getD 0 undef) (XLdN w1037.drew a1000 4 fun v1042 =>
xCutS 1 v1028 none (some v1032) none fun v1043 =>
xIxS v1028 v1032 1 fun v1044 =>
xAt v1044 fun a1045 =>
XLd w1037.drew a1045 fun v1046 =>
XLdN w1037.drew a1002 2 fun v1047 =>
xIxS v1030 v1032 1 fun v1048 =>
xAt v1048 fun a1049 =>
XLd w1037.drew a1049 fun v1050 =>
XLdN w1037.drew a1004 2 fun v1051 =>
Ret P n_union_end_behind [v1047, v1032] w1037.drew fun v1052 w1053 =>
xKeepN w1053 (.pointer (some a1004)) v1051 ∧ (xKeep1 w1053 v1048 v1050 ∧ (xKeep1 w1053 v1044 v1046 ∧ (xKeepN w1053 (.pointer (some a1000)) v1042 ∧ (Ret P n_union_end_behind [v1051, v1032] w1053 fun v1054 w1055 =>
xKeep1 w1055 v1048 v1050 ∧ (xKeep1 w1055 v1044 v1046 ∧ (xKeepN w1055 (.pointer (some a1000)) v1042 ∧ (Ret P n_union_joiner_fork [v1042, v1043, v1046, v1052, v1050, v1054] w1055 fun v1056 w1057 =>
K v1056 w1057)))))))) (xLen v1030 fun v1058 =>
xLt v1032 v1058 fun v1059 =>
xIf v1059 (XLdN w1037.drew a1000 4 fun v1060 =>
XLdN w1037.drew a1002 2 fun v1061 =>
xIxS v1030 v1032 1 fun v1062 =>
xAt v1062 fun a1063 =>
XLd w1037.drew a1063 fun v1064 =>
XLdN w1037.drew a1004 2 fun v1065 =>
Ret P n_union_end_behind [v1065, v1032] w1037.drew fun v1066 w1067 =>
xKeep1 w1067 v1062 v1064 ∧ (xKeepN w1067 (.pointer (some a1002)) v1061 ∧ (xKeepN w1067 (.pointer (some a1000)) v1060 ∧ (Ret P n_union_joiner_under [v1060, v1061, v1064, v1066, (.bool false)] w1067 fun v1068 w1069 =>
K v1068 w1069)))) (xLen v1028 fun v1070 =>
xLt v1032 v1070 fun v1071 =>
xIf v1071 (XLdN w1037.drew a1000 4 fun v1072 =>
XLdN w1037.drew a1004 2 fun v1073 =>
xIxS v1028 v1032 1 fun v1074 =>
xAt v1074 fun a1075 =>
XLd w1037.drew a1075 fun v1076 =>
XLdN w1037.drew a1002 2 fun v1077 =>
Ret P n_union_end_behind [v1077, v1032] w1037.drew fun v1078 w1079 =>
xKeep1 w1079 v1074 v1076 ∧ (xKeepN w1079 (.pointer (some a1004)) v1073 ∧ (xKeepN w1079 (.pointer (some a1000)) v1072 ∧ (Ret P n_union_joiner_under [v1072, v1073, v1076, v1078, (.bool true)] w1079 fun v1080 w1081 =>
K v1080 w1081)))) (XLdN w1037 a1000 4 fun v1082 =>
XLdN w1037 a1002 2 fun v1083 =>
XLdN w1037 a1004 2 fun v1084 =>
Ret P n_union_joiner_level [v1082, v1083, v1084] w1037 fun v1085 w1086 =>
K v1085 w1086))))))
theorem W_union_joiner_of {a0 a1 a2 : Value} {K : Value → World → Prop} {w : World} (h : S_union_joiner_of a0 a1 a2 K w) : Ret P n_union_joiner_of [a0, a1, a2] w K :=
  vcF_of mixed Tryz.func77 (show S_union_joiner_of a0 a1 a2 K w = vcF P Tryz.f77 [a0, a1, a2] w K from by kernel_rfl) h
/- spunyarn/canon.shape -/
/- S_canon_shape_l1: 0=slot 7 k 1=slot 6 b -/
def S_canon_shape_l1 (K : Value → World → Prop) (a0 : Value) (a1 : Value) (I1045 : Nat → List Value → World → Prop) (n1046 : Nat) (vs1047 : List Value) (g1048 : Nat → Value) (w1049 : World) : Prop :=
xPNe P w1049 (vs1047.getD 0 undef) (.pointer none) fun v1050 =>
xIf v1050 (xFill (repL [(.int .u8 0)] 1) [(0, 1, (vs1047.getD 1 undef))] fun c1051 =>
XNew w1049 c1051 5 fun a1052 w1053 =>
Ret P n_keys_Text [(.slice (some a1052) 1 1)] w1053 fun v1054 w1055 =>
xSCat (.string ⟨#[58]⟩) v1054 fun v1056 =>
Ret P n_strings_Builder_WriteString [a0, v1056] w1055 fun v1057 w1058 =>
Ret P n_canon_shape [a0, (vs1047.getD 0 undef)] w1058 fun v1059 w1060 =>
xConv .i64 (vs1047.getD 1 undef) fun v1061 =>
xAdd v1061 (.int .i64 1) fun v1062 =>
Ret P n_node_Node_Next [a1, v1062] w1060 fun v1063 w1064 =>
xTup v1063 0 fun v1065 =>
xTup v1063 1 fun v1066 =>
XNext I1045 n1046 [v1066, v1065] w1064) (Ret P n_strings_Builder_WriteString [a0, (.string ⟨#[62]⟩)] w1049 fun v1067 w1068 =>
K (.tuple #[]) w1068)
abbrev S_canon_shape (a0 : Value) (a1 : Value) (K : Value → World → Prop) (w0 : World) : Prop :=
xPEq P w0 a1 (.pointer none) fun v1000 =>
xIf v1000 (Ret P n_strings_Builder_WriteString [a0, (.string ⟨#[46]⟩)] w0 fun v1001 w1002 =>
K (.tuple #[]) w1002) (Ret P n_node_Node_Val [a1] w0 fun v1003 w1004 =>
xTup v1003 0 fun v1005 =>
xTup v1003 1 fun v1006 =>
/-  -/ XJ (fun J1007 =>
Ret P n_node_Node_Kind [a1] w1004 fun v1011 w1012 =>
xEq v1011 (.int .i64 1) fun v1013 =>
xIf v1013 (Ret P n_strings_Builder_WriteString [a0, (.string ⟨#[76]⟩)] w1012 fun v1014 w1015 =>
J1007 [] w1015) (Ret P n_node_Node_Kind [a1] w1012 fun v1016 w1017 =>
Ret P n_strconv_Itoa [v1016] w1017 fun v1018 w1019 =>
xSCat v1018 (.string ⟨#[60]⟩) fun v1020 =>
Ret P n_strings_Builder_WriteString [a0, v1020] w1019 fun v1021 w1022 =>
J1007 [] w1022)) fun vs1008 g1009 w1010 =>
Ret P n_node_Node_Part [a1] w1010 fun v1023 w1024 =>
Ret P n_keys_Text [v1023] w1024 fun v1025 w1026 =>
Ret P n_strings_Builder_WriteString [a0, v1025] w1026 fun v1027 w1028 =>
/-  -/ XJ (fun J1029 =>
xIf v1006 (Ret P n_strconv_FormatUint [v1005, (.int .i64 10)] w1028 fun v1033 w1034 =>
xSCat (.string ⟨#[61]⟩) v1033 fun v1035 =>
Ret P n_strings_Builder_WriteString [a0, v1035] w1034 fun v1036 w1037 =>
J1029 [] w1037) (J1029 [] w1028)) fun vs1030 g1031 w1032 =>
Ret P n_node_Node_Kind [a1] w1032 fun v1038 w1039 =>
xEq v1038 (.int .i64 1) fun v1040 =>
xIf v1040 (K (.tuple #[]) w1039) (Ret P n_node_Node_Next [a1, (.int .i64 0)] w1039 fun v1041 w1042 =>
xTup v1041 0 fun v1043 =>
xTup v1041 1 fun v1044 =>
XLoop [v1044, v1043] w1042 (S_canon_shape_l1 K a0 a1)))
theorem W_canon_shape {a0 a1 : Value} {K : Value → World → Prop} {w : World} (h : S_canon_shape a0 a1 K w) : Ret P n_canon_shape [a0, a1] w K :=
  vcF_of mixed Tryz.func78 (show S_canon_shape a0 a1 K w = vcF P Tryz.f78 [a0, a1] w K from by kernel_rfl) h
/- (*strings.Builder).String -/
abbrev S_strings_Builder_String (a0 : Value) (K : Value → World → Prop) (w0 : World) : Prop :=
xAt a0 fun a1000 =>
XLd w0.drew (a1000.add 1) fun v1001 =>
xAt a0 fun a1002 =>
XLd w0.drew (a1002.add 1) fun v1003 =>
xLen v1003 fun v1004 =>
XRun P (Builtin.unsafeSliceData_ #[26] 158 #[v1001]) w0.drew fun v1005 w1006 =>
xKeep1 w1006 (.pointer (some (a1002.add 1))) v1003 ∧ (XRun P (Builtin.unsafeString_ #[158, 3] 9 #[v1005, v1004]) w1006 fun v1007 w1008 =>
K v1007 w1008)
theorem W_strings_Builder_String {a0 : Value} {K : Value → World → Prop} {w : World} (h : S_strings_Builder_String a0 K w) : Ret P n_strings_Builder_String [a0] w K :=
  vcF_of mixed Tryz.func79 (show S_strings_Builder_String a0 K w = vcF P Tryz.f79 [a0] w K from by kernel_rfl) h
end Go.Proofs.YtbneecjeifionaaGreatDoor
