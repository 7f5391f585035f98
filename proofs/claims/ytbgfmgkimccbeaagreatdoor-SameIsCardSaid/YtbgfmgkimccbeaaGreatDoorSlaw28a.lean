/-  Written by gen.py for this claim: of each function a form without frames, the same as the engine's condition by reckoning.  -/
import Derived.Test.YtbgfmgkimccbeaaGreatDoorSN
import Derived.Test.YtbgfmgkimccbeaaGreatDoorProg
namespace Go.Proofs.YtbgfmgkimccbeaaGreatDoor
open Go X
set_option linter.unusedVariables false
set_option maxRecDepth 100000
/- spunyarn/spunyarnlaw28.SameIs -/
abbrev S_law28_SameIs (a0 : Value) (a1 : Value) (K : Value → World → Prop) (w0 : World) : Prop :=
XNew w0 (cellsV a1) 25 fun a1000 w1001 =>
XLdN w1001 a1000 3 fun v1002 =>
Ret P n_law28_large [a0, v1002] w1001 fun v1003 w1004 =>
xIf v1003 (Ret P n_law28_alive [] w1004 fun v1005 w1006 =>
K v1005 w1006) (Ret P n_ref13_Sort [a0] w1004 fun v1007 w1008 =>
Ret P n_law28_tree [v1007, (.int .u64 1)] w1008 fun v1009 w1010 =>
XLdN w1010 a1000 3 fun v1011 =>
Ret P n_law28_second [v1009, v1007, v1011] w1010 fun v1012 w1013 =>
xTup v1012 0 fun v1014 =>
xTup v1012 1 fun v1015 =>
Ret P n_same_Same [v1009, v1014] w1013 fun v1016 w1017 =>
/- 0 -/ XJ (fun J1018 =>
Ret P n_ref19_Same [v1007, v1015] w1017 fun v1022 w1023 =>
xBEq v1016 v1022 fun v1024 =>
xIf v1024 (Ret P n_canon_Shape [v1009] w1023 fun v1025 w1026 =>
Ret P n_canon_Shape [v1014] w1026 fun v1027 w1028 =>
xSEq v1025 v1027 fun v1029 =>
xBEq v1016 v1029 fun v1030 =>
xIf v1030 (Ret P n_same_Same [v1014, v1009] w1028 fun v1031 w1032 =>
xBEq v1031 v1016 fun v1033 =>
xIf v1033 (Ret P n_same_Same [v1009, v1009] w1032 fun v1034 w1035 =>
xIf v1034 (Ret P n_law28_alive [] w1035 fun v1036 w1037 =>
J1018 [v1036] w1037) (J1018 [(.bool false)] w1035)) (J1018 [(.bool false)] w1032)) (J1018 [(.bool false)] w1028)) (J1018 [(.bool false)] w1023)) fun vs1019 g1020 w1021 =>
K (vs1019.getD 0 undef) w1021)
theorem W_law28_SameIs {a0 a1 : Value} {K : Value → World → Prop} {w : World} (h : S_law28_SameIs a0 a1 K w) : Ret P n_law28_SameIs [a0, a1] w K :=
  vcF_of mixed Tryz.func3 (show S_law28_SameIs a0 a1 K w = vcF P Tryz.f3 [a0, a1] w K from by kernel_rfl) h
/- spunyarn/spunyarnlaw28.large -/
/- S_law28_large_l1: 0=slot 23 1=slot 6 k 2=slot 4 -/
def S_law28_large_l1 (K : Value → World → Prop) (v1014 : Value) (v1015 : Value) (I1016 : Nat → List Value → World → Prop) (n1017 : Nat) (vs1018 : List Value) (g1019 : Nat → Value) (w1020 : World) : Prop :=
xLt (vs1018.getD 0 undef) v1015 fun v1021 =>
xIf v1021 (xIxS v1014 (vs1018.getD 0 undef) 1 fun v1022 =>
xAt v1022 fun a1023 =>
XLd w1020 a1023 fun v1024 =>
xLen v1024 fun v1025 =>
xGt v1025 (.int .i64 300) fun v1026 =>
xIf v1026 (K (.bool true) w1020) (xAdd (vs1018.getD 0 undef) (.int .i64 1) fun v1027 =>
XNext I1016 n1017 [v1027, v1024, (vs1018.getD 2 undef)] w1020)) (K (.bool false) w1020)
abbrev S_law28_large (a0 : Value) (a1 : Value) (K : Value → World → Prop) (w0 : World) : Prop :=
XNew w0 (cellsV a1) 25 fun a1000 w1001 =>
/- 0 -/ XJ (fun J1002 =>
Ret P n_law28_far [a0, (.int .i64 100)] w1001 fun v1006 w1007 =>
xIf v1006 (J1002 [(.bool true)] w1007) (XLd w1007 (a1000.add 1) fun v1008 =>
Ret P n_law28_far [v1008, (.int .i64 60)] w1007 fun v1009 w1010 =>
xIf v1009 (J1002 [(.bool true)] w1010) (XLd w1010 (a1000.add 2) fun v1011 =>
xLen v1011 fun v1012 =>
xGt v1012 (.int .i64 40) fun v1013 =>
J1002 [v1013] w1010))) fun vs1003 g1004 w1005 =>
xIf (vs1003.getD 0 undef) (K (.bool true) w1005) (XLd w1005 (a1000.add 2) fun v1014 =>
xLen v1014 fun v1015 =>
XLoop [(.int .i64 0), undef, (.bool false)] w1005 (S_law28_large_l1 K v1014 v1015))
theorem W_law28_large {a0 a1 : Value} {K : Value → World → Prop} {w : World} (h : S_law28_large a0 a1 K w) : Ret P n_law28_large [a0, a1] w K :=
  vcF_of mixed Tryz.func7 (show S_law28_large a0 a1 K w = vcF P Tryz.f7 [a0, a1] w K from by kernel_rfl) h
/- spunyarn/spunyarnlaw28.alive -/
abbrev S_law28_alive  (K : Value → World → Prop) (w0 : World) : Prop :=
xFill (repL [(.int .u8 0)] 1) [(0, 1, (.int .u8 1))] fun c1000 =>
XNew w0 c1000 5 fun a1001 w1002 =>
xFill [(.slice none 0 0), (.int .u64 0)] [(0, 1, (.slice (some a1001) 1 1)), (1, 1, (.int .u64 5))] fun c1003 =>
xFill (repL [(.slice none 0 0), (.int .u64 0)] 1) [(0, 2, (.agg c1003.toArray))] fun c1004 =>
XNew w1002 c1004 63 fun a1005 w1006 =>
Ret P n_law28_tree [(.slice (some a1005) 1 1), (.int .u64 1)] w1006 fun v1007 w1008 =>
xFill (repL [(.int .u8 0)] 1) [(0, 1, (.int .u8 1))] fun c1009 =>
XNew w1008 c1009 5 fun a1010 w1011 =>
xFill [(.slice none 0 0), (.int .u64 0)] [(0, 1, (.slice (some a1010) 1 1)), (1, 1, (.int .u64 6))] fun c1012 =>
xFill (repL [(.slice none 0 0), (.int .u64 0)] 1) [(0, 2, (.agg c1012.toArray))] fun c1013 =>
XNew w1011 c1013 63 fun a1014 w1015 =>
Ret P n_law28_tree [(.slice (some a1014) 1 1), (.int .u64 1)] w1015 fun v1016 w1017 =>
/- 0 -/ XJ (fun J1018 =>
Ret P n_same_Same [v1007, v1016] w1017 fun v1022 w1023 =>
xNot v1022 fun v1024 =>
xIf v1024 (Ret P n_same_Looks [v1007, v1016] w1023 fun v1025 w1026 =>
xEq v1025 (.int .i64 1) fun v1027 =>
xIf v1027 (Ret P n_same_Same [v1007, v1007] w1026 fun v1028 w1029 =>
xIf v1028 (Ret P n_same_Looks [v1007, v1007] w1029 fun v1030 w1031 =>
xEq v1030 (.int .i64 0) fun v1032 =>
xIf v1032 (xFill (repL [(.int .u8 0)] 1) [(0, 1, (.int .u8 1))] fun c1033 =>
XNew w1031 c1033 5 fun a1034 w1035 =>
xFill [(.slice none 0 0), (.int .u64 0)] [(0, 1, (.slice (some a1034) 1 1)), (1, 1, (.int .u64 5))] fun c1036 =>
xFill (repL [(.slice none 0 0), (.int .u64 0)] 1) [(0, 2, (.agg c1036.toArray))] fun c1037 =>
XNew w1035 c1037 63 fun a1038 w1039 =>
Ret P n_law28_tree [(.slice (some a1038) 1 1), (.int .u64 2)] w1039 fun v1040 w1041 =>
Ret P n_same_Same [v1007, v1040] w1041 fun v1042 w1043 =>
xIf v1042 (Ret P n_same_Same [(.pointer none), (.pointer none)] w1043 fun v1044 w1045 =>
J1018 [v1044] w1045) (J1018 [(.bool false)] w1043)) (J1018 [(.bool false)] w1031)) (J1018 [(.bool false)] w1029)) (J1018 [(.bool false)] w1026)) (J1018 [(.bool false)] w1023)) fun vs1019 g1020 w1021 =>
K (vs1019.getD 0 undef) w1021
theorem W_law28_alive {K : Value → World → Prop} {w : World} (h : S_law28_alive  K w) : Ret P n_law28_alive [] w K :=
  vcF_of mixed Tryz.func8 (show S_law28_alive  K w = vcF P Tryz.f8 [] w K from by kernel_rfl) h
/- spunyarn/spunyarnlaw28.tree -/
/- S_law28_tree_l1: 0=slot 12 1=slot 5 out -/
def S_law28_tree_l1 (K : Value → World → Prop) (a0 : Value) (a1 : Value) (v1000 : Value) (I1001 : Nat → List Value → World → Prop) (n1002 : Nat) (vs1003 : List Value) (g1004 : Nat → Value) (w1005 : World) : Prop :=
xLt (vs1003.getD 0 undef) v1000 fun v1006 =>
xIf v1006 (xIxS a0 (vs1003.getD 0 undef) 2 fun v1007 =>
xAt v1007 fun a1008 =>
XLdN w1005 a1008 2 fun v1009 =>
XNew w1005 [(.slice none 0 0), (.int .u64 0)] 63 fun a1010 w1011 =>
XDo P (storeVar 63 a1010 v1009) w1011 fun w1012 =>
XLdN w1012 a1010 2 fun v1013 =>
xFill (repL [(.slice none 0 0), (.int .u64 0)] 1) [(0, 2, v1013)] fun c1014 =>
XNew w1012 c1014 68 fun a1015 w1016 =>
XRun P (Builtin.append_ #[67, 67] 67 #[(vs1003.getD 1 undef), (.slice (some a1015) 1 1)]) w1016 fun v1017 w1018 =>
xAdd (vs1003.getD 0 undef) (.int .i64 1) fun v1019 =>
XNext I1001 n1002 [v1019, v1017] w1018) (Ret P n_canon_Build [(.pointer none), a1, (vs1003.getD 1 undef)] w1005 fun v1020 w1021 =>
xTup v1020 0 fun v1022 =>
xTup v1020 1 fun v1023 =>
K v1022 w1021)
abbrev S_law28_tree (a0 : Value) (a1 : Value) (K : Value → World → Prop) (w0 : World) : Prop :=
xLen a0 fun v1000 =>
XLoop [(.int .i64 0), (.slice none 0 0)] w0 (S_law28_tree_l1 K a0 a1 v1000)
theorem W_law28_tree {a0 a1 : Value} {K : Value → World → Prop} {w : World} (h : S_law28_tree a0 a1 K w) : Ret P n_law28_tree [a0, a1] w K :=
  vcF_of mixed Tryz.func10 (show S_law28_tree a0 a1 K w = vcF P Tryz.f10 [a0, a1] w K from by kernel_rfl) h
/- spunyarn/spunyarnlaw28.second -/
/- S_law28_second_l1: 0=slot 51 1=slot 11 i 2=slot 12 k 3=slot 0 n 4=slot 1 l -/
def S_law28_second_l1 (K : Value → World → Prop) (v1035 : Value) (v1036 : Value) (I1037 : Nat → List Value → World → Prop) (n1038 : Nat) (vs1039 : List Value) (g1040 : Nat → Value) (w1041 : World) : Prop :=
xLt (vs1039.getD 0 undef) v1036 fun v1042 =>
xIf v1042 (xIxS v1035 (vs1039.getD 0 undef) 1 fun v1043 =>
xAt v1043 fun a1044 =>
XLd w1041 a1044 fun v1045 =>
xConv .u64 (vs1039.getD 0 undef) fun v1046 =>
xAdd v1046 (.int .u64 1000) fun v1047 =>
Ret P n_del_Del [(vs1039.getD 3 undef), v1045, v1047, (.pointer none)] w1041 fun v1048 w1049 =>
xTup v1048 0 fun v1050 =>
xTup v1048 1 fun v1051 =>
xTup v1048 2 fun v1052 =>
Ret P n_ref16_Del [(vs1039.getD 4 undef), v1045] w1049 fun v1053 w1054 =>
xTup v1053 0 fun v1055 =>
xTup v1053 1 fun v1056 =>
xAdd (vs1039.getD 0 undef) (.int .i64 1) fun v1057 =>
XNext I1037 n1038 [v1057, (vs1039.getD 0 undef), v1045, v1050, v1055] w1054) (K (.tuple #[(vs1039.getD 3 undef), (vs1039.getD 4 undef)]) w1041)
/- S_law28_second_l2: 0=slot 24 1=slot 9 i 2=slot 0 n 3=slot 1 l -/
def S_law28_second_l2 (K : Value → World → Prop) (a1000 : Addr) (v1008 : Value) (v1009 : Value) (I1010 : Nat → List Value → World → Prop) (n1011 : Nat) (vs1012 : List Value) (g1013 : Nat → Value) (w1014 : World) : Prop :=
xLt (vs1012.getD 0 undef) v1009 fun v1015 =>
xIf v1015 (xIxS v1008 (vs1012.getD 0 undef) 2 fun v1016 =>
xAt v1016 fun a1017 =>
XLdN w1014 a1017 2 fun v1018 =>
XNew w1014 [(.slice none 0 0), (.int .u64 0)] 63 fun a1019 w1020 =>
XDo P (storeVar 63 a1019 v1018) w1020 fun w1021 =>
XLd w1021 (a1019.add 0) fun v1022 =>
XLd w1021 (a1019.add 1) fun v1023 =>
xConv .u64 (vs1012.getD 0 undef) fun v1024 =>
xAdd v1024 (.int .u64 100) fun v1025 =>
Ret P n_put_Put [(vs1012.getD 2 undef), v1022, v1023, v1025, (.pointer none)] w1021 fun v1026 w1027 =>
xTup v1026 0 fun v1028 =>
xTup v1026 1 fun v1029 =>
XLd w1027 (a1019.add 0) fun v1030 =>
XLd w1027 (a1019.add 1) fun v1031 =>
Ret P n_ref15_Put [(vs1012.getD 3 undef), v1030, v1031] w1027 fun v1032 w1033 =>
xAdd (vs1012.getD 0 undef) (.int .i64 1) fun v1034 =>
XNext I1010 n1011 [v1034, (vs1012.getD 0 undef), v1028, v1032] w1033) (XLd w1014 (a1000.add 2) fun v1035 =>
xLen v1035 fun v1036 =>
XLoop [(.int .i64 0), undef, undef, (vs1012.getD 2 undef), (vs1012.getD 3 undef)] w1014 (S_law28_second_l1 K v1035 v1036))
abbrev S_law28_second (a0 : Value) (a1 : Value) (a2 : Value) (K : Value → World → Prop) (w0 : World) : Prop :=
XNew w0 (cellsV a2) 25 fun a1000 w1001 =>
XLd w1001 (a1000.add 0) fun v1002 =>
xIf v1002 (XLd w1001 (a1000.add 1) fun v1003 =>
Ret P n_ref13_Sort [v1003] w1001 fun v1004 w1005 =>
Ret P n_law28_tree [v1004, (.int .u64 2)] w1005 fun v1006 w1007 =>
K (.tuple #[v1006, v1004]) w1007) (XLd w1001 (a1000.add 1) fun v1008 =>
xLen v1008 fun v1009 =>
XLoop [(.int .i64 0), undef, a0, a1] w1001 (S_law28_second_l2 K a1000 v1008 v1009))
theorem W_law28_second {a0 a1 a2 : Value} {K : Value → World → Prop} {w : World} (h : S_law28_second a0 a1 a2 K w) : Ret P n_law28_second [a0, a1, a2] w K :=
  vcF_of mixed Tryz.func11 (show S_law28_second a0 a1 a2 K w = vcF P Tryz.f11 [a0, a1, a2] w K from by kernel_rfl) h
/- spunyarn/spunyarnlaw28.far -/
/- S_law28_far_l1: 0=slot 13 1=slot 4 -/
def S_law28_far_l1 (K : Value → World → Prop) (a0 : Value) (v1002 : Value) (I1003 : Nat → List Value → World → Prop) (n1004 : Nat) (vs1005 : List Value) (g1006 : Nat → Value) (w1007 : World) : Prop :=
xLt (vs1005.getD 0 undef) v1002 fun v1008 =>
xIf v1008 (xIxS a0 (vs1005.getD 0 undef) 2 fun v1009 =>
xAt v1009 fun a1010 =>
XLdN w1007 a1010 2 fun v1011 =>
XNew w1007 [(.slice none 0 0), (.int .u64 0)] 63 fun a1012 w1013 =>
XDo P (storeVar 63 a1012 v1011) w1013 fun w1014 =>
XLd w1014 (a1012.add 0) fun v1015 =>
xLen v1015 fun v1016 =>
xGt v1016 (.int .i64 300) fun v1017 =>
xIf v1017 (K (.bool true) w1014) (xAdd (vs1005.getD 0 undef) (.int .i64 1) fun v1018 =>
XNext I1003 n1004 [v1018, (vs1005.getD 1 undef)] w1014)) (K (.bool false) w1007)
abbrev S_law28_far (a0 : Value) (a1 : Value) (K : Value → World → Prop) (w0 : World) : Prop :=
xLen a0 fun v1000 =>
xGt v1000 a1 fun v1001 =>
xIf v1001 (K (.bool true) w0) (xLen a0 fun v1002 =>
XLoop [(.int .i64 0), (.bool false)] w0 (S_law28_far_l1 K a0 v1002))
theorem W_law28_far {a0 a1 : Value} {K : Value → World → Prop} {w : World} (h : S_law28_far a0 a1 K w) : Ret P n_law28_far [a0, a1] w K :=
  vcF_of mixed Tryz.func28 (show S_law28_far a0 a1 K w = vcF P Tryz.f28 [a0, a1] w K from by kernel_rfl) h
end Go.Proofs.YtbgfmgkimccbeaaGreatDoor
