/-  Written by gen.py for this claim: of each function a form without frames, the same as the engine's condition by reckoning.  -/
import Derived.Test.YtidkkkdlaclolaaGreatSN
import Derived.Test.YtidkkkdlaclolaaGreatProg
namespace Go.Proofs.YtidkkkdlaclolaaGreat
open Go X
set_option linter.unusedVariables false
set_option maxRecDepth 100000
/- spunyarn/spunyarnlaw28.SameNear -/
abbrev S_law28_SameNear (a0 : Value) (a1 : Value) (K : Value → World → Prop) (w0 : World) : Prop :=
XNew w0 (cellsV a1) 26 fun a1000 w1001 =>
/- 0 -/ XJ (fun J1002 =>
Ret P n_law28_far [a0, (.int .i64 200)] w1001 fun v1006 w1007 =>
xIf v1006 (J1002 [(.bool true)] w1007) (XLd w1007 (a1000.add 0) fun v1008 =>
xLen v1008 fun v1009 =>
xGt v1009 (.int .i64 600) fun v1010 =>
J1002 [v1010] w1007)) fun vs1003 g1004 w1005 =>
xIf (vs1003.getD 0 undef) (Ret P n_law28_alive [] w1005 fun v1011 w1012 =>
K v1011 w1012) (Ret P n_ref13_Sort [a0] w1005 fun v1013 w1014 =>
Ret P n_law28_tree [v1013, (.int .u64 1)] w1014 fun v1015 w1016 =>
XLd w1016 (a1000.add 0) fun v1017 =>
XLd w1016 (a1000.add 1) fun v1018 =>
Ret P n_put_Put [v1015, v1017, v1018, (.int .u64 2), (.pointer none)] w1016 fun v1019 w1020 =>
xTup v1019 0 fun v1021 =>
xTup v1019 1 fun v1022 =>
XLd w1020 (a1000.add 0) fun v1023 =>
Ret P n_del_Del [v1015, v1023, (.int .u64 2), (.pointer none)] w1020 fun v1024 w1025 =>
xTup v1024 0 fun v1026 =>
xTup v1024 1 fun v1027 =>
xTup v1024 2 fun v1028 =>
XLd w1025 (a1000.add 0) fun v1029 =>
Ret P n_find_Steps [v1015, v1029] w1025 fun v1030 w1031 =>
XLd w1031 (a1000.add 0) fun v1032 =>
Ret P n_find_Get [v1015, v1032] w1031 fun v1033 w1034 =>
xTup v1033 0 fun v1035 =>
xTup v1033 1 fun v1036 =>
/- 0 -/ XJ (fun J1037 =>
Ret P n_same_Same [v1015, v1021] w1034 fun v1041 w1042 =>
xIf v1036 (XLd w1042 (a1000.add 1) fun v1043 =>
xEq v1035 v1043 fun v1044 =>
xBNe v1041 v1044 fun v1045 =>
xIf v1045 (J1037 [(.bool true)] w1042) (Ret P n_same_Same [v1015, v1026] w1042 fun v1046 w1047 =>
xBEq v1046 v1027 fun v1048 =>
J1037 [v1048] w1047)) (xBNe v1041 (.bool false) fun v1049 =>
xIf v1049 (J1037 [(.bool true)] w1042) (Ret P n_same_Same [v1015, v1026] w1042 fun v1050 w1051 =>
xBEq v1050 v1027 fun v1052 =>
J1037 [v1052] w1051))) fun vs1038 g1039 w1040 =>
xIf (vs1038.getD 0 undef) (K (.bool false) w1040) (/- 0 -/ XJ (fun J1053 =>
xEq v1022 (.int .i64 0) fun v1057 =>
xIf v1057 (xEq v1028 (.int .i64 0) fun v1058 =>
xIf v1058 (Ret P n_same_Looks [v1015, v1021] w1040 fun v1059 w1060 =>
xLe v1059 v1030 fun v1061 =>
xIf v1061 (Ret P n_same_Looks [v1015, v1026] w1060 fun v1062 w1063 =>
xLe v1062 v1030 fun v1064 =>
xIf v1064 (Ret P n_same_Looks [v1021, v1015] w1063 fun v1065 w1066 =>
xLe v1065 v1030 fun v1067 =>
xIf v1067 (Ret P n_same_Looks [v1026, v1015] w1066 fun v1068 w1069 =>
xLe v1068 v1030 fun v1070 =>
xIf v1070 (Ret P n_law28_alive [] w1069 fun v1071 w1072 =>
J1053 [v1071] w1072) (J1053 [(.bool false)] w1069)) (J1053 [(.bool false)] w1066)) (J1053 [(.bool false)] w1063)) (J1053 [(.bool false)] w1060)) (J1053 [(.bool false)] w1040)) (J1053 [(.bool false)] w1040)) fun vs1054 g1055 w1056 =>
K (vs1054.getD 0 undef) w1056))
theorem W_law28_SameNear {a0 a1 : Value} {K : Value → World → Prop} {w : World} (h : S_law28_SameNear a0 a1 K w) : Ret P n_law28_SameNear [a0, a1] w K :=
  vcF_of mixed Tryz.func3 (show S_law28_SameNear a0 a1 K w = vcF P Tryz.f3 [a0, a1] w K from by kernel_rfl) h
/- spunyarn/spunyarnlaw28.far -/
/- S_law28_far_l1: 0=slot 13 1=slot 4 -/
def S_law28_far_l1 (K : Value → World → Prop) (a0 : Value) (v1002 : Value) (I1003 : Nat → List Value → World → Prop) (n1004 : Nat) (vs1005 : List Value) (g1006 : Nat → Value) (w1007 : World) : Prop :=
xLt (vs1005.getD 0 undef) v1002 fun v1008 =>
xIf v1008 (xIxS a0 (vs1005.getD 0 undef) 2 fun v1009 =>
xAt v1009 fun a1010 =>
XLdN w1007 a1010 2 fun v1011 =>
XNew w1007 [(.slice none 0 0), (.int .u64 0)] 26 fun a1012 w1013 =>
XDo P (storeVar 26 a1012 v1011) w1013 fun w1014 =>
XLd w1014 (a1012.add 0) fun v1015 =>
xLen v1015 fun v1016 =>
xGt v1016 (.int .i64 300) fun v1017 =>
xIf v1017 (K (.bool true) w1014) (xAdd (vs1005.getD 0 undef) (.int .i64 1) fun v1018 =>
XNext I1003 n1004 [v1018, (vs1005.getD 1 undef)] w1014)) (K (.bool false) w1007)
abbrev S_law28_far (a0 : Value) (a1 : Value) (K : Value → World → Prop) (w0 : World) : Prop :=
xLen a0 fun v1000 =>
xGt v1000 a1 fun v1001 =>
xIf v1001 (K (.bool true) w0) (xLen a0 fun v1002 =>
XLoop [(.int .i64 0), (.bool false)] w0 (S_law28_far_l1 K a0 v1002))
theorem W_law28_far {a0 a1 : Value} {K : Value → World → Prop} {w : World} (h : S_law28_far a0 a1 K w) : Ret P n_law28_far [a0, a1] w K :=
  vcF_of mixed Tryz.func4 (show S_law28_far a0 a1 K w = vcF P Tryz.f4 [a0, a1] w K from by kernel_rfl) h
/- spunyarn/spunyarnlaw28.alive -/
abbrev S_law28_alive  (K : Value → World → Prop) (w0 : World) : Prop :=
xFill (repL [(.int .u8 0)] 1) [(0, 1, (.int .u8 1))] fun c1000 =>
XNew w0 c1000 5 fun a1001 w1002 =>
xFill [(.slice none 0 0), (.int .u64 0)] [(0, 1, (.slice (some a1001) 1 1)), (1, 1, (.int .u64 5))] fun c1003 =>
xFill (repL [(.slice none 0 0), (.int .u64 0)] 1) [(0, 2, (.agg c1003.toArray))] fun c1004 =>
XNew w1002 c1004 26 fun a1005 w1006 =>
Ret P n_law28_tree [(.slice (some a1005) 1 1), (.int .u64 1)] w1006 fun v1007 w1008 =>
xFill (repL [(.int .u8 0)] 1) [(0, 1, (.int .u8 1))] fun c1009 =>
XNew w1008 c1009 5 fun a1010 w1011 =>
xFill [(.slice none 0 0), (.int .u64 0)] [(0, 1, (.slice (some a1010) 1 1)), (1, 1, (.int .u64 6))] fun c1012 =>
xFill (repL [(.slice none 0 0), (.int .u64 0)] 1) [(0, 2, (.agg c1012.toArray))] fun c1013 =>
XNew w1011 c1013 26 fun a1014 w1015 =>
Ret P n_law28_tree [(.slice (some a1014) 1 1), (.int .u64 1)] w1015 fun v1016 w1017 =>
/- 0 -/ XJ (fun J1018 =>
Ret P n_same_Same [v1007, v1016] w1017 fun v1022 w1023 =>
xNot v1022 fun v1024 =>
xIf v1024 (Ret P n_same_Looks [v1007, v1016] w1023 fun v1025 w1026 =>
xEq v1025 (.int .i64 1) fun v1027 =>
xIf v1027 (Ret P n_same_Same [v1007, v1007] w1026 fun v1028 w1029 =>
xIf v1028 (Ret P n_same_Looks [v1007, v1007] w1029 fun v1030 w1031 =>
xEq v1030 (.int .i64 0) fun v1032 =>
xIf v1032 (xFill (repL [(.int .u8 0)] 1) [(0, 1, (.int .u8 1))] fun c1033 =>
XNew w1031 c1033 5 fun a1034 w1035 =>
xFill [(.slice none 0 0), (.int .u64 0)] [(0, 1, (.slice (some a1034) 1 1)), (1, 1, (.int .u64 5))] fun c1036 =>
xFill (repL [(.slice none 0 0), (.int .u64 0)] 1) [(0, 2, (.agg c1036.toArray))] fun c1037 =>
XNew w1035 c1037 26 fun a1038 w1039 =>
Ret P n_law28_tree [(.slice (some a1038) 1 1), (.int .u64 2)] w1039 fun v1040 w1041 =>
Ret P n_same_Same [v1007, v1040] w1041 fun v1042 w1043 =>
xIf v1042 (Ret P n_same_Same [(.pointer none), (.pointer none)] w1043 fun v1044 w1045 =>
J1018 [v1044] w1045) (J1018 [(.bool false)] w1043)) (J1018 [(.bool false)] w1031)) (J1018 [(.bool false)] w1029)) (J1018 [(.bool false)] w1026)) (J1018 [(.bool false)] w1023)) fun vs1019 g1020 w1021 =>
K (vs1019.getD 0 undef) w1021
theorem W_law28_alive {K : Value → World → Prop} {w : World} (h : S_law28_alive  K w) : Ret P n_law28_alive [] w K :=
  vcF_of mixed Tryz.func5 (show S_law28_alive  K w = vcF P Tryz.f5 [] w K from by kernel_rfl) h
/- spunyarn/spunyarnlaw28.tree -/
/- S_law28_tree_l1: 0=slot 12 1=slot 5 out -/
def S_law28_tree_l1 (K : Value → World → Prop) (a0 : Value) (a1 : Value) (v1000 : Value) (I1001 : Nat → List Value → World → Prop) (n1002 : Nat) (vs1003 : List Value) (g1004 : Nat → Value) (w1005 : World) : Prop :=
xLt (vs1003.getD 0 undef) v1000 fun v1006 =>
xIf v1006 (xIxS a0 (vs1003.getD 0 undef) 2 fun v1007 =>
xAt v1007 fun a1008 =>
XLdN w1005 a1008 2 fun v1009 =>
XNew w1005 [(.slice none 0 0), (.int .u64 0)] 26 fun a1010 w1011 =>
XDo P (storeVar 26 a1010 v1009) w1011 fun w1012 =>
XLdN w1012 a1010 2 fun v1013 =>
xFill (repL [(.slice none 0 0), (.int .u64 0)] 1) [(0, 2, v1013)] fun c1014 =>
XNew w1012 c1014 44 fun a1015 w1016 =>
XRun P (Builtin.append_ #[43, 43] 43 #[(vs1003.getD 1 undef), (.slice (some a1015) 1 1)]) w1016 fun v1017 w1018 =>
xAdd (vs1003.getD 0 undef) (.int .i64 1) fun v1019 =>
XNext I1001 n1002 [v1019, v1017] w1018) (Ret P n_canon_Build [(.pointer none), a1, (vs1003.getD 1 undef)] w1005 fun v1020 w1021 =>
xTup v1020 0 fun v1022 =>
xTup v1020 1 fun v1023 =>
K v1022 w1021)
abbrev S_law28_tree (a0 : Value) (a1 : Value) (K : Value → World → Prop) (w0 : World) : Prop :=
xLen a0 fun v1000 =>
XLoop [(.int .i64 0), (.slice none 0 0)] w0 (S_law28_tree_l1 K a0 a1 v1000)
theorem W_law28_tree {a0 a1 : Value} {K : Value → World → Prop} {w : World} (h : S_law28_tree a0 a1 K w) : Ret P n_law28_tree [a0, a1] w K :=
  vcF_of mixed Tryz.func6 (show S_law28_tree a0 a1 K w = vcF P Tryz.f6 [a0, a1] w K from by kernel_rfl) h
end Go.Proofs.YtidkkkdlaclolaaGreat
