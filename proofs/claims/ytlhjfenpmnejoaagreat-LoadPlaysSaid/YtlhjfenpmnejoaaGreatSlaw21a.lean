/-  Written by gen.py for this claim: of each function a form without frames, the same as the engine's condition by reckoning.  -/
import Derived.Test.YtlhjfenpmnejoaaGreatSN
import Derived.Test.YtlhjfenpmnejoaaGreatProg
namespace Go.Proofs.YtlhjfenpmnejoaaGreat
open Go X
set_option linter.unusedVariables false
set_option maxRecDepth 100000
/- spunyarn/spunyarnlaw21.LoadPlays -/
/- S_law21_LoadPlays_l1: 0=slot 41 1=slot 9 k 2=slot 6 3=slot 7 bad -/
def S_law21_LoadPlays_l1 (K : Value → World → Prop) (a0 : Value) (a1 : Value) (a2 : Value) (v1012 : Value) (I1013 : Nat → List Value → World → Prop) (n1014 : Nat) (vs1015 : List Value) (g1016 : Nat → Value) (w1017 : World) : Prop :=
xLt (vs1015.getD 0 undef) v1012 fun v1018 =>
xIf v1018 (/- 0 k 1 2 bad -/ XJ (fun J1019 =>
xIxS a2 (vs1015.getD 0 undef) 1 fun v1023 =>
xAt v1023 fun a1024 =>
XLd w1017 a1024 fun v1025 =>
/- 0 -/ XJ (fun J1026 =>
xLen v1025 fun v1030 =>
xGt v1030 (.int .i64 300) fun v1031 =>
xIf v1031 (xLen v1025 fun v1032 =>
xLe v1032 (.int .i64 65535) fun v1033 =>
xIf v1033 (J1026 [(.bool true)] w1017) (xLen v1025 fun v1034 =>
xGt v1034 (.int .i64 70000) fun v1035 =>
J1026 [v1035] w1017)) (xLen v1025 fun v1036 =>
xGt v1036 (.int .i64 70000) fun v1037 =>
J1026 [v1037] w1017)) fun vs1027 g1028 w1029 =>
xIf (vs1027.getD 0 undef) (Ret P n_law21_alive [] w1029 fun v1038 w1039 =>
K v1038 w1039) (xLen v1025 fun v1040 =>
xGt v1040 (.int .i64 65535) fun v1041 =>
xIf v1041 (J1019 [v1025, (vs1015.getD 2 undef), (.int .i64 8)] w1029) (J1019 [v1025, (vs1015.getD 2 undef), (vs1015.getD 3 undef)] w1029))) fun vs1020 g1021 w1022 =>
xAdd (vs1015.getD 0 undef) (.int .i64 1) fun v1042 =>
XNext I1013 n1014 [v1042, (vs1020.getD 0 undef), (vs1020.getD 1 undef), (vs1020.getD 2 undef)] w1022) (Ret P n_ref13_Sort [a0] w1017 fun v1043 w1044 =>
Ret P n_tree_New [] w1044 fun v1045 w1046 =>
Ret P n_law21_pairs [v1043] w1046 fun v1047 w1048 =>
Ret P n_tree_World_From [v1045, v1047] w1048 fun v1049 w1050 =>
xTup v1049 0 fun v1051 =>
xTup v1049 1 fun v1052 =>
Ret P n_trans_Edit [v1051] w1050 fun v1053 w1054 =>
xTup v1053 0 fun v1055 =>
xTup v1053 1 fun v1056 =>
/- 0 -/ XJ (fun J1057 =>
xPEq P w1054 v1055 (.pointer none) fun v1061 =>
xIf v1061 (J1057 [(.bool true)] w1054) (xNe v1056 (.int .i64 0) fun v1062 =>
J1057 [v1062] w1054)) fun vs1058 g1059 w1060 =>
xIf (vs1058.getD 0 undef) (K (.bool false) w1060) (Ret P n_law21_pairs [a1] w1060 fun v1063 w1064 =>
Ret P n_load_Load [v1055, v1063] w1064 fun v1065 w1066 =>
Ret P n_ref21_Load [v1043, a1] w1066 fun v1067 w1068 =>
Ret P n_load_Drop [v1055, a2] w1068 fun v1069 w1070 =>
xTup v1069 0 fun v1071 =>
xTup v1069 1 fun v1072 =>
Ret P n_ref21_Drop [v1067, a2] w1070 fun v1073 w1074 =>
xTup v1073 0 fun v1075 =>
xTup v1073 1 fun v1076 =>
/- 0 left 1 many -/ XJ (fun J1077 =>
xNe (vs1015.getD 3 undef) (.int .i64 0) fun v1081 =>
xIf v1081 (J1077 [v1067, (.int .i64 0)] w1074) (J1077 [v1075, v1076] w1074)) fun vs1078 g1079 w1080 =>
xFill (repL [(.int .u8 0)] 8) [(0, 1, (.int .u8 0)), (1, 1, (.int .u8 0)), (2, 1, (.int .u8 0)), (3, 1, (.int .u8 0)), (4, 1, (.int .u8 0)), (5, 1, (.int .u8 0)), (6, 1, (.int .u8 0)), (7, 1, (.int .u8 9))] fun c1082 =>
XNew w1080 c1082 5 fun a1083 w1084 =>
xFill [(.slice none 0 0), (.int .u64 0)] [(0, 1, (.slice (some a1083) 8 8))] fun c1085 =>
XRun P (Instr.makeSlice 26 (.int .i64 65536) (.int .i64 65536)) w1084 fun v1086 w1087 =>
xFill [(.slice none 0 0), (.int .u64 0)] [(0, 1, v1086)] fun c1088 =>
xFill (repL [(.slice none 0 0), (.int .u64 0)] 2) [(0, 2, (.agg c1085.toArray)), (2, 2, (.agg c1088.toArray))] fun c1089 =>
XNew w1087 c1089 47 fun a1090 w1091 =>
Ret P n_load_Load [v1055, (.slice (some a1090) 2 2)] w1091 fun v1092 w1093 =>
Ret P n_trans_Trans_List [v1055] w1093 fun v1094 w1095 =>
xTup v1094 0 fun v1096 =>
xTup v1094 1 fun v1097 =>
Ret P n_trans_Trans_Freeze [v1055] w1095 fun v1098 w1099 =>
xTup v1098 0 fun v1100 =>
xTup v1098 1 fun v1101 =>
Ret P n_load_Drop [v1055, a2] w1099 fun v1102 w1103 =>
xTup v1102 0 fun v1104 =>
xTup v1102 1 fun v1105 =>
/- 0 -/ XJ (fun J1106 =>
xEq v1065 (.int .i64 0) fun v1110 =>
xIf v1110 (xEq v1072 (vs1015.getD 3 undef) fun v1111 =>
xIf v1111 (xEq v1071 (vs1078.getD 1 undef) fun v1112 =>
xIf v1112 (xEq v1092 (.int .i64 8) fun v1113 =>
xIf v1113 (Ret P n_law21_same [v1096, (vs1078.getD 0 undef)] w1103 fun v1114 w1115 =>
xIf v1114 (Ret P n_tree_Version_List [v1100] w1115 fun v1116 w1117 =>
Ret P n_law21_same [v1116, (vs1078.getD 0 undef)] w1117 fun v1118 w1119 =>
xIf v1118 (Ret P n_tree_Version_List [v1051] w1119 fun v1120 w1121 =>
Ret P n_law21_same [v1120, v1043] w1121 fun v1122 w1123 =>
xIf v1122 (xEq v1104 (.int .i64 0) fun v1124 =>
xIf v1124 (xEq v1105 (.int .i64 11) fun v1125 =>
xIf v1125 (Ret P n_load_Load [v1055, (.slice none 0 0)] w1123 fun v1126 w1127 =>
xEq v1126 (.int .i64 11) fun v1128 =>
xIf v1128 (Ret P n_law21_alive [] w1127 fun v1129 w1130 =>
J1106 [v1129] w1130) (J1106 [(.bool false)] w1127)) (J1106 [(.bool false)] w1123)) (J1106 [(.bool false)] w1123)) (J1106 [(.bool false)] w1123)) (J1106 [(.bool false)] w1119)) (J1106 [(.bool false)] w1115)) (J1106 [(.bool false)] w1103)) (J1106 [(.bool false)] w1103)) (J1106 [(.bool false)] w1103)) (J1106 [(.bool false)] w1103)) fun vs1107 g1108 w1109 =>
K (vs1107.getD 0 undef) w1109))
abbrev S_law21_LoadPlays (a0 : Value) (a1 : Value) (a2 : Value) (K : Value → World → Prop) (w0 : World) : Prop :=
/- 0 -/ XJ (fun J1000 =>
Ret P n_law21_far [a0, (.int .i64 100)] w0 fun v1004 w1005 =>
xIf v1004 (J1000 [(.bool true)] w1005) (Ret P n_law21_far [a1, (.int .i64 60)] w1005 fun v1006 w1007 =>
xIf v1006 (J1000 [(.bool true)] w1007) (xLen a2 fun v1008 =>
xGt v1008 (.int .i64 60) fun v1009 =>
J1000 [v1009] w1007))) fun vs1001 g1002 w1003 =>
xIf (vs1001.getD 0 undef) (Ret P n_law21_alive [] w1003 fun v1010 w1011 =>
K v1010 w1011) (xLen a2 fun v1012 =>
XLoop [(.int .i64 0), undef, (.bool false), (.int .i64 0)] w1003 (S_law21_LoadPlays_l1 K a0 a1 a2 v1012))
theorem W_law21_LoadPlays {a0 a1 a2 : Value} {K : Value → World → Prop} {w : World} (h : S_law21_LoadPlays a0 a1 a2 K w) : Ret P n_law21_LoadPlays [a0, a1, a2] w K :=
  vcF_of mixed Tryz.func3 (show S_law21_LoadPlays a0 a1 a2 K w = vcF P Tryz.f3 [a0, a1, a2] w K from by kernel_rfl) h
/- spunyarn/spunyarnlaw21.far -/
/- S_law21_far_l1: 0=slot 13 1=slot 4 -/
def S_law21_far_l1 (K : Value → World → Prop) (a0 : Value) (v1002 : Value) (I1003 : Nat → List Value → World → Prop) (n1004 : Nat) (vs1005 : List Value) (g1006 : Nat → Value) (w1007 : World) : Prop :=
xLt (vs1005.getD 0 undef) v1002 fun v1008 =>
xIf v1008 (xIxS a0 (vs1005.getD 0 undef) 2 fun v1009 =>
xAt v1009 fun a1010 =>
XLdN w1007 a1010 2 fun v1011 =>
XNew w1007 [(.slice none 0 0), (.int .u64 0)] 54 fun a1012 w1013 =>
XDo P (storeVar 54 a1012 v1011) w1013 fun w1014 =>
XLd w1014 (a1012.add 0) fun v1015 =>
xLen v1015 fun v1016 =>
xGt v1016 (.int .i64 300) fun v1017 =>
xIf v1017 (K (.bool true) w1014) (xAdd (vs1005.getD 0 undef) (.int .i64 1) fun v1018 =>
XNext I1003 n1004 [v1018, (vs1005.getD 1 undef)] w1014)) (K (.bool false) w1007)
abbrev S_law21_far (a0 : Value) (a1 : Value) (K : Value → World → Prop) (w0 : World) : Prop :=
xLen a0 fun v1000 =>
xGt v1000 a1 fun v1001 =>
xIf v1001 (K (.bool true) w0) (xLen a0 fun v1002 =>
XLoop [(.int .i64 0), (.bool false)] w0 (S_law21_far_l1 K a0 v1002))
theorem W_law21_far {a0 a1 : Value} {K : Value → World → Prop} {w : World} (h : S_law21_far a0 a1 K w) : Ret P n_law21_far [a0, a1] w K :=
  vcF_of mixed Tryz.func4 (show S_law21_far a0 a1 K w = vcF P Tryz.f4 [a0, a1] w K from by kernel_rfl) h
/- spunyarn/spunyarnlaw21.alive -/
abbrev S_law21_alive  (K : Value → World → Prop) (w0 : World) : Prop :=
xFill (repL [(.int .u8 0)] 1) [(0, 1, (.int .u8 2))] fun c1000 =>
XNew w0 c1000 5 fun a1001 w1002 =>
xFill [(.slice none 0 0), (.int .u64 0)] [(0, 1, (.slice (some a1001) 1 1)), (1, 1, (.int .u64 5))] fun c1003 =>
xFill (repL [(.int .u8 0)] 1) [(0, 1, (.int .u8 1))] fun c1004 =>
XNew w1002 c1004 5 fun a1005 w1006 =>
xFill [(.slice none 0 0), (.int .u64 0)] [(0, 1, (.slice (some a1005) 1 1)), (1, 1, (.int .u64 6))] fun c1007 =>
xFill (repL [(.int .u8 0)] 1) [(0, 1, (.int .u8 2))] fun c1008 =>
XNew w1006 c1008 5 fun a1009 w1010 =>
xFill [(.slice none 0 0), (.int .u64 0)] [(0, 1, (.slice (some a1009) 1 1)), (1, 1, (.int .u64 7))] fun c1011 =>
xFill (repL [(.slice none 0 0), (.int .u64 0)] 3) [(0, 2, (.agg c1003.toArray)), (2, 2, (.agg c1007.toArray)), (4, 2, (.agg c1011.toArray))] fun c1012 =>
XNew w1010 c1012 47 fun a1013 w1014 =>
Ret P n_load_Sort [(.slice (some a1013) 3 3)] w1014 fun v1015 w1016 =>
Ret P n_tree_New [] w1016 fun v1017 w1018 =>
Ret P n_load_Fresh [v1017, (.slice (some a1013) 3 3)] w1018 fun v1019 w1020 =>
xTup v1019 0 fun v1021 =>
xTup v1019 1 fun v1022 =>
xFill (repL [(.int .u8 0)] 1) [(0, 1, (.int .u8 3))] fun c1023 =>
XNew w1020 c1023 5 fun a1024 w1025 =>
xFill [(.slice none 0 0), (.int .u64 0)] [(0, 1, (.slice (some a1024) 1 1)), (1, 1, (.int .u64 8))] fun c1026 =>
xFill (repL [(.slice none 0 0), (.int .u64 0)] 1) [(0, 2, (.agg c1026.toArray))] fun c1027 =>
XNew w1025 c1027 47 fun a1028 w1029 =>
Ret P n_load_Merge [v1021, (.slice (some a1028) 1 1)] w1029 fun v1030 w1031 =>
xTup v1030 0 fun v1032 =>
xTup v1030 1 fun v1033 =>
/- 0 -/ XJ (fun J1034 =>
xLen v1015 fun v1038 =>
xEq v1038 (.int .i64 2) fun v1039 =>
xIf v1039 (xIxS v1015 (.int .i64 0) 2 fun v1040 =>
xFld v1040 1 fun v1041 =>
xAt v1041 fun a1042 =>
XLd w1031 a1042 fun v1043 =>
xEq v1043 (.int .u64 6) fun v1044 =>
xIf v1044 (xIxS v1015 (.int .i64 1) 2 fun v1045 =>
xFld v1045 1 fun v1046 =>
xAt v1046 fun a1047 =>
XLd w1031 a1047 fun v1048 =>
xEq v1048 (.int .u64 7) fun v1049 =>
xIf v1049 (Ret P n_tree_Version_Len [v1021] w1031 fun v1050 w1051 =>
xEq v1050 (.int .i64 2) fun v1052 =>
xIf v1052 (xEq v1022 (.int .i64 0) fun v1053 =>
xIf v1053 (Ret P n_tree_Version_Len [v1032] w1051 fun v1054 w1055 =>
xEq v1054 (.int .i64 3) fun v1056 =>
xIf v1056 (xEq v1033 (.int .i64 0) fun v1057 =>
J1034 [v1057] w1055) (J1034 [(.bool false)] w1055)) (J1034 [(.bool false)] w1051)) (J1034 [(.bool false)] w1051)) (J1034 [(.bool false)] w1031)) (J1034 [(.bool false)] w1031)) (J1034 [(.bool false)] w1031)) fun vs1035 g1036 w1037 =>
K (vs1035.getD 0 undef) w1037
theorem W_law21_alive {K : Value → World → Prop} {w : World} (h : S_law21_alive  K w) : Ret P n_law21_alive [] w K :=
  vcF_of mixed Tryz.func5 (show S_law21_alive  K w = vcF P Tryz.f5 [] w K from by kernel_rfl) h
/- spunyarn/spunyarnlaw21.pairs -/
/- S_law21_pairs_l1: 0=slot 8 1=slot 3 out -/
def S_law21_pairs_l1 (K : Value → World → Prop) (a0 : Value) (v1000 : Value) (I1001 : Nat → List Value → World → Prop) (n1002 : Nat) (vs1003 : List Value) (g1004 : Nat → Value) (w1005 : World) : Prop :=
xLt (vs1003.getD 0 undef) v1000 fun v1006 =>
xIf v1006 (xIxS a0 (vs1003.getD 0 undef) 2 fun v1007 =>
xAt v1007 fun a1008 =>
XLdN w1005 a1008 2 fun v1009 =>
XNew w1005 [(.slice none 0 0), (.int .u64 0)] 54 fun a1010 w1011 =>
XDo P (storeVar 54 a1010 v1009) w1011 fun w1012 =>
XLdN w1012 a1010 2 fun v1013 =>
xFill (repL [(.slice none 0 0), (.int .u64 0)] 1) [(0, 2, v1013)] fun c1014 =>
XNew w1012 c1014 47 fun a1015 w1016 =>
XRun P (Builtin.append_ #[34, 34] 34 #[(vs1003.getD 1 undef), (.slice (some a1015) 1 1)]) w1016 fun v1017 w1018 =>
xAdd (vs1003.getD 0 undef) (.int .i64 1) fun v1019 =>
XNext I1001 n1002 [v1019, v1017] w1018) (K (vs1003.getD 1 undef) w1005)
abbrev S_law21_pairs (a0 : Value) (K : Value → World → Prop) (w0 : World) : Prop :=
xLen a0 fun v1000 =>
XLoop [(.int .i64 0), (.slice none 0 0)] w0 (S_law21_pairs_l1 K a0 v1000)
theorem W_law21_pairs {a0 : Value} {K : Value → World → Prop} {w : World} (h : S_law21_pairs a0 K w) : Ret P n_law21_pairs [a0] w K :=
  vcF_of mixed Tryz.func9 (show S_law21_pairs a0 K w = vcF P Tryz.f9 [a0] w K from by kernel_rfl) h
/- spunyarn/spunyarnlaw21.same -/
/- S_law21_same_l1: 0=slot 10 1=slot 5 l -/
def S_law21_same_l1 (K : Value → World → Prop) (a0 : Value) (a1 : Value) (v1000 : Value) (I1001 : Nat → List Value → World → Prop) (n1002 : Nat) (vs1003 : List Value) (g1004 : Nat → Value) (w1005 : World) : Prop :=
xLt (vs1003.getD 0 undef) v1000 fun v1006 =>
xIf v1006 (xIxS a0 (vs1003.getD 0 undef) 2 fun v1007 =>
xAt v1007 fun a1008 =>
XLdN w1005 a1008 2 fun v1009 =>
XNew w1005 [(.slice none 0 0), (.int .u64 0)] 47 fun a1010 w1011 =>
XDo P (storeVar 47 a1010 v1009) w1011 fun w1012 =>
XLdN w1012 a1010 2 fun v1013 =>
xFill (repL [(.slice none 0 0), (.int .u64 0)] 1) [(0, 2, v1013)] fun c1014 =>
XNew w1012 c1014 54 fun a1015 w1016 =>
XRun P (Builtin.append_ #[22, 22] 22 #[(vs1003.getD 1 undef), (.slice (some a1015) 1 1)]) w1016 fun v1017 w1018 =>
xAdd (vs1003.getD 0 undef) (.int .i64 1) fun v1019 =>
XNext I1001 n1002 [v1019, v1017] w1018) (Ret P n_ref19_Same [(vs1003.getD 1 undef), a1] w1005 fun v1020 w1021 =>
K v1020 w1021)
abbrev S_law21_same (a0 : Value) (a1 : Value) (K : Value → World → Prop) (w0 : World) : Prop :=
xLen a0 fun v1000 =>
XLoop [(.int .i64 0), (.slice none 0 0)] w0 (S_law21_same_l1 K a0 a1 v1000)
theorem W_law21_same {a0 a1 : Value} {K : Value → World → Prop} {w : World} (h : S_law21_same a0 a1 K w) : Ret P n_law21_same [a0, a1] w K :=
  vcF_of mixed Tryz.func17 (show S_law21_same a0 a1 K w = vcF P Tryz.f17 [a0, a1] w K from by kernel_rfl) h
end Go.Proofs.YtlhjfenpmnejoaaGreat
