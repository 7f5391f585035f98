/-  Written by gen.py for this claim: of each function a form without frames, the same as the engine's condition by reckoning.  -/
import Derived.Test.YtlhjfenpmnejoaaGreatDoorSN
import Derived.Test.YtlhjfenpmnejoaaGreatDoorProg
namespace Go.Proofs.YtlhjfenpmnejoaaGreatDoor
open Go X
set_option linter.unusedVariables false
set_option maxRecDepth 100000
/- spunyarn/spunyarnlaw21.LoadOrder -/
/- S_law21_LoadOrder_l1: 0=slot 34 1=slot 9 first -/
def S_law21_LoadOrder_l1 (vs1007 : List Value) (J1011 : List Value → World → Prop) (a1018 : Addr) (v1021 : Value) (v1022 : Value) (I1023 : Nat → List Value → World → Prop) (n1024 : Nat) (vs1025 : List Value) (g1026 : Nat → Value) (w1027 : World) : Prop :=
xLt (vs1025.getD 0 undef) v1022 fun v1028 =>
xIf v1028 (/- 0 first -/ XJ (fun J1029 =>
xIxS v1021 (vs1025.getD 0 undef) 2 fun v1033 =>
xAt v1033 fun a1034 =>
XLdN w1027 a1034 2 fun v1035 =>
XNew w1027 [(.slice none 0 0), (.int .u64 0)] 30 fun a1036 w1037 =>
XDo P (storeVar 30 a1036 v1035) w1037 fun w1038 =>
xIf (vs1025.getD 1 undef) (XLd w1038 (a1018.add 0) fun v1039 =>
XLd w1038 (a1036.add 0) fun v1040 =>
Ret P n_ref01_Same [v1039, v1040] w1038 fun v1041 w1042 =>
xNot v1041 fun v1043 =>
J1029 [v1043] w1042) (J1029 [(.bool false)] w1038)) fun vs1030 g1031 w1032 =>
xAdd (vs1025.getD 0 undef) (.int .i64 1) fun v1044 =>
XNext I1023 n1024 [v1044, (vs1030.getD 0 undef)] w1032) (xIf (vs1025.getD 1 undef) (XLdN w1027 a1018 2 fun v1045 =>
xFill (repL [(.slice none 0 0), (.int .u64 0)] 1) [(0, 2, v1045)] fun c1046 =>
XNew w1027 c1046 32 fun a1047 w1048 =>
XRun P (Builtin.append_ #[26, 26] 26 #[(vs1007.getD 3 undef), (.slice (some a1047) 1 1)]) w1048 fun v1049 w1050 =>
J1011 [(vs1007.getD 0 undef), (vs1025.getD 1 undef), v1049] w1050) (J1011 [(vs1007.getD 0 undef), (vs1025.getD 1 undef), (vs1007.getD 3 undef)] w1027))
/- S_law21_LoadOrder_l2: 0=slot 6 left 1=slot 14 j 2=slot 13 i 3=slot 12 b -/
def S_law21_LoadOrder_l2 (K : Value → World → Prop) (a1 : Value) (vs1007 : List Value) (I1054 : Nat → List Value → World → Prop) (n1055 : Nat) (vs1056 : List Value) (g1057 : Nat → Value) (w1058 : World) : Prop :=
xLen (vs1056.getD 0 undef) fun v1059 =>
xGt v1059 (.int .i64 0) fun v1060 =>
xIf v1060 (xLen (vs1056.getD 0 undef) fun v1061 =>
xSub v1061 (.int .i64 1) fun v1062 =>
/- 0 j -/ XJ (fun J1063 =>
xLen a1 fun v1067 =>
xLt (vs1056.getD 2 undef) v1067 fun v1068 =>
xIf v1068 (xIxS a1 (vs1056.getD 2 undef) 1 fun v1069 =>
xAt v1069 fun a1070 =>
XLd w1058 a1070 fun v1071 =>
xConv .i64 v1071 fun v1072 =>
xLen (vs1056.getD 0 undef) fun v1073 =>
xRem v1072 v1073 fun v1074 =>
J1063 [v1074] w1058) (J1063 [v1062] w1058)) fun vs1064 g1065 w1066 =>
xIxS (vs1056.getD 0 undef) (vs1064.getD 0 undef) 2 fun v1075 =>
xAt v1075 fun a1076 =>
XLdN w1066 a1076 2 fun v1077 =>
xFill (repL [(.slice none 0 0), (.int .u64 0)] 1) [(0, 2, v1077)] fun c1078 =>
XNew w1066 c1078 32 fun a1079 w1080 =>
XRun P (Builtin.append_ #[26, 26] 26 #[(vs1056.getD 3 undef), (.slice (some a1079) 1 1)]) w1080 fun v1081 w1082 =>
xLen (vs1056.getD 0 undef) fun v1083 =>
xSub v1083 (.int .i64 1) fun v1084 =>
xIxS (vs1056.getD 0 undef) v1084 2 fun v1085 =>
xAt v1085 fun a1086 =>
XLdN w1082 a1086 2 fun v1087 =>
xIxS (vs1056.getD 0 undef) (vs1064.getD 0 undef) 2 fun v1088 =>
xAt v1088 fun a1090 =>
XDo P (storeVar 32 a1090 v1087) w1082 fun w1089 =>
xLen (vs1056.getD 0 undef) fun v1091 =>
xSub v1091 (.int .i64 1) fun v1092 =>
xCutS 2 (vs1056.getD 0 undef) none (some v1092) none fun v1093 =>
xAdd (vs1056.getD 2 undef) (.int .i64 1) fun v1094 =>
XNext I1054 n1055 [v1093, (vs1064.getD 0 undef), v1094, v1081] w1089) (Ret P n_tree_New [] w1058 fun v1095 w1096 =>
Ret P n_load_Fresh [v1095, (vs1007.getD 3 undef)] w1096 fun v1097 w1098 =>
xTup v1097 0 fun v1099 =>
xTup v1097 1 fun v1100 =>
Ret P n_load_Fresh [v1095, (vs1056.getD 3 undef)] w1098 fun v1101 w1102 =>
xTup v1101 0 fun v1103 =>
xTup v1101 1 fun v1104 =>
/- 0 -/ XJ (fun J1105 =>
xEq v1100 (.int .i64 0) fun v1109 =>
xIf v1109 (xEq v1104 (.int .i64 0) fun v1110 =>
xIf v1110 (Ret P n_tree_Version_Shape [v1099] w1102 fun v1111 w1112 =>
Ret P n_tree_Version_Shape [v1103] w1112 fun v1113 w1114 =>
xSEq v1111 v1113 fun v1115 =>
xIf v1115 (Ret P n_tree_Version_Len [v1099] w1114 fun v1116 w1117 =>
xLen (vs1007.getD 3 undef) fun v1118 =>
xEq v1116 v1118 fun v1119 =>
xIf v1119 (Ret P n_law21_alive [] w1117 fun v1120 w1121 =>
J1105 [v1120] w1121) (J1105 [(.bool false)] w1117)) (J1105 [(.bool false)] w1114)) (J1105 [(.bool false)] w1102)) (J1105 [(.bool false)] w1102)) fun vs1106 g1107 w1108 =>
K (vs1106.getD 0 undef) w1108)
/- S_law21_LoadOrder_l3: 0=slot 25 1=slot 7 i 2=slot 9 first 3=slot 5 a -/
def S_law21_LoadOrder_l3 (K : Value → World → Prop) (a0 : Value) (a1 : Value) (v1004 : Value) (I1005 : Nat → List Value → World → Prop) (n1006 : Nat) (vs1007 : List Value) (g1008 : Nat → Value) (w1009 : World) : Prop :=
xLt (vs1007.getD 0 undef) v1004 fun v1010 =>
xIf v1010 (/- 0 i 1 first 2 a -/ XJ (fun J1011 =>
xIxS a0 (vs1007.getD 0 undef) 2 fun v1015 =>
xAt v1015 fun a1016 =>
XLdN w1009 a1016 2 fun v1017 =>
XNew w1009 [(.slice none 0 0), (.int .u64 0)] 30 fun a1018 w1019 =>
XDo P (storeVar 30 a1018 v1017) w1019 fun w1020 =>
xCutS 2 a0 none (some (vs1007.getD 0 undef)) none fun v1021 =>
xLen v1021 fun v1022 =>
XLoop [(.int .i64 0), (.bool true)] w1020 (S_law21_LoadOrder_l1 vs1007 J1011 a1018 v1021 v1022)) fun vs1012 g1013 w1014 =>
xAdd (vs1007.getD 0 undef) (.int .i64 1) fun v1051 =>
XNext I1005 n1006 [v1051, (vs1012.getD 0 undef), (vs1012.getD 1 undef), (vs1012.getD 2 undef)] w1014) (XRun P (Builtin.append_ #[26, 26] 26 #[(.slice none 0 0), (vs1007.getD 3 undef)]) w1009 fun v1052 w1053 =>
XLoop [v1052, undef, (.int .i64 0), (.slice none 0 0)] w1053 (S_law21_LoadOrder_l2 K a1 vs1007))
abbrev S_law21_LoadOrder (a0 : Value) (a1 : Value) (K : Value → World → Prop) (w0 : World) : Prop :=
Ret P n_law21_far [a0, (.int .i64 80)] w0 fun v1000 w1001 =>
xIf v1000 (Ret P n_law21_alive [] w1001 fun v1002 w1003 =>
K v1002 w1003) (xLen a0 fun v1004 =>
XLoop [(.int .i64 0), undef, undef, (.slice none 0 0)] w1001 (S_law21_LoadOrder_l3 K a0 a1 v1004))
theorem W_law21_LoadOrder {a0 a1 : Value} {K : Value → World → Prop} {w : World} (h : S_law21_LoadOrder a0 a1 K w) : Ret P n_law21_LoadOrder [a0, a1] w K :=
  vcF_of mixed Tryz.func3 (show S_law21_LoadOrder a0 a1 K w = vcF P Tryz.f3 [a0, a1] w K from by kernel_rfl) h
/- spunyarn/spunyarnlaw21.LoadSorts -/
abbrev S_law21_LoadSorts (a0 : Value) (a1 : Value) (K : Value → World → Prop) (w0 : World) : Prop :=
Ret P n_law21_far [a0, (.int .i64 150)] w0 fun v1000 w1001 =>
xIf v1000 (Ret P n_law21_alive [] w1001 fun v1002 w1003 =>
K v1002 w1003) (Ret P n_tree_New [] w1001 fun v1004 w1005 =>
Ret P n_law21_pairs [a0] w1005 fun v1006 w1007 =>
/- 0 all -/ XJ (fun J1008 =>
xIf a1 (XRun P (Instr.makeSlice 27 (.int .i64 65536) (.int .i64 65536)) w1007 fun v1012 w1013 =>
xFill [(.slice none 0 0), (.int .u64 0)] [(0, 1, v1012)] fun c1014 =>
xFill (repL [(.slice none 0 0), (.int .u64 0)] 1) [(0, 2, (.agg c1014.toArray))] fun c1015 =>
XNew w1013 c1015 32 fun a1016 w1017 =>
XRun P (Builtin.append_ #[26, 26] 26 #[v1006, (.slice (some a1016) 1 1)]) w1017 fun v1018 w1019 =>
J1008 [v1018] w1019) (J1008 [v1006] w1007)) fun vs1009 g1010 w1011 =>
Ret P n_load_Fresh [v1004, (vs1009.getD 0 undef)] w1011 fun v1020 w1021 =>
xTup v1020 0 fun v1022 =>
xTup v1020 1 fun v1023 =>
xIf a1 (/- 0 -/ XJ (fun J1024 =>
xEq v1023 (.int .i64 8) fun v1028 =>
xIf v1028 (xPEq P w1021 v1022 (.pointer none) fun v1029 =>
xIf v1029 (Ret P n_law21_alive [] w1021 fun v1030 w1031 =>
J1024 [v1030] w1031) (J1024 [(.bool false)] w1021)) (J1024 [(.bool false)] w1021)) fun vs1025 g1026 w1027 =>
K (vs1025.getD 0 undef) w1027) (Ret P n_ref21_Sort [a0] w1021 fun v1032 w1033 =>
Ret P n_load_Fresh [(.pointer none), (vs1009.getD 0 undef)] w1033 fun v1034 w1035 =>
xTup v1034 0 fun v1036 =>
xTup v1034 1 fun v1037 =>
/- 0 -/ XJ (fun J1038 =>
xEq v1023 (.int .i64 0) fun v1042 =>
xIf v1042 (Ret P n_load_Sort [(vs1009.getD 0 undef)] w1035 fun v1043 w1044 =>
Ret P n_law21_same [v1043, v1032] w1044 fun v1045 w1046 =>
xIf v1045 (Ret P n_law21_same [(vs1009.getD 0 undef), a0] w1046 fun v1047 w1048 =>
xIf v1047 (Ret P n_tree_Version_List [v1022] w1048 fun v1049 w1050 =>
Ret P n_law21_same [v1049, v1032] w1050 fun v1051 w1052 =>
xIf v1051 (Ret P n_tree_Version_Shape [v1022] w1052 fun v1053 w1054 =>
Ret P n_ref13_Build [v1032] w1054 fun v1055 w1056 =>
Ret P n_ref13_Shape [v1055] w1056 fun v1057 w1058 =>
xSEq v1053 v1057 fun v1059 =>
xIf v1059 (xEq v1037 (.int .i64 2) fun v1060 =>
xIf v1060 (Ret P n_law21_alive [] w1058 fun v1061 w1062 =>
J1038 [v1061] w1062) (J1038 [(.bool false)] w1058)) (J1038 [(.bool false)] w1058)) (J1038 [(.bool false)] w1052)) (J1038 [(.bool false)] w1048)) (J1038 [(.bool false)] w1046)) (J1038 [(.bool false)] w1035)) fun vs1039 g1040 w1041 =>
K (vs1039.getD 0 undef) w1041))
theorem W_law21_LoadSorts {a0 a1 : Value} {K : Value → World → Prop} {w : World} (h : S_law21_LoadSorts a0 a1 K w) : Ret P n_law21_LoadSorts [a0, a1] w K :=
  vcF_of mixed Tryz.func4 (show S_law21_LoadSorts a0 a1 K w = vcF P Tryz.f4 [a0, a1] w K from by kernel_rfl) h
/- spunyarn/spunyarnlaw21.LoadMerge -/
/- S_law21_LoadMerge_l1: 0=slot 106 1=slot 21 one -/
def S_law21_LoadMerge_l1 (K : Value → World → Prop) (v1028 : Value) (v1032 : Value) (v1044 : Value) (v1065 : Value) (I1066 : Nat → List Value → World → Prop) (n1067 : Nat) (vs1068 : List Value) (g1069 : Nat → Value) (w1070 : World) : Prop :=
xLt (vs1068.getD 0 undef) v1065 fun v1071 =>
xIf v1071 (xIxS v1028 (vs1068.getD 0 undef) 2 fun v1072 =>
xAt v1072 fun a1073 =>
XLdN w1070 a1073 2 fun v1074 =>
XNew w1070 [(.slice none 0 0), (.int .u64 0)] 32 fun a1075 w1076 =>
XDo P (storeVar 32 a1075 v1074) w1076 fun w1077 =>
XLd w1077 (a1075.add 0) fun v1078 =>
XLd w1077 (a1075.add 1) fun v1079 =>
Ret P n_tree_Version_Put [(vs1068.getD 1 undef), v1078, v1079] w1077 fun v1080 w1081 =>
xTup v1080 0 fun v1082 =>
xTup v1080 1 fun v1083 =>
xAdd (vs1068.getD 0 undef) (.int .i64 1) fun v1084 =>
XNext I1066 n1067 [v1084, v1082] w1081) (Ret P n_load_Merge [(.pointer none), v1028] w1070 fun v1085 w1086 =>
xTup v1085 0 fun v1087 =>
xTup v1085 1 fun v1088 =>
/- 0 -/ XJ (fun J1089 =>
Ret P n_tree_Version_Shape [v1032] w1086 fun v1093 w1094 =>
Ret P n_tree_Version_Shape [v1044] w1094 fun v1095 w1096 =>
xSEq v1093 v1095 fun v1097 =>
xIf v1097 (Ret P n_tree_Version_Shape [(vs1068.getD 1 undef)] w1096 fun v1098 w1099 =>
Ret P n_tree_Version_Shape [v1032] w1099 fun v1100 w1101 =>
xSEq v1098 v1100 fun v1102 =>
xIf v1102 (xEq v1088 (.int .i64 2) fun v1103 =>
xIf v1103 (Ret P n_law21_alive [] w1101 fun v1104 w1105 =>
J1089 [v1104] w1105) (J1089 [(.bool false)] w1101)) (J1089 [(.bool false)] w1101)) (J1089 [(.bool false)] w1096)) fun vs1090 g1091 w1092 =>
K (vs1090.getD 0 undef) w1092)
abbrev S_law21_LoadMerge (a0 : Value) (a1 : Value) (a2 : Value) (K : Value → World → Prop) (w0 : World) : Prop :=
/- 0 -/ XJ (fun J1000 =>
Ret P n_law21_far [a0, (.int .i64 60)] w0 fun v1004 w1005 =>
xIf v1004 (J1000 [(.bool true)] w1005) (Ret P n_law21_far [a1, (.int .i64 40)] w1005 fun v1006 w1007 =>
xIf v1006 (J1000 [(.bool true)] w1007) (Ret P n_law21_far [a2, (.int .i64 40)] w1007 fun v1008 w1009 =>
J1000 [v1008] w1009))) fun vs1001 g1002 w1003 =>
xIf (vs1001.getD 0 undef) (Ret P n_law21_alive [] w1003 fun v1010 w1011 =>
K v1010 w1011) (Ret P n_tree_New [] w1003 fun v1012 w1013 =>
Ret P n_law21_pairs [a0] w1013 fun v1014 w1015 =>
Ret P n_load_Fresh [v1012, v1014] w1015 fun v1016 w1017 =>
xTup v1016 0 fun v1018 =>
xTup v1016 1 fun v1019 =>
Ret P n_tree_World_From [v1012, (.slice none 0 0)] w1017 fun v1020 w1021 =>
xTup v1020 0 fun v1022 =>
xTup v1020 1 fun v1023 =>
Ret P n_law21_pairs [a1] w1021 fun v1024 w1025 =>
Ret P n_law21_pairs [a2] w1025 fun v1026 w1027 =>
XRun P (Builtin.append_ #[26, 26] 26 #[v1024, v1026]) w1027 fun v1028 w1029 =>
Ret P n_load_Merge [v1018, v1028] w1029 fun v1030 w1031 =>
xTup v1030 0 fun v1032 =>
xTup v1030 1 fun v1033 =>
Ret P n_law21_pairs [a1] w1031 fun v1034 w1035 =>
Ret P n_load_Merge [v1018, v1034] w1035 fun v1036 w1037 =>
xTup v1036 0 fun v1038 =>
xTup v1036 1 fun v1039 =>
Ret P n_law21_pairs [a2] w1037 fun v1040 w1041 =>
Ret P n_load_Merge [v1038, v1040] w1041 fun v1042 w1043 =>
xTup v1042 0 fun v1044 =>
xTup v1042 1 fun v1045 =>
Ret P n_law21_pairs [a0] w1043 fun v1046 w1047 =>
Ret P n_load_Merge [v1022, v1046] w1047 fun v1048 w1049 =>
xTup v1048 0 fun v1050 =>
xTup v1048 1 fun v1051 =>
/- 0 -/ XJ (fun J1052 =>
xNe v1033 (.int .i64 0) fun v1056 =>
xIf v1056 (J1052 [(.bool true)] w1049) (xNe v1039 (.int .i64 0) fun v1057 =>
xIf v1057 (J1052 [(.bool true)] w1049) (xNe v1045 (.int .i64 0) fun v1058 =>
xIf v1058 (J1052 [(.bool true)] w1049) (xNe v1051 (.int .i64 0) fun v1059 =>
xIf v1059 (J1052 [(.bool true)] w1049) (Ret P n_tree_Version_Shape [v1050] w1049 fun v1060 w1061 =>
Ret P n_tree_Version_Shape [v1018] w1061 fun v1062 w1063 =>
xSNe v1060 v1062 fun v1064 =>
J1052 [v1064] w1063))))) fun vs1053 g1054 w1055 =>
xIf (vs1053.getD 0 undef) (K (.bool false) w1055) (xLen v1028 fun v1065 =>
XLoop [(.int .i64 0), v1018] w1055 (S_law21_LoadMerge_l1 K v1028 v1032 v1044 v1065)))
theorem W_law21_LoadMerge {a0 a1 a2 : Value} {K : Value → World → Prop} {w : World} (h : S_law21_LoadMerge a0 a1 a2 K w) : Ret P n_law21_LoadMerge [a0, a1, a2] w K :=
  vcF_of mixed Tryz.func5 (show S_law21_LoadMerge a0 a1 a2 K w = vcF P Tryz.f5 [a0, a1, a2] w K from by kernel_rfl) h
/- spunyarn/spunyarnlaw21.far -/
/- S_law21_far_l1: 0=slot 13 1=slot 4 -/
def S_law21_far_l1 (K : Value → World → Prop) (a0 : Value) (v1002 : Value) (I1003 : Nat → List Value → World → Prop) (n1004 : Nat) (vs1005 : List Value) (g1006 : Nat → Value) (w1007 : World) : Prop :=
xLt (vs1005.getD 0 undef) v1002 fun v1008 =>
xIf v1008 (xIxS a0 (vs1005.getD 0 undef) 2 fun v1009 =>
xAt v1009 fun a1010 =>
XLdN w1007 a1010 2 fun v1011 =>
XNew w1007 [(.slice none 0 0), (.int .u64 0)] 30 fun a1012 w1013 =>
XDo P (storeVar 30 a1012 v1011) w1013 fun w1014 =>
XLd w1014 (a1012.add 0) fun v1015 =>
xLen v1015 fun v1016 =>
xGt v1016 (.int .i64 300) fun v1017 =>
xIf v1017 (K (.bool true) w1014) (xAdd (vs1005.getD 0 undef) (.int .i64 1) fun v1018 =>
XNext I1003 n1004 [v1018, (vs1005.getD 1 undef)] w1014)) (K (.bool false) w1007)
abbrev S_law21_far (a0 : Value) (a1 : Value) (K : Value → World → Prop) (w0 : World) : Prop :=
xLen a0 fun v1000 =>
xGt v1000 a1 fun v1001 =>
xIf v1001 (K (.bool true) w0) (xLen a0 fun v1002 =>
XLoop [(.int .i64 0), (.bool false)] w0 (S_law21_far_l1 K a0 v1002))
theorem W_law21_far {a0 a1 : Value} {K : Value → World → Prop} {w : World} (h : S_law21_far a0 a1 K w) : Ret P n_law21_far [a0, a1] w K :=
  vcF_of mixed Tryz.func7 (show S_law21_far a0 a1 K w = vcF P Tryz.f7 [a0, a1] w K from by kernel_rfl) h
/- spunyarn/spunyarnlaw21.alive -/
abbrev S_law21_alive  (K : Value → World → Prop) (w0 : World) : Prop :=
xFill (repL [(.int .u8 0)] 1) [(0, 1, (.int .u8 2))] fun c1000 =>
XNew w0 c1000 5 fun a1001 w1002 =>
xFill [(.slice none 0 0), (.int .u64 0)] [(0, 1, (.slice (some a1001) 1 1)), (1, 1, (.int .u64 5))] fun c1003 =>
xFill (repL [(.int .u8 0)] 1) [(0, 1, (.int .u8 1))] fun c1004 =>
XNew w1002 c1004 5 fun a1005 w1006 =>
xFill [(.slice none 0 0), (.int .u64 0)] [(0, 1, (.slice (some a1005) 1 1)), (1, 1, (.int .u64 6))] fun c1007 =>
xFill (repL [(.int .u8 0)] 1) [(0, 1, (.int .u8 2))] fun c1008 =>
XNew w1006 c1008 5 fun a1009 w1010 =>
xFill [(.slice none 0 0), (.int .u64 0)] [(0, 1, (.slice (some a1009) 1 1)), (1, 1, (.int .u64 7))] fun c1011 =>
xFill (repL [(.slice none 0 0), (.int .u64 0)] 3) [(0, 2, (.agg c1003.toArray)), (2, 2, (.agg c1007.toArray)), (4, 2, (.agg c1011.toArray))] fun c1012 =>
XNew w1010 c1012 32 fun a1013 w1014 =>
Ret P n_load_Sort [(.slice (some a1013) 3 3)] w1014 fun v1015 w1016 =>
Ret P n_tree_New [] w1016 fun v1017 w1018 =>
Ret P n_load_Fresh [v1017, (.slice (some a1013) 3 3)] w1018 fun v1019 w1020 =>
xTup v1019 0 fun v1021 =>
xTup v1019 1 fun v1022 =>
xFill (repL [(.int .u8 0)] 1) [(0, 1, (.int .u8 3))] fun c1023 =>
XNew w1020 c1023 5 fun a1024 w1025 =>
xFill [(.slice none 0 0), (.int .u64 0)] [(0, 1, (.slice (some a1024) 1 1)), (1, 1, (.int .u64 8))] fun c1026 =>
xFill (repL [(.slice none 0 0), (.int .u64 0)] 1) [(0, 2, (.agg c1026.toArray))] fun c1027 =>
XNew w1025 c1027 32 fun a1028 w1029 =>
Ret P n_load_Merge [v1021, (.slice (some a1028) 1 1)] w1029 fun v1030 w1031 =>
xTup v1030 0 fun v1032 =>
xTup v1030 1 fun v1033 =>
/- 0 -/ XJ (fun J1034 =>
xLen v1015 fun v1038 =>
xEq v1038 (.int .i64 2) fun v1039 =>
xIf v1039 (xIxS v1015 (.int .i64 0) 2 fun v1040 =>
xFld v1040 1 fun v1041 =>
xAt v1041 fun a1042 =>
XLd w1031 a1042 fun v1043 =>
xEq v1043 (.int .u64 6) fun v1044 =>
xIf v1044 (xIxS v1015 (.int .i64 1) 2 fun v1045 =>
xFld v1045 1 fun v1046 =>
xAt v1046 fun a1047 =>
XLd w1031 a1047 fun v1048 =>
xEq v1048 (.int .u64 7) fun v1049 =>
xIf v1049 (Ret P n_tree_Version_Len [v1021] w1031 fun v1050 w1051 =>
xEq v1050 (.int .i64 2) fun v1052 =>
xIf v1052 (xEq v1022 (.int .i64 0) fun v1053 =>
xIf v1053 (Ret P n_tree_Version_Len [v1032] w1051 fun v1054 w1055 =>
xEq v1054 (.int .i64 3) fun v1056 =>
xIf v1056 (xEq v1033 (.int .i64 0) fun v1057 =>
J1034 [v1057] w1055) (J1034 [(.bool false)] w1055)) (J1034 [(.bool false)] w1051)) (J1034 [(.bool false)] w1051)) (J1034 [(.bool false)] w1031)) (J1034 [(.bool false)] w1031)) (J1034 [(.bool false)] w1031)) fun vs1035 g1036 w1037 =>
K (vs1035.getD 0 undef) w1037
theorem W_law21_alive {K : Value → World → Prop} {w : World} (h : S_law21_alive  K w) : Ret P n_law21_alive [] w K :=
  vcF_of mixed Tryz.func8 (show S_law21_alive  K w = vcF P Tryz.f8 [] w K from by kernel_rfl) h
/- spunyarn/spunyarnlaw21.pairs -/
/- S_law21_pairs_l1: 0=slot 8 1=slot 3 out -/
def S_law21_pairs_l1 (K : Value → World → Prop) (a0 : Value) (v1000 : Value) (I1001 : Nat → List Value → World → Prop) (n1002 : Nat) (vs1003 : List Value) (g1004 : Nat → Value) (w1005 : World) : Prop :=
xLt (vs1003.getD 0 undef) v1000 fun v1006 =>
xIf v1006 (xIxS a0 (vs1003.getD 0 undef) 2 fun v1007 =>
xAt v1007 fun a1008 =>
XLdN w1005 a1008 2 fun v1009 =>
XNew w1005 [(.slice none 0 0), (.int .u64 0)] 30 fun a1010 w1011 =>
XDo P (storeVar 30 a1010 v1009) w1011 fun w1012 =>
XLdN w1012 a1010 2 fun v1013 =>
xFill (repL [(.slice none 0 0), (.int .u64 0)] 1) [(0, 2, v1013)] fun c1014 =>
XNew w1012 c1014 32 fun a1015 w1016 =>
XRun P (Builtin.append_ #[26, 26] 26 #[(vs1003.getD 1 undef), (.slice (some a1015) 1 1)]) w1016 fun v1017 w1018 =>
xAdd (vs1003.getD 0 undef) (.int .i64 1) fun v1019 =>
XNext I1001 n1002 [v1019, v1017] w1018) (K (vs1003.getD 1 undef) w1005)
abbrev S_law21_pairs (a0 : Value) (K : Value → World → Prop) (w0 : World) : Prop :=
xLen a0 fun v1000 =>
XLoop [(.int .i64 0), (.slice none 0 0)] w0 (S_law21_pairs_l1 K a0 v1000)
theorem W_law21_pairs {a0 : Value} {K : Value → World → Prop} {w : World} (h : S_law21_pairs a0 K w) : Ret P n_law21_pairs [a0] w K :=
  vcF_of mixed Tryz.func14 (show S_law21_pairs a0 K w = vcF P Tryz.f14 [a0] w K from by kernel_rfl) h
/- spunyarn/spunyarnlaw21.same -/
/- S_law21_same_l1: 0=slot 10 1=slot 5 l -/
def S_law21_same_l1 (K : Value → World → Prop) (a0 : Value) (a1 : Value) (v1000 : Value) (I1001 : Nat → List Value → World → Prop) (n1002 : Nat) (vs1003 : List Value) (g1004 : Nat → Value) (w1005 : World) : Prop :=
xLt (vs1003.getD 0 undef) v1000 fun v1006 =>
xIf v1006 (xIxS a0 (vs1003.getD 0 undef) 2 fun v1007 =>
xAt v1007 fun a1008 =>
XLdN w1005 a1008 2 fun v1009 =>
XNew w1005 [(.slice none 0 0), (.int .u64 0)] 32 fun a1010 w1011 =>
XDo P (storeVar 32 a1010 v1009) w1011 fun w1012 =>
XLdN w1012 a1010 2 fun v1013 =>
xFill (repL [(.slice none 0 0), (.int .u64 0)] 1) [(0, 2, v1013)] fun c1014 =>
XNew w1012 c1014 30 fun a1015 w1016 =>
XRun P (Builtin.append_ #[22, 22] 22 #[(vs1003.getD 1 undef), (.slice (some a1015) 1 1)]) w1016 fun v1017 w1018 =>
xAdd (vs1003.getD 0 undef) (.int .i64 1) fun v1019 =>
XNext I1001 n1002 [v1019, v1017] w1018) (Ret P n_ref19_Same [(vs1003.getD 1 undef), a1] w1005 fun v1020 w1021 =>
K v1020 w1021)
abbrev S_law21_same (a0 : Value) (a1 : Value) (K : Value → World → Prop) (w0 : World) : Prop :=
xLen a0 fun v1000 =>
XLoop [(.int .i64 0), (.slice none 0 0)] w0 (S_law21_same_l1 K a0 a1 v1000)
theorem W_law21_same {a0 a1 : Value} {K : Value → World → Prop} {w : World} (h : S_law21_same a0 a1 K w) : Ret P n_law21_same [a0, a1] w K :=
  vcF_of mixed Tryz.func16 (show S_law21_same a0 a1 K w = vcF P Tryz.f16 [a0, a1] w K from by kernel_rfl) h
end Go.Proofs.YtlhjfenpmnejoaaGreatDoor
