/-  Written by gen.py for this claim: of each function a form without frames, the same as the engine's condition by reckoning.  -/
import Derived.Test.YtbleadagnpckbaaGreatDoorSN
import Derived.Test.YtbleadagnpckbaaGreatDoorProg
namespace Go.Proofs.YtbleadagnpckbaaGreatDoor
open Go X
set_option linter.unusedVariables false
set_option maxRecDepth 100000
/- spunyarn/spunyarnlaw21.LoadMerge -/
/- S_law21_LoadMerge_l1: 0=slot 106 1=slot 21 one -/
def S_law21_LoadMerge_l1 (K : Value → World → Prop) (v1028 : Value) (v1032 : Value) (v1044 : Value) (v1065 : Value) (I1066 : Nat → List Value → World → Prop) (n1067 : Nat) (vs1068 : List Value) (g1069 : Nat → Value) (w1070 : World) : Prop :=
xLt (vs1068.getD 0 undef) v1065 fun v1071 =>
xIf v1071 (xIxS v1028 (vs1068.getD 0 undef) 2 fun v1072 =>
xAt v1072 fun a1073 =>
XLdN w1070 a1073 2 fun v1074 =>
XNew w1070 [(.slice none 0 0), (.int .u64 0)] 102 fun a1075 w1076 =>
XDo P (storeVar 102 a1075 v1074) w1076 fun w1077 =>
XLd w1077 (a1075.add 0) fun v1078 =>
XLd w1077 (a1075.add 1) fun v1079 =>
Ret P n_tree_Version_Put [(vs1068.getD 1 undef), v1078, v1079] w1077 fun v1080 w1081 =>
xTup v1080 0 fun v1082 =>
xTup v1080 1 fun v1083 =>
xAdd (vs1068.getD 0 undef) (.int .i64 1) fun v1084 =>
XNext I1066 n1067 [v1084, v1082] w1081) (Ret P n_load_Merge [(.pointer none), v1028] w1070 fun v1085 w1086 =>
xTup v1085 0 fun v1087 =>
xTup v1085 1 fun v1088 =>
/- 0 -/ XJ (fun J1089 =>
Ret P n_tree_Version_Shape [v1032] w1086 fun v1093 w1094 =>
Ret P n_tree_Version_Shape [v1044] w1094 fun v1095 w1096 =>
xSEq v1093 v1095 fun v1097 =>
xIf v1097 (Ret P n_tree_Version_Shape [(vs1068.getD 1 undef)] w1096 fun v1098 w1099 =>
Ret P n_tree_Version_Shape [v1032] w1099 fun v1100 w1101 =>
xSEq v1098 v1100 fun v1102 =>
xIf v1102 (xEq v1088 (.int .i64 2) fun v1103 =>
xIf v1103 (Ret P n_law21_alive [] w1101 fun v1104 w1105 =>
J1089 [v1104] w1105) (J1089 [(.bool false)] w1101)) (J1089 [(.bool false)] w1101)) (J1089 [(.bool false)] w1096)) fun vs1090 g1091 w1092 =>
K (vs1090.getD 0 undef) w1092)
abbrev S_law21_LoadMerge (a0 : Value) (a1 : Value) (a2 : Value) (K : Value → World → Prop) (w0 : World) : Prop :=
/- 0 -/ XJ (fun J1000 =>
Ret P n_law21_far [a0, (.int .i64 60)] w0 fun v1004 w1005 =>
xIf v1004 (J1000 [(.bool true)] w1005) (Ret P n_law21_far [a1, (.int .i64 40)] w1005 fun v1006 w1007 =>
xIf v1006 (J1000 [(.bool true)] w1007) (Ret P n_law21_far [a2, (.int .i64 40)] w1007 fun v1008 w1009 =>
J1000 [v1008] w1009))) fun vs1001 g1002 w1003 =>
xIf (vs1001.getD 0 undef) (Ret P n_law21_alive [] w1003 fun v1010 w1011 =>
K v1010 w1011) (Ret P n_tree_New [] w1003 fun v1012 w1013 =>
Ret P n_law21_pairs [a0] w1013 fun v1014 w1015 =>
Ret P n_load_Fresh [v1012, v1014] w1015 fun v1016 w1017 =>
xTup v1016 0 fun v1018 =>
xTup v1016 1 fun v1019 =>
Ret P n_tree_World_From [v1012, (.slice none 0 0)] w1017 fun v1020 w1021 =>
xTup v1020 0 fun v1022 =>
xTup v1020 1 fun v1023 =>
Ret P n_law21_pairs [a1] w1021 fun v1024 w1025 =>
Ret P n_law21_pairs [a2] w1025 fun v1026 w1027 =>
XRun P (Builtin.append_ #[93, 93] 93 #[v1024, v1026]) w1027 fun v1028 w1029 =>
Ret P n_load_Merge [v1018, v1028] w1029 fun v1030 w1031 =>
xTup v1030 0 fun v1032 =>
xTup v1030 1 fun v1033 =>
Ret P n_law21_pairs [a1] w1031 fun v1034 w1035 =>
Ret P n_load_Merge [v1018, v1034] w1035 fun v1036 w1037 =>
xTup v1036 0 fun v1038 =>
xTup v1036 1 fun v1039 =>
Ret P n_law21_pairs [a2] w1037 fun v1040 w1041 =>
Ret P n_load_Merge [v1038, v1040] w1041 fun v1042 w1043 =>
xTup v1042 0 fun v1044 =>
xTup v1042 1 fun v1045 =>
Ret P n_law21_pairs [a0] w1043 fun v1046 w1047 =>
Ret P n_load_Merge [v1022, v1046] w1047 fun v1048 w1049 =>
xTup v1048 0 fun v1050 =>
xTup v1048 1 fun v1051 =>
/- 0 -/ XJ (fun J1052 =>
xNe v1033 (.int .i64 0) fun v1056 =>
xIf v1056 (J1052 [(.bool true)] w1049) (xNe v1039 (.int .i64 0) fun v1057 =>
xIf v1057 (J1052 [(.bool true)] w1049) (xNe v1045 (.int .i64 0) fun v1058 =>
xIf v1058 (J1052 [(.bool true)] w1049) (xNe v1051 (.int .i64 0) fun v1059 =>
xIf v1059 (J1052 [(.bool true)] w1049) (Ret P n_tree_Version_Shape [v1050] w1049 fun v1060 w1061 =>
Ret P n_tree_Version_Shape [v1018] w1061 fun v1062 w1063 =>
xSNe v1060 v1062 fun v1064 =>
J1052 [v1064] w1063))))) fun vs1053 g1054 w1055 =>
xIf (vs1053.getD 0 undef) (K (.bool false) w1055) (xLen v1028 fun v1065 =>
XLoop [(.int .i64 0), v1018] w1055 (S_law21_LoadMerge_l1 K v1028 v1032 v1044 v1065)))
theorem W_law21_LoadMerge {a0 a1 a2 : Value} {K : Value → World → Prop} {w : World} (h : S_law21_LoadMerge a0 a1 a2 K w) : Ret P n_law21_LoadMerge [a0, a1, a2] w K :=
  vcF_of mixed Tryz.func18 (show S_law21_LoadMerge a0 a1 a2 K w = vcF P Tryz.f18 [a0, a1, a2] w K from by kernel_rfl) h
/- spunyarn/spunyarnlaw20.TransSame -/
/- S_law20_TransSame_l1: 0=slot 84 -/
def S_law20_TransSame_l1 (K : Value → World → Prop) (a0 : Value) (v1018 : Value) (v1022 : Value) (v1026 : Value) (vs1039 : List Value) (v1060 : Value) (I1061 : Nat → List Value → World → Prop) (n1062 : Nat) (vs1063 : List Value) (g1064 : Nat → Value) (w1065 : World) : Prop :=
xLt (vs1063.getD 0 undef) v1060 fun v1066 =>
xIf v1066 (xIxS a0 (vs1063.getD 0 undef) 2 fun v1067 =>
xAt v1067 fun a1068 =>
XLdN w1065 a1068 2 fun v1069 =>
XNew w1065 [(.slice none 0 0), (.int .u64 0)] 52 fun a1070 w1071 =>
XDo P (storeVar 52 a1070 v1069) w1071 fun w1072 =>
xFill (repL [(.int .u8 0)] 3) [(0, 1, (.int .u8 1)), (1, 1, (.int .u8 2)), (2, 1, (.int .u8 3))] fun c1073 =>
XNew w1072 c1073 5 fun a1074 w1075 =>
XRun P (Builtin.append_ #[50, 3] 50 #[(.slice (some a1074) 3 3), (.int .i64 301)]) w1075 fun v1076 w1077 =>
Ret P n_trans_Trans_Del [v1026, v1076] w1077 fun v1078 w1079 =>
XLd w1079 (a1070.add 0) fun v1080 =>
Ret P n_trans_Trans_Get [v1026, v1080] w1079 fun v1081 w1082 =>
xAdd (vs1063.getD 0 undef) (.int .i64 1) fun v1083 =>
XNext I1061 n1062 [v1083] w1082) (Ret P n_trans_Trans_Freeze [v1022] w1065 fun v1084 w1085 =>
xTup v1084 0 fun v1086 =>
xTup v1084 1 fun v1087 =>
Ret P n_trans_Trans_Freeze [v1026] w1085 fun v1088 w1089 =>
xTup v1088 0 fun v1090 =>
xTup v1088 1 fun v1091 =>
/- 0 -/ XJ (fun J1092 =>
xEq v1087 (.int .i64 0) fun v1096 =>
xIf v1096 (xEq v1091 (.int .i64 0) fun v1097 =>
xIf v1097 (Ret P n_tree_Version_Shape [(vs1039.getD 1 undef)] w1089 fun v1098 w1099 =>
Ret P n_tree_Version_Shape [v1086] w1099 fun v1100 w1101 =>
xSEq v1098 v1100 fun v1102 =>
xIf v1102 (Ret P n_tree_Version_Len [(vs1039.getD 1 undef)] w1101 fun v1103 w1104 =>
Ret P n_tree_Version_Len [v1086] w1104 fun v1105 w1106 =>
xEq v1103 v1105 fun v1107 =>
xIf v1107 (xPEq P w1106 v1090 v1018 fun v1108 =>
xIf v1108 (Ret P n_law20_alive [] w1106 fun v1109 w1110 =>
J1092 [v1109] w1110) (J1092 [(.bool false)] w1106)) (J1092 [(.bool false)] w1106)) (J1092 [(.bool false)] w1101)) (J1092 [(.bool false)] w1089)) (J1092 [(.bool false)] w1089)) fun vs1093 g1094 w1095 =>
K (vs1093.getD 0 undef) w1095)
/- S_law20_TransSame_l2: 0=slot 62 1=slot 11 x -/
def S_law20_TransSame_l2 (K : Value → World → Prop) (a0 : Value) (a1 : Value) (v1018 : Value) (v1022 : Value) (v1026 : Value) (v1036 : Value) (I1037 : Nat → List Value → World → Prop) (n1038 : Nat) (vs1039 : List Value) (g1040 : Nat → Value) (w1041 : World) : Prop :=
xLt (vs1039.getD 0 undef) v1036 fun v1042 =>
xIf v1042 (xIxS a1 (vs1039.getD 0 undef) 2 fun v1043 =>
xAt v1043 fun a1044 =>
XLdN w1041 a1044 2 fun v1045 =>
XNew w1041 [(.slice none 0 0), (.int .u64 0)] 52 fun a1046 w1047 =>
XDo P (storeVar 52 a1046 v1045) w1047 fun w1048 =>
XLd w1048 (a1046.add 0) fun v1049 =>
XLd w1048 (a1046.add 1) fun v1050 =>
Ret P n_trans_Trans_Put [v1022, v1049, v1050] w1048 fun v1051 w1052 =>
XLd w1052 (a1046.add 0) fun v1053 =>
XLd w1052 (a1046.add 1) fun v1054 =>
Ret P n_tree_Version_Put [(vs1039.getD 1 undef), v1053, v1054] w1052 fun v1055 w1056 =>
xTup v1055 0 fun v1057 =>
xTup v1055 1 fun v1058 =>
xAdd (vs1039.getD 0 undef) (.int .i64 1) fun v1059 =>
XNext I1037 n1038 [v1059, v1057] w1056) (xLen a0 fun v1060 =>
XLoop [(.int .i64 0)] w1041 (S_law20_TransSame_l1 K a0 v1018 v1022 v1026 vs1039 v1060))
abbrev S_law20_TransSame (a0 : Value) (a1 : Value) (K : Value → World → Prop) (w0 : World) : Prop :=
/- 0 -/ XJ (fun J1000 =>
Ret P n_law20_far [a0, (.int .i64 100)] w0 fun v1004 w1005 =>
xIf v1004 (J1000 [(.bool true)] w1005) (Ret P n_law20_far [a1, (.int .i64 40)] w1005 fun v1006 w1007 =>
J1000 [v1006] w1007)) fun vs1001 g1002 w1003 =>
xIf (vs1001.getD 0 undef) (Ret P n_law20_alive [] w1003 fun v1008 w1009 =>
K v1008 w1009) (Ret P n_tree_New [] w1003 fun v1010 w1011 =>
Ret P n_ref13_Sort [a0] w1011 fun v1012 w1013 =>
Ret P n_law20_pairs [v1012] w1013 fun v1014 w1015 =>
Ret P n_tree_World_From [v1010, v1014] w1015 fun v1016 w1017 =>
xTup v1016 0 fun v1018 =>
xTup v1016 1 fun v1019 =>
Ret P n_trans_Edit [v1018] w1017 fun v1020 w1021 =>
xTup v1020 0 fun v1022 =>
xTup v1020 1 fun v1023 =>
Ret P n_trans_Edit [v1018] w1021 fun v1024 w1025 =>
xTup v1024 0 fun v1026 =>
xTup v1024 1 fun v1027 =>
/- 0 -/ XJ (fun J1028 =>
xPEq P w1025 v1022 (.pointer none) fun v1032 =>
xIf v1032 (J1028 [(.bool true)] w1025) (xPEq P w1025 v1026 (.pointer none) fun v1033 =>
xIf v1033 (J1028 [(.bool true)] w1025) (xNe v1023 (.int .i64 0) fun v1034 =>
xIf v1034 (J1028 [(.bool true)] w1025) (xNe v1027 (.int .i64 0) fun v1035 =>
J1028 [v1035] w1025)))) fun vs1029 g1030 w1031 =>
xIf (vs1029.getD 0 undef) (K (.bool false) w1031) (xLen a1 fun v1036 =>
XLoop [(.int .i64 0), v1018] w1031 (S_law20_TransSame_l2 K a0 a1 v1018 v1022 v1026 v1036)))
theorem W_law20_TransSame {a0 a1 : Value} {K : Value → World → Prop} {w : World} (h : S_law20_TransSame a0 a1 K w) : Ret P n_law20_TransSame [a0, a1] w K :=
  vcF_of mixed Tryz.func19 (show S_law20_TransSame a0 a1 K w = vcF P Tryz.f19 [a0, a1] w K from by kernel_rfl) h
/- spunyarn/spunyarnlaw20.TransNobody -/
/- S_law20_TransNobody_l1: 0=slot 46 1=slot 10 t 2=slot 11 was 3=slot 12 e 4=slot 13 v 5=slot 14 is 6=slot 15 f 7=slot 16 n 8=slot 17 g 9=slot 18 l 10=slot 19 h 11=slot 20 x 12=slot 21 i 13=slot 4 -/
def S_law20_TransNobody_l1 (K : Value → World → Prop) (a0 : Value) (a1 : Value) (a1031 : Addr) (v1033 : Value) (I1034 : Nat → List Value → World → Prop) (n1035 : Nat) (vs1036 : List Value) (g1037 : Nat → Value) (w1038 : World) : Prop :=
xLt (vs1036.getD 0 undef) v1033 fun v1039 =>
xIf v1039 (xIxS (.slice (some a1031) 2 2) (vs1036.getD 0 undef) 1 fun v1040 =>
xAt v1040 fun a1041 =>
XLd w1038 a1041 fun v1042 =>
Ret P n_trans_Trans_Del [v1042, a0] w1038 fun v1043 w1044 =>
xTup v1043 0 fun v1045 =>
xTup v1043 1 fun v1046 =>
Ret P n_trans_Trans_Get [v1042, a0] w1044 fun v1047 w1048 =>
xTup v1047 0 fun v1049 =>
xTup v1047 1 fun v1050 =>
xTup v1047 2 fun v1051 =>
Ret P n_trans_Trans_Len [v1042] w1048 fun v1052 w1053 =>
xTup v1052 0 fun v1054 =>
xTup v1052 1 fun v1055 =>
Ret P n_trans_Trans_List [v1042] w1053 fun v1056 w1057 =>
xTup v1056 0 fun v1058 =>
xTup v1056 1 fun v1059 =>
Ret P n_trans_Trans_Freeze [v1042] w1057 fun v1060 w1061 =>
xTup v1060 0 fun v1062 =>
xTup v1060 1 fun v1063 =>
/- 0 -/ XJ (fun J1064 =>
Ret P n_trans_Trans_Put [v1042, a0, a1] w1061 fun v1068 w1069 =>
xNe v1068 (.int .i64 2) fun v1070 =>
xIf v1070 (J1064 [(.bool true)] w1069) (xNe v1046 (.int .i64 2) fun v1071 =>
xIf v1071 (J1064 [(.bool true)] w1069) (xNe v1051 (.int .i64 2) fun v1072 =>
xIf v1072 (J1064 [(.bool true)] w1069) (xNe v1055 (.int .i64 2) fun v1073 =>
xIf v1073 (J1064 [(.bool true)] w1069) (xNe v1059 (.int .i64 2) fun v1074 =>
xIf v1074 (J1064 [(.bool true)] w1069) (xNe v1063 (.int .i64 2) fun v1075 =>
J1064 [v1075] w1069)))))) fun vs1065 g1066 w1067 =>
xIf (vs1065.getD 0 undef) (K (.bool false) w1067) (/- 0 -/ XJ (fun J1076 =>
xIf v1045 (J1076 [(.bool true)] w1067) (xNe v1049 (.int .u64 0) fun v1080 =>
xIf v1080 (J1076 [(.bool true)] w1067) (xIf v1050 (J1076 [(.bool true)] w1067) (xLen v1058 fun v1081 =>
xAdd v1054 v1081 fun v1082 =>
xNe v1082 (.int .i64 0) fun v1083 =>
xIf v1083 (J1076 [(.bool true)] w1067) (xPNe P w1067 v1062 (.pointer none) fun v1084 =>
xIf v1084 (J1076 [(.bool true)] w1067) (Ret P n_trans_Trans_Owner [v1042] w1067 fun v1085 w1086 =>
xNe v1085 (.int .u64 0) fun v1087 =>
xIf v1087 (J1076 [(.bool true)] w1086) (Ret P n_trans_Trans_Frozen [v1042] w1086 fun v1088 w1089 =>
J1076 [v1088] w1089))))))) fun vs1077 g1078 w1079 =>
xIf (vs1077.getD 0 undef) (K (.bool false) w1079) (xAdd (vs1036.getD 0 undef) (.int .i64 1) fun v1090 =>
XNext I1034 n1035 [v1090, v1042, v1045, v1046, v1049, v1050, v1051, v1054, v1055, v1058, v1059, v1062, v1063, (vs1036.getD 13 undef)] w1079))) (Ret P n_law20_alive [] w1038 fun v1091 w1092 =>
K v1091 w1092)
/- S_law20_TransNobody_l2: 0=slot 26 1=slot 6 v 2=slot 7 t 3=slot 8 e 4=slot 4 -/
def S_law20_TransNobody_l2 (K : Value → World → Prop) (a0 : Value) (a1 : Value) (a1004 : Addr) (v1006 : Value) (I1007 : Nat → List Value → World → Prop) (n1008 : Nat) (vs1009 : List Value) (g1010 : Nat → Value) (w1011 : World) : Prop :=
xLt (vs1009.getD 0 undef) v1006 fun v1012 =>
xIf v1012 (xIxS (.slice (some a1004) 2 2) (vs1009.getD 0 undef) 1 fun v1013 =>
xAt v1013 fun a1014 =>
XLd w1011 a1014 fun v1015 =>
Ret P n_trans_Edit [v1015] w1011 fun v1016 w1017 =>
xTup v1016 0 fun v1018 =>
xTup v1016 1 fun v1019 =>
/- 0 -/ XJ (fun J1020 =>
xPNe P w1017 v1018 (.pointer none) fun v1024 =>
xIf v1024 (J1020 [(.bool true)] w1017) (xNe v1019 (.int .i64 2) fun v1025 =>
J1020 [v1025] w1017)) fun vs1021 g1022 w1023 =>
xIf (vs1021.getD 0 undef) (K (.bool false) w1023) (xAdd (vs1009.getD 0 undef) (.int .i64 1) fun v1026 =>
XNext I1007 n1008 [v1026, v1015, v1018, v1019, (vs1009.getD 4 undef)] w1023)) (xFill [(.pointer none), (.int .u64 0), (.pointer none), (.int .i64 0), (.bool false)] [] fun c1027 =>
XNew w1011 (cellsV (.agg c1027.toArray)) 149 fun a1028 w1029 =>
xFill (repL [(.pointer none)] 2) [(0, 1, (.pointer none)), (1, 1, (.pointer (some a1028)))] fun c1030 =>
XNew w1029 c1030 106 fun a1031 w1032 =>
xLen (.slice (some a1031) 2 2) fun v1033 =>
XLoop [(.int .i64 0), undef, undef, undef, undef, undef, undef, undef, undef, undef, undef, undef, undef, (vs1009.getD 4 undef)] w1032 (S_law20_TransNobody_l1 K a0 a1 a1031 v1033))
abbrev S_law20_TransNobody (a0 : Value) (a1 : Value) (K : Value → World → Prop) (w0 : World) : Prop :=
xFill [(.pointer none), (.pointer none), (.int .u32 0), (.int .i32 0), (.int .u32 0), (.int .i64 0), (.bool false)] [] fun c1000 =>
XNew w0 (cellsV (.agg c1000.toArray)) 144 fun a1001 w1002 =>
xFill (repL [(.pointer none)] 2) [(0, 1, (.pointer none)), (1, 1, (.pointer (some a1001)))] fun c1003 =>
XNew w1002 c1003 88 fun a1004 w1005 =>
xLen (.slice (some a1004) 2 2) fun v1006 =>
XLoop [(.int .i64 0), undef, undef, undef, (.bool false)] w1005 (S_law20_TransNobody_l2 K a0 a1 a1004 v1006)
theorem W_law20_TransNobody {a0 a1 : Value} {K : Value → World → Prop} {w : World} (h : S_law20_TransNobody a0 a1 K w) : Ret P n_law20_TransNobody [a0, a1] w K :=
  vcF_of mixed Tryz.func20 (show S_law20_TransNobody a0 a1 K w = vcF P Tryz.f20 [a0, a1] w K from by kernel_rfl) h
/- spunyarn/spunyarnlaw19.TreeNobody -/
/- S_law19_TreeNobody_l1: 0=slot 59 1=slot 9 v 2=slot 10 a 3=slot 11 e 4=slot 12 b 5=slot 13 was 6=slot 14 f 7=slot 15 c 8=slot 16 g 9=slot 17 d 10=slot 18 h 11=slot 19 u 12=slot 20 i 13=slot 4 14=slot 21 n 15=slot 22 is -/
def S_law19_TreeNobody_l1 (K : Value → World → Prop) (a0 : Value) (a1 : Value) (a1028 : Addr) (v1030 : Value) (I1031 : Nat → List Value → World → Prop) (n1032 : Nat) (vs1033 : List Value) (g1034 : Nat → Value) (w1035 : World) : Prop :=
xLt (vs1033.getD 0 undef) v1030 fun v1036 =>
xIf v1036 (xIxS (.slice (some a1028) 2 2) (vs1033.getD 0 undef) 1 fun v1037 =>
xAt v1037 fun a1038 =>
XLd w1035 a1038 fun v1039 =>
Ret P n_tree_Version_Put [v1039, a0, a1] w1035 fun v1040 w1041 =>
xTup v1040 0 fun v1042 =>
xTup v1040 1 fun v1043 =>
Ret P n_tree_Version_Del [v1039, a0] w1041 fun v1044 w1045 =>
xTup v1044 0 fun v1046 =>
xTup v1044 1 fun v1047 =>
xTup v1044 2 fun v1048 =>
Ret P n_tree_Version_Sub [v1039, a0] w1045 fun v1049 w1050 =>
xTup v1049 0 fun v1051 =>
xTup v1049 1 fun v1052 =>
Ret P n_tree_Version_Strip [v1039, a0] w1050 fun v1053 w1054 =>
xTup v1053 0 fun v1055 =>
xTup v1053 1 fun v1056 =>
Ret P n_tree_Version_Under [v1039, a0] w1054 fun v1057 w1058 =>
xTup v1057 0 fun v1059 =>
xTup v1057 1 fun v1060 =>
/- 0 -/ XJ (fun J1061 =>
xNe v1043 (.int .i64 2) fun v1065 =>
xIf v1065 (J1061 [(.bool true)] w1058) (xNe v1048 (.int .i64 2) fun v1066 =>
xIf v1066 (J1061 [(.bool true)] w1058) (xNe v1052 (.int .i64 2) fun v1067 =>
xIf v1067 (J1061 [(.bool true)] w1058) (xNe v1056 (.int .i64 2) fun v1068 =>
xIf v1068 (J1061 [(.bool true)] w1058) (xNe v1060 (.int .i64 2) fun v1069 =>
xIf v1069 (J1061 [(.bool true)] w1058) (xPNe P w1058 v1042 (.pointer none) fun v1070 =>
xIf v1070 (J1061 [(.bool true)] w1058) (xPNe P w1058 v1046 (.pointer none) fun v1071 =>
xIf v1071 (J1061 [(.bool true)] w1058) (xPNe P w1058 v1051 (.pointer none) fun v1072 =>
xIf v1072 (J1061 [(.bool true)] w1058) (xPNe P w1058 v1055 (.pointer none) fun v1073 =>
xIf v1073 (J1061 [(.bool true)] w1058) (xPNe P w1058 v1059 (.pointer none) fun v1074 =>
xIf v1074 (J1061 [(.bool true)] w1058) (J1061 [v1047] w1058))))))))))) fun vs1062 g1063 w1064 =>
xIf (vs1062.getD 0 undef) (K (.bool false) w1064) (Ret P n_tree_Version_Get [v1039, a0] w1064 fun v1075 w1076 =>
xTup v1075 0 fun v1077 =>
xTup v1075 1 fun v1078 =>
/- 0 -/ XJ (fun J1079 =>
xNe v1077 (.int .u64 0) fun v1083 =>
xIf v1083 (J1079 [(.bool true)] w1076) (xIf v1078 (J1079 [(.bool true)] w1076) (Ret P n_tree_Version_Len [v1039] w1076 fun v1084 w1085 =>
Ret P n_tree_Version_List [v1039] w1085 fun v1086 w1087 =>
xLen v1086 fun v1088 =>
xAdd v1084 v1088 fun v1089 =>
xNe v1089 (.int .i64 0) fun v1090 =>
xIf v1090 (J1079 [(.bool true)] w1087) (Ret P n_tree_Version_Shape [v1039] w1087 fun v1091 w1092 =>
xSNe v1091 (.string ⟨#[46]⟩) fun v1093 =>
xIf v1093 (J1079 [(.bool true)] w1092) (Ret P n_tree_Version_World [v1039] w1092 fun v1094 w1095 =>
xPNe P w1095 v1094 (.pointer none) fun v1096 =>
xIf v1096 (J1079 [(.bool true)] w1095) (Ret P n_tree_Version_Root [v1039] w1095 fun v1097 w1098 =>
xPNe P w1098 v1097 (.pointer none) fun v1099 =>
J1079 [v1099] w1098)))))) fun vs1080 g1081 w1082 =>
xIf (vs1080.getD 0 undef) (K (.bool false) w1082) (xAdd (vs1033.getD 0 undef) (.int .i64 1) fun v1100 =>
XNext I1031 n1032 [v1100, v1039, v1042, v1043, v1046, v1047, v1048, v1051, v1052, v1055, v1056, v1059, v1060, (vs1033.getD 13 undef), v1077, v1078] w1082))) (Ret P n_law19_alive [] w1035 fun v1101 w1102 =>
K v1101 w1102)
abbrev S_law19_TreeNobody (a0 : Value) (a1 : Value) (K : Value → World → Prop) (w0 : World) : Prop :=
Ret P n_tree_World_From [(.pointer none), (.slice none 0 0)] w0 fun v1000 w1001 =>
xTup v1000 0 fun v1002 =>
xTup v1000 1 fun v1003 =>
/- 0 -/ XJ (fun J1004 =>
Ret P n_tree_World_Made [(.pointer none)] w1001 fun v1008 w1009 =>
xNe v1008 (.int .i64 0) fun v1010 =>
xIf v1010 (J1004 [(.bool true)] w1009) (Ret P n_tree_World_Owner [(.pointer none)] w1009 fun v1011 w1012 =>
xNe v1011 (.int .u64 0) fun v1013 =>
xIf v1013 (J1004 [(.bool true)] w1012) (Ret P n_tree_World_Meter [(.pointer none)] w1012 fun v1014 w1015 =>
Ret P n_meter_Meter_Count [v1014] w1015 fun v1016 w1017 =>
xNe v1016 (.int .i64 0) fun v1018 =>
xIf v1018 (J1004 [(.bool true)] w1017) (Ret P n_tree_World_Version [(.pointer none), (.pointer none)] w1017 fun v1019 w1020 =>
xPNe P w1020 v1019 (.pointer none) fun v1021 =>
xIf v1021 (J1004 [(.bool true)] w1020) (xPNe P w1020 v1002 (.pointer none) fun v1022 =>
xIf v1022 (J1004 [(.bool true)] w1020) (xNe v1003 (.int .i64 2) fun v1023 =>
J1004 [v1023] w1020)))))) fun vs1005 g1006 w1007 =>
xIf (vs1005.getD 0 undef) (K (.bool false) w1007) (xFill [(.pointer none), (.pointer none), (.int .u32 0), (.int .i32 0), (.int .u32 0), (.int .i64 0), (.bool false)] [] fun c1024 =>
XNew w1007 (cellsV (.agg c1024.toArray)) 144 fun a1025 w1026 =>
xFill (repL [(.pointer none)] 2) [(0, 1, (.pointer none)), (1, 1, (.pointer (some a1025)))] fun c1027 =>
XNew w1026 c1027 88 fun a1028 w1029 =>
xLen (.slice (some a1028) 2 2) fun v1030 =>
XLoop [(.int .i64 0), undef, undef, undef, undef, undef, undef, undef, undef, undef, undef, undef, undef, (.bool false), undef, undef] w1029 (S_law19_TreeNobody_l1 K a0 a1 a1028 v1030))
theorem W_law19_TreeNobody {a0 a1 : Value} {K : Value → World → Prop} {w : World} (h : S_law19_TreeNobody a0 a1 K w) : Ret P n_law19_TreeNobody [a0, a1] w K :=
  vcF_of mixed Tryz.func22 (show S_law19_TreeNobody a0 a1 K w = vcF P Tryz.f22 [a0, a1] w K from by kernel_rfl) h
/- spunyarn/union.Pick -/
abbrev S_union_Pick (a0 : Value) (a1 : Value) (a2 : Value) (K : Value → World → Prop) (w0 : World) : Prop :=
Ret P n_union_find [a0] w0 fun v1000 w1001 =>
xTup v1000 0 fun v1002 =>
xTup v1000 1 fun v1003 =>
XNew w1001 [.nilFunc, (.bool false)] 178 fun a1004 w1005 =>
XDo P (storeVar 178 a1004 v1002) w1005 fun w1006 =>
xNe v1003 (.int .i64 0) fun v1007 =>
xIf v1007 (K (.tuple #[(.int .u64 0), v1003]) w1006) (XLd w1006 (a1004.add 0) fun v1008 =>
xFunc v1008 [a1, a2] fun f1009 xs1010 =>
xCall P f1009 xs1010 w1006 fun v1011 w1012 =>
K (.tuple #[v1011, (.int .i64 0)]) w1012)
theorem W_union_Pick {a0 a1 a2 : Value} {K : Value → World → Prop} {w : World} (h : S_union_Pick a0 a1 a2 K w) : Ret P n_union_Pick [a0, a1, a2] w K :=
  vcF_of mixed Tryz.func24 (show S_union_Pick a0 a1 a2 K w = vcF P Tryz.f24 [a0, a1, a2] w K from by kernel_rfl) h
/- spunyarn/spunyarnref24.Pick -/
abbrev S_ref24_Pick (a0 : Value) (a1 : Value) (a2 : Value) (K : Value → World → Prop) (w0 : World) : Prop :=
xEq a0 (.int .i64 1) fun v1000 =>
xIf v1000 (K (.tuple #[a1, (.int .i64 0)]) w0) (xEq a0 (.int .i64 2) fun v1001 =>
xIf v1001 (K (.tuple #[a2, (.int .i64 0)]) w0) (xEq a0 (.int .i64 3) fun v1002 =>
xIf v1002 (xAdd a1 a2 fun v1003 =>
K (.tuple #[v1003, (.int .i64 0)]) w0) (xEq a0 (.int .i64 4) fun v1004 =>
xIf v1004 (xMin a1 a2 fun v1005 =>
K (.tuple #[v1005, (.int .i64 0)]) w0) (xEq a0 (.int .i64 5) fun v1006 =>
xIf v1006 (xMax a1 a2 fun v1007 =>
K (.tuple #[v1007, (.int .i64 0)]) w0) (K (.tuple #[(.int .u64 0), (.int .i64 1)]) w0)))))
theorem W_ref24_Pick {a0 a1 a2 : Value} {K : Value → World → Prop} {w : World} (h : S_ref24_Pick a0 a1 a2 K w) : Ret P n_ref24_Pick [a0, a1, a2] w K :=
  vcF_of mixed Tryz.func25 (show S_ref24_Pick a0 a1 a2 K w = vcF P Tryz.f25 [a0, a1, a2] w K from by kernel_rfl) h
/- spunyarn/union.Of -/
abbrev S_union_Of (a0 : Value) (a1 : Value) (a2 : Value) (a3 : Value) (a4 : Value) (K : Value → World → Prop) (w0 : World) : Prop :=
Ret P n_union_find [a0] w0 fun v1000 w1001 =>
xTup v1000 0 fun v1002 =>
xTup v1000 1 fun v1003 =>
XNew w1001 [.nilFunc, (.bool false)] 178 fun a1004 w1005 =>
XDo P (storeVar 178 a1004 v1002) w1005 fun w1006 =>
/- 0 -/ XJ (fun J1007 =>
xNe v1003 (.int .i64 0) fun v1011 =>
xIf v1011 (J1007 [(.bool true)] w1006) (xEq a3 (.int .u64 0) fun v1012 =>
J1007 [v1012] w1006)) fun vs1008 g1009 w1010 =>
xIf (vs1008.getD 0 undef) (K (.tuple #[(.pointer none), (.int .i64 1)]) w1010) (XLdN w1010 a1004 2 fun v1013 =>
xFill [.nilFunc, (.bool false), (.int .u64 0), (.pointer none)] [(0, 2, v1013), (2, 1, a3), (3, 1, a4)] fun c1014 =>
xFill [(.pointer none), (.int .i64 0)] [(0, 1, a1)] fun c1015 =>
xFill [(.pointer none), (.int .i64 0)] [(0, 1, a2)] fun c1016 =>
Ret P n_union_joiner_of [(.agg c1014.toArray), (.agg c1015.toArray), (.agg c1016.toArray)] w1010 fun v1017 w1018 =>
K (.tuple #[v1017, (.int .i64 0)]) w1018)
theorem W_union_Of {a0 a1 a2 a3 a4 : Value} {K : Value → World → Prop} {w : World} (h : S_union_Of a0 a1 a2 a3 a4 K w) : Ret P n_union_Of [a0, a1, a2, a3, a4] w K :=
  vcF_of mixed Tryz.func26 (show S_union_Of a0 a1 a2 a3 a4 K w = vcF P Tryz.f26 [a0, a1, a2, a3, a4] w K from by kernel_rfl) h
/- spunyarn/spunyarnlaw24.alive -/
abbrev S_law24_alive  (K : Value → World → Prop) (w0 : World) : Prop :=
xFill (repL [(.int .u8 0)] 1) [(0, 1, (.int .u8 1))] fun c1000 =>
XNew w0 c1000 5 fun a1001 w1002 =>
xFill [(.slice none 0 0), (.int .u64 0)] [(0, 1, (.slice (some a1001) 1 1)), (1, 1, (.int .u64 5))] fun c1003 =>
xFill (repL [(.slice none 0 0), (.int .u64 0)] 1) [(0, 2, (.agg c1003.toArray))] fun c1004 =>
XNew w1002 c1004 52 fun a1005 w1006 =>
Ret P n_law24_tree [(.slice (some a1005) 1 1), (.int .u64 1)] w1006 fun v1007 w1008 =>
xFill (repL [(.int .u8 0)] 1) [(0, 1, (.int .u8 1))] fun c1009 =>
XNew w1008 c1009 5 fun a1010 w1011 =>
xFill [(.slice none 0 0), (.int .u64 0)] [(0, 1, (.slice (some a1010) 1 1)), (1, 1, (.int .u64 6))] fun c1012 =>
xFill (repL [(.int .u8 0)] 2) [(0, 1, (.int .u8 1)), (1, 1, (.int .u8 2))] fun c1013 =>
XNew w1011 c1013 5 fun a1014 w1015 =>
xFill [(.slice none 0 0), (.int .u64 0)] [(0, 1, (.slice (some a1014) 2 2)), (1, 1, (.int .u64 7))] fun c1016 =>
xFill (repL [(.slice none 0 0), (.int .u64 0)] 2) [(0, 2, (.agg c1012.toArray)), (2, 2, (.agg c1016.toArray))] fun c1017 =>
XNew w1015 c1017 52 fun a1018 w1019 =>
Ret P n_law24_tree [(.slice (some a1018) 2 2), (.int .u64 1)] w1019 fun v1020 w1021 =>
Ret P n_union_Of [(.int .i64 3), v1007, v1020, (.int .u64 2), (.pointer none)] w1021 fun v1022 w1023 =>
xTup v1022 0 fun v1024 =>
xTup v1022 1 fun v1025 =>
Ret P n_union_Pick [(.int .i64 5), (.int .u64 1), (.int .u64 2)] w1023 fun v1026 w1027 =>
xTup v1026 0 fun v1028 =>
xTup v1026 1 fun v1029 =>
/- 0 -/ XJ (fun J1030 =>
Ret P n_canon_Shape [v1024] w1027 fun v1034 w1035 =>
xSEq v1034 (.string ⟨#[52, 60, 48, 49, 61, 49, 49, 58, 48, 50, 76, 61, 55, 62]⟩) fun v1036 =>
xIf v1036 (xEq v1025 (.int .i64 0) fun v1037 =>
xIf v1037 (xEq v1028 (.int .u64 2) fun v1038 =>
xIf v1038 (xEq v1029 (.int .i64 0) fun v1039 =>
J1030 [v1039] w1035) (J1030 [(.bool false)] w1035)) (J1030 [(.bool false)] w1035)) (J1030 [(.bool false)] w1035)) fun vs1031 g1032 w1033 =>
K (vs1031.getD 0 undef) w1033
theorem W_law24_alive {K : Value → World → Prop} {w : World} (h : S_law24_alive  K w) : Ret P n_law24_alive [] w K :=
  vcF_of mixed Tryz.func27 (show S_law24_alive  K w = vcF P Tryz.f27 [] w K from by kernel_rfl) h
/- spunyarn/spunyarnlaw24.far -/
/- S_law24_far_l1: 0=slot 13 1=slot 4 -/
def S_law24_far_l1 (K : Value → World → Prop) (a0 : Value) (v1002 : Value) (I1003 : Nat → List Value → World → Prop) (n1004 : Nat) (vs1005 : List Value) (g1006 : Nat → Value) (w1007 : World) : Prop :=
xLt (vs1005.getD 0 undef) v1002 fun v1008 =>
xIf v1008 (xIxS a0 (vs1005.getD 0 undef) 2 fun v1009 =>
xAt v1009 fun a1010 =>
XLdN w1007 a1010 2 fun v1011 =>
XNew w1007 [(.slice none 0 0), (.int .u64 0)] 52 fun a1012 w1013 =>
XDo P (storeVar 52 a1012 v1011) w1013 fun w1014 =>
XLd w1014 (a1012.add 0) fun v1015 =>
xLen v1015 fun v1016 =>
xGt v1016 (.int .i64 300) fun v1017 =>
xIf v1017 (K (.bool true) w1014) (xAdd (vs1005.getD 0 undef) (.int .i64 1) fun v1018 =>
XNext I1003 n1004 [v1018, (vs1005.getD 1 undef)] w1014)) (K (.bool false) w1007)
abbrev S_law24_far (a0 : Value) (a1 : Value) (K : Value → World → Prop) (w0 : World) : Prop :=
xLen a0 fun v1000 =>
xGt v1000 a1 fun v1001 =>
xIf v1001 (K (.bool true) w0) (xLen a0 fun v1002 =>
XLoop [(.int .i64 0), (.bool false)] w0 (S_law24_far_l1 K a0 v1002))
theorem W_law24_far {a0 a1 : Value} {K : Value → World → Prop} {w : World} (h : S_law24_far a0 a1 K w) : Ret P n_law24_far [a0, a1] w K :=
  vcF_of mixed Tryz.func28 (show S_law24_far a0 a1 K w = vcF P Tryz.f28 [a0, a1] w K from by kernel_rfl) h
/- spunyarn/spunyarnlaw24.tree -/
/- S_law24_tree_l1: 0=slot 12 1=slot 5 out -/
def S_law24_tree_l1 (K : Value → World → Prop) (a0 : Value) (a1 : Value) (v1000 : Value) (I1001 : Nat → List Value → World → Prop) (n1002 : Nat) (vs1003 : List Value) (g1004 : Nat → Value) (w1005 : World) : Prop :=
xLt (vs1003.getD 0 undef) v1000 fun v1006 =>
xIf v1006 (xIxS a0 (vs1003.getD 0 undef) 2 fun v1007 =>
xAt v1007 fun a1008 =>
XLdN w1005 a1008 2 fun v1009 =>
XNew w1005 [(.slice none 0 0), (.int .u64 0)] 52 fun a1010 w1011 =>
XDo P (storeVar 52 a1010 v1009) w1011 fun w1012 =>
XLdN w1012 a1010 2 fun v1013 =>
xFill (repL [(.slice none 0 0), (.int .u64 0)] 1) [(0, 2, v1013)] fun c1014 =>
XNew w1012 c1014 102 fun a1015 w1016 =>
XRun P (Builtin.append_ #[93, 93] 93 #[(vs1003.getD 1 undef), (.slice (some a1015) 1 1)]) w1016 fun v1017 w1018 =>
xAdd (vs1003.getD 0 undef) (.int .i64 1) fun v1019 =>
XNext I1001 n1002 [v1019, v1017] w1018) (Ret P n_canon_Build [(.pointer none), a1, (vs1003.getD 1 undef)] w1005 fun v1020 w1021 =>
xTup v1020 0 fun v1022 =>
xTup v1020 1 fun v1023 =>
K v1022 w1021)
abbrev S_law24_tree (a0 : Value) (a1 : Value) (K : Value → World → Prop) (w0 : World) : Prop :=
xLen a0 fun v1000 =>
XLoop [(.int .i64 0), (.slice none 0 0)] w0 (S_law24_tree_l1 K a0 a1 v1000)
theorem W_law24_tree {a0 a1 : Value} {K : Value → World → Prop} {w : World} (h : S_law24_tree a0 a1 K w) : Ret P n_law24_tree [a0, a1] w K :=
  vcF_of mixed Tryz.func29 (show S_law24_tree a0 a1 K w = vcF P Tryz.f29 [a0, a1] w K from by kernel_rfl) h
/- spunyarn/spunyarnref13.Sort -/
/- S_ref13_Sort_l1: 0=slot 6 k -/
def S_ref13_Sort_l1 (a0 : Value) (vs1002 : List Value) (J1007 : List Value → World → Prop) (vs1013 : List Value) (v1062 : Value) (I1066 : Nat → List Value → World → Prop) (n1067 : Nat) (vs1068 : List Value) (g1069 : Nat → Value) (w1070 : World) : Prop :=
xGt (vs1068.getD 0 undef) (vs1013.getD 0 undef) fun v1071 =>
xIf v1071 (xSub (vs1068.getD 0 undef) (.int .i64 1) fun v1072 =>
xIxS v1062 v1072 2 fun v1073 =>
xAt v1073 fun a1074 =>
XLdN w1070 a1074 2 fun v1075 =>
xIxS v1062 (vs1068.getD 0 undef) 2 fun v1076 =>
xAt v1076 fun a1078 =>
XDo P (storeVar 52 a1078 v1075) w1070 fun w1077 =>
xSub (vs1068.getD 0 undef) (.int .i64 1) fun v1079 =>
XNext I1066 n1067 [v1079] w1077) (xIxS a0 (vs1002.getD 0 undef) 2 fun v1080 =>
xAt v1080 fun a1081 =>
XLdN w1070 a1081 2 fun v1082 =>
xIxS v1062 (vs1013.getD 0 undef) 2 fun v1083 =>
xAt v1083 fun a1085 =>
XDo P (storeVar 52 a1085 v1082) w1070 fun w1084 =>
J1007 [(vs1013.getD 0 undef), v1062, (vs1068.getD 0 undef)] w1084)
/- S_ref13_Sort_l2: 0=slot 5 j -/
def S_ref13_Sort_l2 (a0 : Value) (vs1002 : List Value) (J1007 : List Value → World → Prop) (I1011 : Nat → List Value → World → Prop) (n1012 : Nat) (vs1013 : List Value) (g1014 : Nat → Value) (w1015 : World) : Prop :=
/- 0 -/ XJ (fun J1016 =>
xLen (vs1002.getD 2 undef) fun v1020 =>
xLt (vs1013.getD 0 undef) v1020 fun v1021 =>
xIf v1021 (xIxS (vs1002.getD 2 undef) (vs1013.getD 0 undef) 2 fun v1022 =>
xFld v1022 0 fun v1023 =>
xAt v1023 fun a1024 =>
XLd w1015.drew a1024 fun v1025 =>
xIxS a0 (vs1002.getD 0 undef) 2 fun v1026 =>
xFld v1026 0 fun v1027 =>
xAt v1027 fun a1028 =>
XLd w1015.drew a1028 fun v1029 =>
Ret P n_ref01_Cmp [v1025, v1029] w1015.drew fun v1030 w1031 =>
xLt v1030 (.int .i64 0) fun v1032 =>
J1016 [v1032] w1031) (J1016 [(.bool false)] (w1015.drew))) fun vs1017 g1018 w1019 =>
xIf (vs1017.getD 0 undef) (xAdd (vs1013.getD 0 undef) (.int .i64 1) fun v1033 =>
XNext I1011 n1012 [v1033] w1019) (/- 0 -/ XJ (fun J1034 =>
xLen (vs1002.getD 2 undef) fun v1038 =>
xLt (vs1013.getD 0 undef) v1038 fun v1039 =>
xIf v1039 (xIxS (vs1002.getD 2 undef) (vs1013.getD 0 undef) 2 fun v1040 =>
xFld v1040 0 fun v1041 =>
xAt v1041 fun a1042 =>
XLd w1019.drew a1042 fun v1043 =>
xIxS a0 (vs1002.getD 0 undef) 2 fun v1044 =>
xFld v1044 0 fun v1045 =>
xAt v1045 fun a1046 =>
XLd w1019.drew a1046 fun v1047 =>
Ret P n_ref01_Same [v1043, v1047] w1019.drew fun v1048 w1049 =>
J1034 [v1048] w1049) (J1034 [(.bool false)] (w1019.drew))) fun vs1035 g1036 w1037 =>
xIf (vs1035.getD 0 undef) (xIxS a0 (vs1002.getD 0 undef) 2 fun v1050 =>
xFld v1050 1 fun v1051 =>
xAt v1051 fun a1052 =>
XLd w1037 a1052 fun v1053 =>
xIxS (vs1002.getD 2 undef) (vs1013.getD 0 undef) 2 fun v1054 =>
xFld v1054 1 fun v1055 =>
xAt v1055 fun a1057 =>
XSt w1037 a1057 v1053 fun w1056 =>
J1007 [(vs1013.getD 0 undef), (vs1002.getD 2 undef), (vs1002.getD 3 undef)] w1056) (xFill [(.slice none 0 0), (.int .u64 0)] [] fun c1058 =>
xFill (repL [(.slice none 0 0), (.int .u64 0)] 1) [(0, 2, (.agg c1058.toArray))] fun c1059 =>
XNew w1037 c1059 52 fun a1060 w1061 =>
XRun P (Builtin.append_ #[33, 33] 33 #[(vs1002.getD 2 undef), (.slice (some a1060) 1 1)]) w1061 fun v1062 w1063 =>
xLen v1062 fun v1064 =>
xSub v1064 (.int .i64 1) fun v1065 =>
XLoop [v1065] w1063 (S_ref13_Sort_l1 a0 vs1002 J1007 vs1013 v1062)))
/- S_ref13_Sort_l3: 0=slot 4 i 1=slot 5 j 2=slot 3 out 3=slot 6 k -/
def S_ref13_Sort_l3 (K : Value → World → Prop) (a0 : Value) (I1000 : Nat → List Value → World → Prop) (n1001 : Nat) (vs1002 : List Value) (g1003 : Nat → Value) (w1004 : World) : Prop :=
xLen a0 fun v1005 =>
xLt (vs1002.getD 0 undef) v1005 fun v1006 =>
xIf v1006 (/- 0 j 1 out 2 k -/ XJ (fun J1007 =>
XLoop [(.int .i64 0)] w1004 (S_ref13_Sort_l2 a0 vs1002 J1007)) fun vs1008 g1009 w1010 =>
xAdd (vs1002.getD 0 undef) (.int .i64 1) fun v1086 =>
XNext I1000 n1001 [v1086, (vs1008.getD 0 undef), (vs1008.getD 1 undef), (vs1008.getD 2 undef)] w1010) (K (vs1002.getD 2 undef) w1004)
abbrev S_ref13_Sort (a0 : Value) (K : Value → World → Prop) (w0 : World) : Prop :=
XLoop [(.int .i64 0), undef, (.slice none 0 0), undef] w0 (S_ref13_Sort_l3 K a0)
theorem W_ref13_Sort {a0 : Value} {K : Value → World → Prop} {w : World} (h : S_ref13_Sort a0 K w) : Ret P n_ref13_Sort [a0] w K :=
  vcF_of mixed Tryz.func30 (show S_ref13_Sort a0 K w = vcF P Tryz.f30 [a0] w K from by kernel_rfl) h
/- spunyarn/canon.Shape -/
abbrev S_canon_Shape (a0 : Value) (K : Value → World → Prop) (w0 : World) : Prop :=
XNew w0 [(.pointer none), (.slice none 0 0)] 190 fun a1000 w1001 =>
Ret P n_canon_shape [(.pointer (some a1000)), a0] w1001 fun v1002 w1003 =>
Ret P n_strings_Builder_String [(.pointer (some a1000))] w1003 fun v1004 w1005 =>
K v1004 w1005
theorem W_canon_Shape {a0 : Value} {K : Value → World → Prop} {w : World} (h : S_canon_Shape a0 K w) : Ret P n_canon_Shape [a0] w K :=
  vcF_of mixed Tryz.func31 (show S_canon_Shape a0 K w = vcF P Tryz.f31 [a0] w K from by kernel_rfl) h
/- spunyarn/canon.Fine -/
abbrev S_canon_Fine (a0 : Value) (K : Value → World → Prop) (w0 : World) : Prop :=
XNew w0 [(.bool false)] 4 fun a1000 w1001 =>
XSt w1001 a1000 (.bool true) fun w1002 =>
Ret P n_canon_each [a0, (.func (.func 114) #[] #[(.pointer (some a1000))])] w1002 fun v1003 w1004 =>
XLd w1004 a1000 fun v1005 =>
K v1005 w1004
theorem W_canon_Fine {a0 : Value} {K : Value → World → Prop} {w : World} (h : S_canon_Fine a0 K w) : Ret P n_canon_Fine [a0] w K :=
  vcF_of mixed Tryz.func32 (show S_canon_Fine a0 K w = vcF P Tryz.f32 [a0] w K from by kernel_rfl) h
/- spunyarn/spunyarnlaw16.far -/
/- S_law16_far_l1: 0=slot 13 1=slot 4 -/
def S_law16_far_l1 (K : Value → World → Prop) (a0 : Value) (v1002 : Value) (I1003 : Nat → List Value → World → Prop) (n1004 : Nat) (vs1005 : List Value) (g1006 : Nat → Value) (w1007 : World) : Prop :=
xLt (vs1005.getD 0 undef) v1002 fun v1008 =>
xIf v1008 (xIxS a0 (vs1005.getD 0 undef) 2 fun v1009 =>
xAt v1009 fun a1010 =>
XLdN w1007 a1010 2 fun v1011 =>
XNew w1007 [(.slice none 0 0), (.int .u64 0)] 52 fun a1012 w1013 =>
XDo P (storeVar 52 a1012 v1011) w1013 fun w1014 =>
XLd w1014 (a1012.add 0) fun v1015 =>
xLen v1015 fun v1016 =>
xGt v1016 (.int .i64 300) fun v1017 =>
xIf v1017 (K (.bool true) w1014) (xAdd (vs1005.getD 0 undef) (.int .i64 1) fun v1018 =>
XNext I1003 n1004 [v1018, (vs1005.getD 1 undef)] w1014)) (K (.bool false) w1007)
abbrev S_law16_far (a0 : Value) (a1 : Value) (K : Value → World → Prop) (w0 : World) : Prop :=
xLen a0 fun v1000 =>
xGt v1000 a1 fun v1001 =>
xIf v1001 (K (.bool true) w0) (xLen a0 fun v1002 =>
XLoop [(.int .i64 0), (.bool false)] w0 (S_law16_far_l1 K a0 v1002))
theorem W_law16_far {a0 a1 : Value} {K : Value → World → Prop} {w : World} (h : S_law16_far a0 a1 K w) : Ret P n_law16_far [a0, a1] w K :=
  vcF_of mixed Tryz.func33 (show S_law16_far a0 a1 K w = vcF P Tryz.f33 [a0, a1] w K from by kernel_rfl) h
/- spunyarn/spunyarnlaw16.alive -/
abbrev S_law16_alive  (K : Value → World → Prop) (w0 : World) : Prop :=
xFill (repL [(.int .u8 0)] 1) [(0, 1, (.int .u8 1))] fun c1000 =>
XNew w0 c1000 5 fun a1001 w1002 =>
xFill [(.slice none 0 0), (.int .u64 0)] [(0, 1, (.slice (some a1001) 1 1)), (1, 1, (.int .u64 5))] fun c1003 =>
xFill (repL [(.int .u8 0)] 2) [(0, 1, (.int .u8 1)), (1, 1, (.int .u8 2))] fun c1004 =>
XNew w1002 c1004 5 fun a1005 w1006 =>
xFill [(.slice none 0 0), (.int .u64 0)] [(0, 1, (.slice (some a1005) 2 2)), (1, 1, (.int .u64 6))] fun c1007 =>
xFill (repL [(.slice none 0 0), (.int .u64 0)] 2) [(0, 2, (.agg c1003.toArray)), (2, 2, (.agg c1007.toArray))] fun c1008 =>
XNew w1006 c1008 52 fun a1009 w1010 =>
Ret P n_law16_tree [(.slice (some a1009) 2 2), (.int .u64 1)] w1010 fun v1011 w1012 =>
xFill (repL [(.int .u8 0)] 1) [(0, 1, (.int .u8 1))] fun c1013 =>
XNew w1012 c1013 5 fun a1014 w1015 =>
Ret P n_del_Del [v1011, (.slice (some a1014) 1 1), (.int .u64 2), (.pointer none)] w1015 fun v1016 w1017 =>
xTup v1016 0 fun v1018 =>
xTup v1016 1 fun v1019 =>
xTup v1016 2 fun v1020 =>
/- 0 -/ XJ (fun J1021 =>
Ret P n_canon_Shape [v1018] w1017 fun v1025 w1026 =>
xSEq v1025 (.string ⟨#[76, 48, 49, 48, 50, 61, 54]⟩) fun v1027 =>
xIf v1027 (xIf v1019 (xEq v1020 (.int .i64 0) fun v1028 =>
J1021 [v1028] w1026) (J1021 [(.bool false)] w1026)) (J1021 [(.bool false)] w1026)) fun vs1022 g1023 w1024 =>
K (vs1022.getD 0 undef) w1024
theorem W_law16_alive {K : Value → World → Prop} {w : World} (h : S_law16_alive  K w) : Ret P n_law16_alive [] w K :=
  vcF_of mixed Tryz.func34 (show S_law16_alive  K w = vcF P Tryz.f34 [] w K from by kernel_rfl) h
/- spunyarn/spunyarnlaw16.tree -/
/- S_law16_tree_l1: 0=slot 12 1=slot 5 out -/
def S_law16_tree_l1 (K : Value → World → Prop) (a0 : Value) (a1 : Value) (v1000 : Value) (I1001 : Nat → List Value → World → Prop) (n1002 : Nat) (vs1003 : List Value) (g1004 : Nat → Value) (w1005 : World) : Prop :=
xLt (vs1003.getD 0 undef) v1000 fun v1006 =>
xIf v1006 (xIxS a0 (vs1003.getD 0 undef) 2 fun v1007 =>
xAt v1007 fun a1008 =>
XLdN w1005 a1008 2 fun v1009 =>
XNew w1005 [(.slice none 0 0), (.int .u64 0)] 52 fun a1010 w1011 =>
XDo P (storeVar 52 a1010 v1009) w1011 fun w1012 =>
XLdN w1012 a1010 2 fun v1013 =>
xFill (repL [(.slice none 0 0), (.int .u64 0)] 1) [(0, 2, v1013)] fun c1014 =>
XNew w1012 c1014 102 fun a1015 w1016 =>
XRun P (Builtin.append_ #[93, 93] 93 #[(vs1003.getD 1 undef), (.slice (some a1015) 1 1)]) w1016 fun v1017 w1018 =>
xAdd (vs1003.getD 0 undef) (.int .i64 1) fun v1019 =>
XNext I1001 n1002 [v1019, v1017] w1018) (Ret P n_canon_Build [(.pointer none), a1, (vs1003.getD 1 undef)] w1005 fun v1020 w1021 =>
xTup v1020 0 fun v1022 =>
xTup v1020 1 fun v1023 =>
K v1022 w1021)
abbrev S_law16_tree (a0 : Value) (a1 : Value) (K : Value → World → Prop) (w0 : World) : Prop :=
xLen a0 fun v1000 =>
XLoop [(.int .i64 0), (.slice none 0 0)] w0 (S_law16_tree_l1 K a0 a1 v1000)
theorem W_law16_tree {a0 a1 : Value} {K : Value → World → Prop} {w : World} (h : S_law16_tree a0 a1 K w) : Ret P n_law16_tree [a0, a1] w K :=
  vcF_of mixed Tryz.func35 (show S_law16_tree a0 a1 K w = vcF P Tryz.f35 [a0, a1] w K from by kernel_rfl) h
/- (*spunyarn/meter.Meter).Count -/
abbrev S_meter_Meter_Count (a0 : Value) (K : Value → World → Prop) (w0 : World) : Prop :=
xPEq P w0 a0 (.pointer none) fun v1000 =>
xIf v1000 (K (.int .i64 0) w0) (xAt a0 fun a1001 =>
Ret P n_atomic_Int64_Load [(.pointer (some (a1001.add 0)))] w0 fun v1002 w1003 =>
K v1002 w1003)
theorem W_meter_Meter_Count {a0 : Value} {K : Value → World → Prop} {w : World} (h : S_meter_Meter_Count a0 K w) : Ret P n_meter_Meter_Count [a0] w K :=
  vcF_of mixed Tryz.func36 (show S_meter_Meter_Count a0 K w = vcF P Tryz.f36 [a0] w K from by kernel_rfl) h
/- spunyarn/del.Del -/
abbrev S_del_Del (a0 : Value) (a1 : Value) (a2 : Value) (a3 : Value) (K : Value → World → Prop) (w0 : World) : Prop :=
xEq a2 (.int .u64 0) fun v1000 =>
xIf v1000 (K (.tuple #[(.pointer none), (.bool false), (.int .i64 1)]) w0) (Ret P n_keys_May [a1] w0 fun v1001 w1002 =>
xNe v1001 (.int .i64 0) fun v1003 =>
xIf v1003 (K (.tuple #[(.pointer none), (.bool false), v1001]) w1002) (Ret P n_find_Has [a0, a1] w1002 fun v1004 w1005 =>
xNot v1004 fun v1006 =>
xIf v1006 (K (.tuple #[a0, (.bool false), (.int .i64 0)]) w1005) (xFill [(.int .u64 0), (.pointer none)] [(0, 1, a2), (1, 1, a3)] fun c1007 =>
Ret P n_del_taker_out [(.agg c1007.toArray), a0, a1] w1005 fun v1008 w1009 =>
K (.tuple #[v1008, (.bool true), (.int .i64 0)]) w1009)))
theorem W_del_Del {a0 a1 a2 a3 : Value} {K : Value → World → Prop} {w : World} (h : S_del_Del a0 a1 a2 a3 K w) : Ret P n_del_Del [a0, a1, a2, a3] w K :=
  vcF_of mixed Tryz.func37 (show S_del_Del a0 a1 a2 a3 K w = vcF P Tryz.f37 [a0, a1, a2, a3] w K from by kernel_rfl) h
/- spunyarn/spunyarnref16.Del -/
/- S_ref16_Del_l1: 0=slot 8 i 1=slot 7 was 2=slot 6 out -/
def S_ref16_Del_l1 (K : Value → World → Prop) (a0 : Value) (a1 : Value) (I1000 : Nat → List Value → World → Prop) (n1001 : Nat) (vs1002 : List Value) (g1003 : Nat → Value) (w1004 : World) : Prop :=
xLen a0 fun v1005 =>
xLt (vs1002.getD 0 undef) v1005 fun v1006 =>
xIf v1006 (/- 0 was 1 out -/ XJ (fun J1007 =>
xIxS a0 (vs1002.getD 0 undef) 2 fun v1011 =>
xFld v1011 0 fun v1012 =>
xAt v1012 fun a1013 =>
XLd w1004 a1013 fun v1014 =>
Ret P n_ref01_Same [v1014, a1] w1004 fun v1015 w1016 =>
xIf v1015 (J1007 [(.bool true), (vs1002.getD 2 undef)] w1016) (xIxS a0 (vs1002.getD 0 undef) 2 fun v1017 =>
xAt v1017 fun a1018 =>
XLdN w1016 a1018 2 fun v1019 =>
xFill (repL [(.slice none 0 0), (.int .u64 0)] 1) [(0, 2, v1019)] fun c1020 =>
XNew w1016 c1020 52 fun a1021 w1022 =>
XRun P (Builtin.append_ #[33, 33] 33 #[(vs1002.getD 2 undef), (.slice (some a1021) 1 1)]) w1022 fun v1023 w1024 =>
J1007 [(vs1002.getD 1 undef), v1023] w1024)) fun vs1008 g1009 w1010 =>
xAdd (vs1002.getD 0 undef) (.int .i64 1) fun v1025 =>
XNext I1000 n1001 [v1025, (vs1008.getD 0 undef), (vs1008.getD 1 undef)] w1010) (K (.tuple #[(vs1002.getD 2 undef), (vs1002.getD 1 undef)]) w1004)
abbrev S_ref16_Del (a0 : Value) (a1 : Value) (K : Value → World → Prop) (w0 : World) : Prop :=
XLoop [(.int .i64 0), (.bool false), (.slice none 0 0)] w0 (S_ref16_Del_l1 K a0 a1)
theorem W_ref16_Del {a0 a1 : Value} {K : Value → World → Prop} {w : World} (h : S_ref16_Del a0 a1 K w) : Ret P n_ref16_Del [a0, a1] w K :=
  vcF_of mixed Tryz.func38 (show S_ref16_Del a0 a1 K w = vcF P Tryz.f38 [a0, a1] w K from by kernel_rfl) h
/- spunyarn/spunyarnlaw16.as -/
abbrev S_law16_as (a0 : Value) (a1 : Value) (K : Value → World → Prop) (w0 : World) : Prop :=
Ret P n_canon_Shape [a0] w0 fun v1000 w1001 =>
Ret P n_ref13_Build [a1] w1001 fun v1002 w1003 =>
Ret P n_ref13_Shape [v1002] w1003 fun v1004 w1005 =>
xSEq v1000 v1004 fun v1006 =>
K v1006 w1005
theorem W_law16_as {a0 a1 : Value} {K : Value → World → Prop} {w : World} (h : S_law16_as a0 a1 K w) : Ret P n_law16_as [a0, a1] w K :=
  vcF_of mixed Tryz.func39 (show S_law16_as a0 a1 K w = vcF P Tryz.f39 [a0, a1] w K from by kernel_rfl) h
/- spunyarn/find.Steps -/
abbrev S_find_Steps (a0 : Value) (a1 : Value) (K : Value → World → Prop) (w0 : World) : Prop :=
Ret P n_find_each [a0, a1, (.func (.func 122) #[] #[])] w0 fun v1000 w1001 =>
K v1000 w1001
theorem W_find_Steps {a0 a1 : Value} {K : Value → World → Prop} {w : World} (h : S_find_Steps a0 a1 K w) : Ret P n_find_Steps [a0, a1] w K :=
  vcF_of mixed Tryz.func40 (show S_find_Steps a0 a1 K w = vcF P Tryz.f40 [a0, a1] w K from by kernel_rfl) h
/- spunyarn/canon.Depth -/
/- S_canon_Depth_l1: 0=slot 5 k 1=slot 3 deep 2=slot 4 b -/
def S_canon_Depth_l1 (K : Value → World → Prop) (a0 : Value) (I1005 : Nat → List Value → World → Prop) (n1006 : Nat) (vs1007 : List Value) (g1008 : Nat → Value) (w1009 : World) : Prop :=
xPNe P w1009 (vs1007.getD 0 undef) (.pointer none) fun v1010 =>
xIf v1010 (Ret P n_canon_Depth [(vs1007.getD 0 undef)] w1009 fun v1011 w1012 =>
xMax (vs1007.getD 1 undef) v1011 fun v1013 =>
xConv .i64 (vs1007.getD 2 undef) fun v1014 =>
xAdd v1014 (.int .i64 1) fun v1015 =>
Ret P n_node_Node_Next [a0, v1015] w1012 fun v1016 w1017 =>
xTup v1016 0 fun v1018 =>
xTup v1016 1 fun v1019 =>
XNext I1005 n1006 [v1019, v1013, v1018] w1017) (xAdd (vs1007.getD 1 undef) (.int .i64 1) fun v1020 =>
K v1020 w1009)
abbrev S_canon_Depth (a0 : Value) (K : Value → World → Prop) (w0 : World) : Prop :=
xPEq P w0 a0 (.pointer none) fun v1000 =>
xIf v1000 (K (.int .i64 0) w0) (Ret P n_node_Node_Next [a0, (.int .i64 0)] w0 fun v1001 w1002 =>
xTup v1001 0 fun v1003 =>
xTup v1001 1 fun v1004 =>
XLoop [v1004, (.int .i64 0), v1003] w1002 (S_canon_Depth_l1 K a0))
theorem W_canon_Depth {a0 : Value} {K : Value → World → Prop} {w : World} (h : S_canon_Depth a0 K w) : Ret P n_canon_Depth [a0] w K :=
  vcF_of mixed Tryz.func41 (show S_canon_Depth a0 K w = vcF P Tryz.f41 [a0] w K from by kernel_rfl) h
/- spunyarn/find.Has -/
abbrev S_find_Has (a0 : Value) (a1 : Value) (K : Value → World → Prop) (w0 : World) : Prop :=
Ret P n_find_Get [a0, a1] w0 fun v1000 w1001 =>
xTup v1000 0 fun v1002 =>
xTup v1000 1 fun v1003 =>
K v1003 w1001
theorem W_find_Has {a0 a1 : Value} {K : Value → World → Prop} {w : World} (h : S_find_Has a0 a1 K w) : Ret P n_find_Has [a0, a1] w K :=
  vcF_of mixed Tryz.func42 (show S_find_Has a0 a1 K w = vcF P Tryz.f42 [a0, a1] w K from by kernel_rfl) h
/- spunyarn/find.Get -/
/- S_find_Get_l1: 0=slot 4 1=slot 5 -/
def S_find_Get_l1 (K : Value → World → Prop) (a1001 : Addr) (I1003 : Nat → List Value → World → Prop) (n1004 : Nat) (vs1005 : List Value) (g1006 : Nat → Value) (w1007 : World) : Prop :=
Ret P n_find_walk_into [(.pointer (some a1001))] w1007 fun v1008 w1009 =>
xIf v1008 (Ret P n_find_walk_ends [(.pointer (some a1001))] w1009 fun v1010 w1011 =>
xIf v1010 (XLd w1011 (a1001.add 0) fun v1012 =>
Ret P n_node_Node_Val [v1012] w1011 fun v1013 w1014 =>
xTup v1013 0 fun v1015 =>
xTup v1013 1 fun v1016 =>
K (.tuple #[v1015, v1016]) w1014) (Ret P n_find_walk_down [(.pointer (some a1001))] w1011 fun v1017 w1018 =>
XNext I1003 n1004 [(vs1005.getD 0 undef), (vs1005.getD 1 undef)] w1018)) (K (.tuple #[(.int .u64 0), (.bool false)]) w1009)
abbrev S_find_Get (a0 : Value) (a1 : Value) (K : Value → World → Prop) (w0 : World) : Prop :=
xFill [(.pointer none), (.slice none 0 0), (.int .i64 0), (.int .i64 0)] [(0, 1, a0), (1, 1, a1)] fun c1000 =>
XNew w0 (cellsV (.agg c1000.toArray)) 206 fun a1001 w1002 =>
XLoop [(.int .u64 0), (.bool false)] w1002 (S_find_Get_l1 K a1001)
theorem W_find_Get {a0 a1 : Value} {K : Value → World → Prop} {w : World} (h : S_find_Get a0 a1 K w) : Ret P n_find_Get [a0, a1] w K :=
  vcF_of mixed Tryz.func43 (show S_find_Get a0 a1 K w = vcF P Tryz.f43 [a0, a1] w K from by kernel_rfl) h
/- spunyarn/put.Put -/
abbrev S_put_Put (a0 : Value) (a1 : Value) (a2 : Value) (a3 : Value) (a4 : Value) (K : Value → World → Prop) (w0 : World) : Prop :=
xEq a3 (.int .u64 0) fun v1000 =>
xIf v1000 (K (.tuple #[(.pointer none), (.int .i64 1)]) w0) (Ret P n_keys_May [a1] w0 fun v1001 w1002 =>
xNe v1001 (.int .i64 0) fun v1003 =>
xIf v1003 (K (.tuple #[(.pointer none), v1001]) w1002) (Ret P n_find_Get [a0, a1] w1002 fun v1004 w1005 =>
xTup v1004 0 fun v1006 =>
xTup v1004 1 fun v1007 =>
/- 0 -/ XJ (fun J1008 =>
xIf v1007 (xEq v1006 a2 fun v1012 =>
J1008 [v1012] w1005) (J1008 [(.bool false)] w1005)) fun vs1009 g1010 w1011 =>
xIf (vs1009.getD 0 undef) (K (.tuple #[a0, (.int .i64 0)]) w1011) (xFill [(.int .u64 0), (.int .u64 0), (.pointer none)] [(0, 1, a2), (1, 1, a3), (2, 1, a4)] fun c1013 =>
Ret P n_put_putter_into [(.agg c1013.toArray), a0, a1] w1011 fun v1014 w1015 =>
K (.tuple #[v1014, (.int .i64 0)]) w1015)))
theorem W_put_Put {a0 a1 a2 a3 a4 : Value} {K : Value → World → Prop} {w : World} (h : S_put_Put a0 a1 a2 a3 a4 K w) : Ret P n_put_Put [a0, a1, a2, a3, a4] w K :=
  vcF_of mixed Tryz.func44 (show S_put_Put a0 a1 a2 a3 a4 K w = vcF P Tryz.f44 [a0, a1, a2, a3, a4] w K from by kernel_rfl) h
/- spunyarn/spunyarnlaw16.kids -/
/- S_law16_kids_l1: 0=slot 24 1=slot 12 d 2=slot 10 gone -/
def S_law16_kids_l1 (a1 : Value) (vs1002 : List Value) (J1006 : List Value → World → Prop) (v1011 : Value) (v1014 : Value) (I1015 : Nat → List Value → World → Prop) (n1016 : Nat) (vs1017 : List Value) (g1018 : Nat → Value) (w1019 : World) : Prop :=
xLt (vs1017.getD 0 undef) v1014 fun v1020 =>
xIf v1020 (/- 0 d 1 gone -/ XJ (fun J1021 =>
xIxS a1 (vs1017.getD 0 undef) 1 fun v1025 =>
xAt v1025 fun a1026 =>
XLd w1019 a1026 fun v1027 =>
xIf (vs1017.getD 2 undef) (J1021 [v1027, (.bool true)] w1019) (xConv .i64 v1027 fun v1028 =>
xEq v1028 (vs1002.getD 0 undef) fun v1029 =>
J1021 [v1027, v1029] w1019)) fun vs1022 g1023 w1024 =>
xAdd (vs1017.getD 0 undef) (.int .i64 1) fun v1030 =>
XNext I1015 n1016 [v1030, (vs1022.getD 0 undef), (vs1022.getD 1 undef)] w1024) (xNot (vs1017.getD 2 undef) fun v1031 =>
xIf v1031 (xConv .u8 (vs1002.getD 0 undef) fun v1032 =>
xFill [(.int .u8 0), (.pointer none)] [(0, 1, v1032), (1, 1, v1011)] fun c1033 =>
xFill (repL [(.int .u8 0), (.pointer none)] 1) [(0, 2, (.agg c1033.toArray))] fun c1034 =>
XNew w1019 c1034 78 fun a1035 w1036 =>
XRun P (Builtin.append_ #[71, 71] 71 #[(vs1002.getD 5 undef), (.slice (some a1035) 1 1)]) w1036 fun v1037 w1038 =>
xConv .u8 (vs1002.getD 0 undef) fun v1039 =>
xFill (repL [(.int .u8 0)] 1) [(0, 1, v1039)] fun c1040 =>
XNew w1038 c1040 5 fun a1041 w1042 =>
XRun P (Builtin.append_ #[50, 50] 50 #[(vs1002.getD 6 undef), (.slice (some a1041) 1 1)]) w1042 fun v1043 w1044 =>
J1006 [(vs1002.getD 0 undef), v1011, (vs1017.getD 2 undef), (vs1017.getD 1 undef), v1037, v1043] w1044) (J1006 [(vs1002.getD 0 undef), v1011, (vs1017.getD 2 undef), (vs1017.getD 1 undef), (vs1002.getD 5 undef), (vs1002.getD 6 undef)] w1019))
/- S_law16_kids_l2: 0=slot 13 1=slot 8 b 2=slot 9 kid 3=slot 10 gone 4=slot 12 d 5=slot 6 l 6=slot 7 bytes -/
def S_law16_kids_l2 (K : Value → World → Prop) (a0 : Value) (a1 : Value) (I1000 : Nat → List Value → World → Prop) (n1001 : Nat) (vs1002 : List Value) (g1003 : Nat → Value) (w1004 : World) : Prop :=
xLt (vs1002.getD 0 undef) (.int .i64 256) fun v1005 =>
xIf v1005 (/- 0 b 1 kid 2 gone 3 d 4 l 5 bytes -/ XJ (fun J1006 =>
xConv .u8 (vs1002.getD 0 undef) fun v1010 =>
Ret P n_node_Node_Kid [a0, v1010] w1004 fun v1011 w1012 =>
xPEq P w1012 v1011 (.pointer none) fun v1013 =>
xLen a1 fun v1014 =>
XLoop [(.int .i64 0), (vs1002.getD 4 undef), v1013] w1012 (S_law16_kids_l1 a1 vs1002 J1006 v1011 v1014)) fun vs1007 g1008 w1009 =>
xAdd (vs1002.getD 0 undef) (.int .i64 1) fun v1045 =>
XNext I1000 n1001 [v1045, (vs1007.getD 0 undef), (vs1007.getD 1 undef), (vs1007.getD 2 undef), (vs1007.getD 3 undef), (vs1007.getD 4 undef), (vs1007.getD 5 undef)] w1009) (K (.tuple #[(vs1002.getD 5 undef), (vs1002.getD 6 undef)]) w1004)
abbrev S_law16_kids (a0 : Value) (a1 : Value) (K : Value → World → Prop) (w0 : World) : Prop :=
XLoop [(.int .i64 0), undef, undef, undef, undef, (.slice none 0 0), (.slice none 0 0)] w0 (S_law16_kids_l2 K a0 a1)
theorem W_law16_kids {a0 a1 : Value} {K : Value → World → Prop} {w : World} (h : S_law16_kids a0 a1 K w) : Ret P n_law16_kids [a0, a1] w K :=
  vcF_of mixed Tryz.func45 (show S_law16_kids a0 a1 K w = vcF P Tryz.f45 [a0, a1] w K from by kernel_rfl) h
/- spunyarn/del.Left -/
/- S_del_Left_l1: 0=slot 95 -/
def S_del_Left_l1 (K : Value → World → Prop) (a3 : Value) (a4 : Value) (v1080 : Value) (v1088 : Value) (I1089 : Nat → List Value → World → Prop) (n1090 : Nat) (vs1091 : List Value) (g1092 : Nat → Value) (w1093 : World) : Prop :=
xLt (vs1091.getD 0 undef) v1088 fun v1094 =>
xIf v1094 (xIxS a3 (vs1091.getD 0 undef) 2 fun v1095 =>
xAt v1095 fun a1096 =>
XLdN w1093 a1096 2 fun v1097 =>
XNew w1093 [(.int .u8 0), (.pointer none)] 78 fun a1098 w1099 =>
XDo P (storeVar 78 a1098 v1097) w1099 fun w1100 =>
XLd w1100 (a1098.add 0) fun v1101 =>
XLd w1100 (a1098.add 1) fun v1102 =>
Ret P n_node_Node_SetKid [v1080, a4, v1101, v1102] w1100 fun v1103 w1104 =>
xAdd (vs1091.getD 0 undef) (.int .i64 1) fun v1105 =>
XNext I1089 n1090 [v1105] w1104) (K (.tuple #[v1080, (.int .i64 0)]) w1093)
abbrev S_del_Left (a0 : Value) (a1 : Value) (a2 : Value) (a3 : Value) (a4 : Value) (a5 : Value) (K : Value → World → Prop) (w0 : World) : Prop :=
Ret P n_del_may [a0, a3, a4] w0 fun v1000 w1001 =>
xNe v1000 (.int .i64 0) fun v1002 =>
xIf v1002 (K (.tuple #[(.pointer none), v1000]) w1001) (Ret P n_del_just [a0, a1, a2, a3] w1001 fun v1003 w1004 =>
xIf v1003 (K (.tuple #[a0, (.int .i64 0)]) w1004) (/- 0 -/ XJ (fun J1005 =>
xLen a3 fun v1009 =>
xEq v1009 (.int .i64 0) fun v1010 =>
xIf v1010 (J1005 [a1] w1004) (J1005 [(.bool false)] w1004)) fun vs1006 g1007 w1008 =>
xIf (vs1006.getD 0 undef) (Ret P n_node_Node_Part [a0] w1008 fun v1011 w1012 =>
Ret P n_node_Leaf [a5, a4, v1011, a2] w1012 fun v1013 w1014 =>
K (.tuple #[v1013, (.int .i64 0)]) w1014) (xLen a3 fun v1015 =>
xEq v1015 (.int .i64 0) fun v1016 =>
xIf v1016 (K (.tuple #[(.pointer none), (.int .i64 0)]) w1008) (/- 0 -/ XJ (fun J1017 =>
xLen a3 fun v1021 =>
xEq v1021 (.int .i64 1) fun v1022 =>
xIf v1022 (xNot a1 fun v1023 =>
J1017 [v1023] w1008) (J1017 [(.bool false)] w1008)) fun vs1018 g1019 w1020 =>
xIf (vs1018.getD 0 undef) (xIxS a3 (.int .i64 0) 2 fun v1024 =>
xFld v1024 1 fun v1025 =>
xAt v1025 fun a1026 =>
XLd w1020 a1026 fun v1027 =>
Ret P n_node_Node_Copy [v1027, a5, a4] w1020 fun v1028 w1029 =>
xIxS a3 (.int .i64 0) 2 fun v1030 =>
xFld v1030 0 fun v1031 =>
xAt v1031 fun a1032 =>
XLd w1029.drew a1032 fun v1033 =>
xIxS a3 (.int .i64 0) 2 fun v1034 =>
xFld v1034 1 fun v1035 =>
xAt v1035 fun a1036 =>
XLd w1029.drew a1036 fun v1037 =>
(Ret P n_node_Node_Part [a0] w1029.drew fun v1038 w1039 =>
xKeep1 w1039 v1035 v1037 ∧ (xKeep1 w1039 v1031 v1033 ∧ ((xFill (repL [(.int .u8 0)] 1) [(0, 1, v1033)] fun c1040 =>
XNew w1039 c1040 5 fun a1041 w1042 =>
xKeep1 w1042 v1035 v1037 ∧ (Ret P n_node_Node_Part [v1037] w1042 fun v1043 w1044 =>
xFill (repL [(.slice none 0 0)] 3) [(0, 1, v1038), (1, 1, (.slice (some a1041) 1 1)), (2, 1, v1043)] fun c1045 =>
XNew w1044 c1045 50 fun a1046 w1047 =>
Ret P n_del_join [(.slice (some a1046) 3 3)] w1047 fun v1048 w1049 =>
Ret P n_node_Node_SetPart [v1028, a4, v1048] w1049 fun v1050 w1051 =>
K (.tuple #[v1028, (.int .i64 0)]) w1051)) ∧ (Ret P n_node_Node_Part [v1037] w1039 fun v1052 w1053 =>
xKeep1 w1053 v1031 v1033 ∧ (xFill (repL [(.int .u8 0)] 1) [(0, 1, v1033)] fun c1054 =>
XNew w1053 c1054 5 fun a1055 w1056 =>
xFill (repL [(.slice none 0 0)] 3) [(0, 1, v1038), (1, 1, (.slice (some a1055) 1 1)), (2, 1, v1052)] fun c1057 =>
XNew w1056 c1057 50 fun a1058 w1059 =>
Ret P n_del_join [(.slice (some a1058) 3 3)] w1059 fun v1060 w1061 =>
Ret P n_node_Node_SetPart [v1028, a4, v1060] w1061 fun v1062 w1063 =>
K (.tuple #[v1028, (.int .i64 0)]) w1063))))) ∧ (xFill (repL [(.int .u8 0)] 1) [(0, 1, v1033)] fun c1064 =>
XNew w1029.drew c1064 5 fun a1065 w1066 =>
xKeep1 w1066 v1035 v1037 ∧ (Ret P n_node_Node_Part [a0] w1066 fun v1067 w1068 =>
xKeep1 w1068 v1035 v1037 ∧ (Ret P n_node_Node_Part [v1037] w1068 fun v1069 w1070 =>
xFill (repL [(.slice none 0 0)] 3) [(0, 1, v1067), (1, 1, (.slice (some a1065) 1 1)), (2, 1, v1069)] fun c1071 =>
XNew w1070 c1071 50 fun a1072 w1073 =>
Ret P n_del_join [(.slice (some a1072) 3 3)] w1073 fun v1074 w1075 =>
Ret P n_node_Node_SetPart [v1028, a4, v1074] w1075 fun v1076 w1077 =>
K (.tuple #[v1028, (.int .i64 0)]) w1077)))) (Ret P n_node_Node_Part [a0] w1020 fun v1078 w1079 =>
Ret P n_node_Inner [a5, a4, v1078] w1079 fun v1080 w1081 =>
/-  -/ XJ (fun J1082 =>
xIf a1 (Ret P n_node_Node_SetVal [v1080, a4, a2] w1081 fun v1086 w1087 =>
J1082 [] w1087) (J1082 [] w1081)) fun vs1083 g1084 w1085 =>
xLen a3 fun v1088 =>
XLoop [(.int .i64 0)] w1085 (S_del_Left_l1 K a3 a4 v1080 v1088))))))
theorem W_del_Left {a0 a1 a2 a3 a4 a5 : Value} {K : Value → World → Prop} {w : World} (h : S_del_Left a0 a1 a2 a3 a4 a5 K w) : Ret P n_del_Left [a0, a1, a2, a3, a4, a5] w K :=
  vcF_of mixed Tryz.func46 (show S_del_Left a0 a1 a2 a3 a4 a5 K w = vcF P Tryz.f46 [a0, a1, a2, a3, a4, a5] w K from by kernel_rfl) h
/- spunyarn/spunyarnref16.Left -/
/- S_ref16_Left_l1: 0=slot 14 j 1=slot 13 stays -/
def S_ref16_Left_l1 (a0 : Value) (a3 : Value) (a1002 : Addr) (vs1018 : List Value) (J1023 : List Value → World → Prop) (v1030 : Value) (I1035 : Nat → List Value → World → Prop) (n1036 : Nat) (vs1037 : List Value) (g1038 : Nat → Value) (w1039 : World) : Prop :=
xLen a3 fun v1040 =>
xLt (vs1037.getD 0 undef) v1040 fun v1041 =>
xIf v1041 (/- 0 stays -/ XJ (fun J1042 =>
xIf (vs1037.getD 1 undef) (J1042 [(.bool true)] (w1039.drew)) (xIxS a3 (vs1037.getD 0 undef) 1 fun v1046 =>
xAt v1046 fun a1047 =>
XLd w1039.drew a1047 fun v1048 =>
XLd w1039.drew (a1002.add 1) fun v1049 =>
xLen v1049 fun v1050 =>
xIxS v1030 v1050 1 fun v1051 =>
xAt v1051 fun a1052 =>
XLd w1039.drew a1052 fun v1053 =>
xEq v1048 v1053 fun v1054 =>
J1042 [v1054] (w1039.drew))) fun vs1043 g1044 w1045 =>
xAdd (vs1037.getD 0 undef) (.int .i64 1) fun v1055 =>
XNext I1035 n1036 [v1055, (vs1043.getD 0 undef)] w1045) (xIf (vs1037.getD 1 undef) (xIxS a0 (vs1018.getD 0 undef) 2 fun v1056 =>
xAt v1056 fun a1057 =>
XLdN w1039 a1057 2 fun v1058 =>
xFill (repL [(.slice none 0 0), (.int .u64 0)] 1) [(0, 2, v1058)] fun c1059 =>
XNew w1039 c1059 52 fun a1060 w1061 =>
XRun P (Builtin.append_ #[33, 33] 33 #[(vs1018.getD 4 undef), (.slice (some a1060) 1 1)]) w1061 fun v1062 w1063 =>
J1023 [v1030, (vs1037.getD 1 undef), (vs1037.getD 0 undef), v1062] w1063) (J1023 [v1030, (vs1037.getD 1 undef), (vs1037.getD 0 undef), (vs1018.getD 4 undef)] w1039))
/- S_ref16_Left_l2: 0=slot 11 i 1=slot 12 k 2=slot 13 stays 3=slot 14 j 4=slot 10 out -/
def S_ref16_Left_l2 (K : Value → World → Prop) (a0 : Value) (a3 : Value) (a1002 : Addr) (I1016 : Nat → List Value → World → Prop) (n1017 : Nat) (vs1018 : List Value) (g1019 : Nat → Value) (w1020 : World) : Prop :=
xLen a0 fun v1021 =>
xLt (vs1018.getD 0 undef) v1021 fun v1022 =>
xIf v1022 (/- 0 k 1 stays 2 j 3 out -/ XJ (fun J1023 =>
xIxS a0 (vs1018.getD 0 undef) 2 fun v1027 =>
xFld v1027 0 fun v1028 =>
xAt v1028 fun a1029 =>
XLd w1020 a1029 fun v1030 =>
xLen v1030 fun v1031 =>
XLd w1020 (a1002.add 1) fun v1032 =>
xLen v1032 fun v1033 =>
xEq v1031 v1033 fun v1034 =>
xIf v1034 (J1023 [v1030, (vs1018.getD 2 undef), (vs1018.getD 3 undef), (vs1018.getD 4 undef)] w1020) (XLoop [(.int .i64 0), (.bool false)] w1020 (S_ref16_Left_l1 a0 a3 a1002 vs1018 J1023 v1030))) fun vs1024 g1025 w1026 =>
xAdd (vs1018.getD 0 undef) (.int .i64 1) fun v1064 =>
XNext I1016 n1017 [v1064, (vs1024.getD 0 undef), (vs1024.getD 1 undef), (vs1024.getD 2 undef), (vs1024.getD 3 undef)] w1026) (K (vs1018.getD 4 undef) w1020)
abbrev S_ref16_Left (a0 : Value) (a1 : Value) (a2 : Value) (a3 : Value) (K : Value → World → Prop) (w0 : World) : Prop :=
Ret P n_ref13_Build [a0] w0 fun v1000 w1001 =>
XNew w1001 [(.int .i64 0), (.slice none 0 0), (.bool false), (.int .u64 0), (.slice none 0 0), (.slice none 0 0)] 120 fun a1002 w1003 =>
XDo P (storeVar 120 a1002 v1000) w1003 fun w1004 =>
/- 0 out -/ XJ (fun J1005 =>
xIf a1 (XLd w1004 (a1002.add 1) fun v1009 =>
xFill [(.slice none 0 0), (.int .u64 0)] [(0, 1, v1009), (1, 1, a2)] fun c1010 =>
xFill (repL [(.slice none 0 0), (.int .u64 0)] 1) [(0, 2, (.agg c1010.toArray))] fun c1011 =>
XNew w1004 c1011 52 fun a1012 w1013 =>
XRun P (Builtin.append_ #[33, 33] 33 #[(.slice none 0 0), (.slice (some a1012) 1 1)]) w1013 fun v1014 w1015 =>
J1005 [v1014] w1015) (J1005 [(.slice none 0 0)] w1004)) fun vs1006 g1007 w1008 =>
XLoop [(.int .i64 0), undef, undef, undef, (vs1006.getD 0 undef)] w1008 (S_ref16_Left_l2 K a0 a3 a1002)
theorem W_ref16_Left {a0 a1 a2 a3 : Value} {K : Value → World → Prop} {w : World} (h : S_ref16_Left a0 a1 a2 a3 K w) : Ret P n_ref16_Left [a0, a1, a2, a3] w K :=
  vcF_of mixed Tryz.func47 (show S_ref16_Left a0 a1 a2 a3 K w = vcF P Tryz.f47 [a0, a1, a2, a3] w K from by kernel_rfl) h
end Go.Proofs.YtbleadagnpckbaaGreatDoor
