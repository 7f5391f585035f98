/-  Written by gen.py for this claim: of each function a form without frames, the same as the engine's condition by reckoning.  -/
import Derived.Test.YthnegkjhciakpaaGreatDoorSN
import Derived.Test.YthnegkjhciakpaaGreatDoorProg
namespace Go.Proofs.YthnegkjhciakpaaGreatDoor
open Go X
set_option linter.unusedVariables false
set_option maxRecDepth 100000
/- spunyarn/spunyarnlaw19.TreePlays -/
/- S_law19_TreePlays_l1: 0=slot 80 1=slot 15 i 2=slot 16 v 3=slot 2 -/
def S_law19_TreePlays_l1 (K : Value → World → Prop) (v1004 : Value) (vs1020 : List Value) (v1068 : Value) (I1069 : Nat → List Value → World → Prop) (n1070 : Nat) (vs1071 : List Value) (g1072 : Nat → Value) (w1073 : World) : Prop :=
xLt (vs1071.getD 0 undef) v1068 fun v1074 =>
xIf v1074 (xIxS (vs1020.getD 1 undef) (vs1071.getD 0 undef) 1 fun v1075 =>
xAt v1075 fun a1076 =>
XLd w1073 a1076 fun v1077 =>
/- 0 -/ XJ (fun J1078 =>
xIxS (vs1020.getD 5 undef) (vs1071.getD 0 undef) 1 fun v1082 =>
xAt v1082 fun a1083 =>
XLd w1073.drew a1083 fun v1084 =>
Ret P n_tree_Version_List [v1077] w1073.drew fun v1085 w1086 =>
xKeep1 w1086 v1082 v1084 ∧ (Ret P n_law19_same [v1085, v1084] w1086 fun v1087 w1088 =>
xNot v1087 fun v1089 =>
xIf v1089 (J1078 [(.bool true)] w1088) (xIxS (vs1020.getD 5 undef) (vs1071.getD 0 undef) 1 fun v1090 =>
xAt v1090 fun a1091 =>
XLd w1088 a1091 fun v1092 =>
xLen v1092 fun v1093 =>
Ret P n_tree_Version_Len [v1077] w1088 fun v1094 w1095 =>
xKeep1 w1095 v1090 v1092 ∧ (xNe v1094 v1093 fun v1096 =>
xIf v1096 (J1078 [(.bool true)] w1095) (xIxS (vs1020.getD 5 undef) (vs1071.getD 0 undef) 1 fun v1097 =>
xAt v1097 fun a1098 =>
XLd w1095 a1098 fun v1099 =>
xLen v1099 fun v1100 =>
Ret P n_tree_Version_Len [v1077] w1095 fun v1101 w1102 =>
xKeep1 w1102 v1097 v1099 ∧ (xNe v1101 v1100 fun v1103 =>
xIf v1103 (J1078 [(.bool true)] w1102) (xIxS (vs1020.getD 5 undef) (vs1071.getD 0 undef) 1 fun v1104 =>
xAt v1104 fun a1105 =>
XLd w1102 a1105 fun v1106 =>
Ret P n_tree_Version_Shape [v1077] w1102 fun v1107 w1108 =>
xKeep1 w1108 v1104 v1106 ∧ (Ret P n_ref13_Build [v1106] w1108 fun v1109 w1110 =>
Ret P n_ref13_Shape [v1109] w1110 fun v1111 w1112 =>
xSNe v1107 v1111 fun v1113 =>
xIf v1113 (J1078 [(.bool true)] w1112) (Ret P n_tree_Version_World [v1077] w1112 fun v1114 w1115 =>
xPNe P w1115 v1114 v1004 fun v1116 =>
xIf v1116 (J1078 [(.bool true)] w1115) (Ret P n_tree_Version_Root [v1077] w1115 fun v1117 w1118 =>
Ret P n_canon_Fine [v1117] w1118 fun v1119 w1120 =>
xNot v1119 fun v1121 =>
J1078 [v1121] w1120)))))))))) fun vs1079 g1080 w1081 =>
xIf (vs1079.getD 0 undef) (K (.bool false) w1081) (xAdd (vs1071.getD 0 undef) (.int .i64 1) fun v1122 =>
XNext I1069 n1070 [v1122, (vs1071.getD 0 undef), v1077, (vs1071.getD 3 undef)] w1081)) (Ret P n_law19_alive [] w1073 fun v1123 w1124 =>
K v1123 w1124)
/- S_law19_TreePlays_l2: 0=slot 33 1=slot 6 all 2=slot 10 i 3=slot 11 v 4=slot 12 e 5=slot 7 want 6=slot 13 p 7=slot 14 f 8=slot 2 -/
def S_law19_TreePlays_l2 (K : Value → World → Prop) (a0 : Value) (v1004 : Value) (v1017 : Value) (I1018 : Nat → List Value → World → Prop) (n1019 : Nat) (vs1020 : List Value) (g1021 : Nat → Value) (w1022 : World) : Prop :=
xLt (vs1020.getD 0 undef) v1017 fun v1023 =>
xIf v1023 (/- 0 i 1 v 2 e 3 p 4 f 5 6 all 7 want -/ XJ (fun J1024 =>
xIxS a0 (vs1020.getD 0 undef) 5 fun v1028 =>
xAt v1028 fun a1029 =>
XLdN w1022 a1029 5 fun v1030 =>
XNew w1022 [(.int .u8 0), (.int .u16 0), (.slice none 0 0), (.int .u64 0), (.slice none 0 0)] 144 fun a1031 w1032 =>
XDo P (storeVar 144 a1031 v1030) w1032 fun w1033 =>
XLd w1033 (a1031.add 1) fun v1034 =>
xConv .i64 v1034 fun v1035 =>
xLen (vs1020.getD 1 undef) fun v1036 =>
xRem v1035 v1036 fun v1037 =>
xIxS (vs1020.getD 1 undef) v1037 1 fun v1038 =>
xAt v1038 fun a1039 =>
XLd w1033.drew a1039 fun v1040 =>
XLdN w1033.drew a1031 5 fun v1041 =>
Ret P n_law19_after [v1004, v1040, v1041] w1033.drew fun v1042 w1043 =>
xTup v1042 0 fun v1044 =>
xTup v1042 1 fun v1045 =>
xIxS (vs1020.getD 5 undef) v1037 1 fun v1046 =>
xAt v1046 fun a1047 =>
XLd w1043.drew a1047 fun v1048 =>
XLdN w1043.drew a1031 5 fun v1049 =>
Ret P n_ref19_After [v1048, v1049] w1043.drew fun v1050 w1051 =>
xTup v1050 0 fun v1052 =>
xTup v1050 1 fun v1053 =>
xNe v1045 v1053 fun v1054 =>
xIf v1054 (K (.bool false) w1051) (xNe v1053 (.int .i64 0) fun v1055 =>
xIf v1055 (xPNe P w1051 v1044 (.pointer none) fun v1056 =>
xIf v1056 (K (.bool false) w1051) (J1024 [v1037, v1044, v1045, v1052, v1053, (vs1020.getD 8 undef), (vs1020.getD 1 undef), (vs1020.getD 5 undef)] w1051)) (xFill (repL [(.pointer none)] 1) [(0, 1, v1044)] fun c1057 =>
XNew w1051 c1057 71 fun a1058 w1059 =>
XRun P (Builtin.append_ #[115, 115] 115 #[(vs1020.getD 1 undef), (.slice (some a1058) 1 1)]) w1059 fun v1060 w1061 =>
xFill (repL [(.slice none 0 0)] 1) [(0, 1, v1052)] fun c1062 =>
XNew w1061 c1062 33 fun a1063 w1064 =>
XRun P (Builtin.append_ #[128, 128] 128 #[(vs1020.getD 5 undef), (.slice (some a1063) 1 1)]) w1064 fun v1065 w1066 =>
J1024 [v1037, v1044, v1045, v1052, v1053, (vs1020.getD 8 undef), v1060, v1065] w1066))) fun vs1025 g1026 w1027 =>
xAdd (vs1020.getD 0 undef) (.int .i64 1) fun v1067 =>
XNext I1018 n1019 [v1067, (vs1025.getD 6 undef), (vs1025.getD 0 undef), (vs1025.getD 1 undef), (vs1025.getD 2 undef), (vs1025.getD 7 undef), (vs1025.getD 3 undef), (vs1025.getD 4 undef), (vs1025.getD 5 undef)] w1027) (xLen (vs1020.getD 1 undef) fun v1068 =>
XLoop [(.int .i64 0), undef, undef, (vs1020.getD 8 undef)] w1022 (S_law19_TreePlays_l1 K v1004 vs1020 v1068))
abbrev S_law19_TreePlays (a0 : Value) (K : Value → World → Prop) (w0 : World) : Prop :=
Ret P n_law19_long [a0] w0 fun v1000 w1001 =>
xIf v1000 (Ret P n_law19_alive [] w1001 fun v1002 w1003 =>
K v1002 w1003) (Ret P n_tree_New [] w1001 fun v1004 w1005 =>
Ret P n_tree_World_From [v1004, (.slice none 0 0)] w1005 fun v1006 w1007 =>
xTup v1006 0 fun v1008 =>
xTup v1006 1 fun v1009 =>
xNe v1009 (.int .i64 0) fun v1010 =>
xIf v1010 (K (.bool false) w1007) (xFill (repL [(.pointer none)] 1) [(0, 1, v1008)] fun c1011 =>
XNew w1007 c1011 71 fun a1012 w1013 =>
xFill (repL [(.slice none 0 0)] 1) [(0, 1, (.slice none 0 0))] fun c1014 =>
XNew w1013 c1014 33 fun a1015 w1016 =>
xLen a0 fun v1017 =>
XLoop [(.int .i64 0), (.slice (some a1012) 1 1), undef, undef, undef, (.slice (some a1015) 1 1), undef, undef, (.bool false)] w1016 (S_law19_TreePlays_l2 K a0 v1004 v1017)))
theorem W_law19_TreePlays {a0 : Value} {K : Value → World → Prop} {w : World} (h : S_law19_TreePlays a0 K w) : Ret P n_law19_TreePlays [a0] w K :=
  vcF_of mixed Tryz.func13 (show S_law19_TreePlays a0 K w = vcF P Tryz.f13 [a0] w K from by kernel_rfl) h
/- spunyarn/spunyarnlaw19.long -/
/- S_law19_long_l1: 0=slot 11 1=slot 2 -/
def S_law19_long_l1 (K : Value → World → Prop) (a0 : Value) (v1002 : Value) (v1003 : Value) (I1004 : Nat → List Value → World → Prop) (n1005 : Nat) (vs1006 : List Value) (g1007 : Nat → Value) (w1008 : World) : Prop :=
xLt (vs1006.getD 0 undef) v1003 fun v1009 =>
xIf v1009 (xIxS v1002 (vs1006.getD 0 undef) 5 fun v1010 =>
xAt v1010 fun a1011 =>
XLdN w1008 a1011 5 fun v1012 =>
XNew w1008 [(.int .u8 0), (.int .u16 0), (.slice none 0 0), (.int .u64 0), (.slice none 0 0)] 144 fun a1013 w1014 =>
XDo P (storeVar 144 a1013 v1012) w1014 fun w1015 =>
/- 0 -/ XJ (fun J1016 =>
XLd w1015 (a1013.add 2) fun v1020 =>
xLen v1020 fun v1021 =>
xGt v1021 (.int .i64 40) fun v1022 =>
xIf v1022 (J1016 [(.bool true)] w1015) (XLd w1015 (a1013.add 4) fun v1023 =>
Ret P n_law19_far [v1023, (.int .i64 60)] w1015 fun v1024 w1025 =>
J1016 [v1024] w1025)) fun vs1017 g1018 w1019 =>
xIf (vs1017.getD 0 undef) (K (.bool true) w1019) (xAdd (vs1006.getD 0 undef) (.int .i64 1) fun v1026 =>
XNext I1004 n1005 [v1026, (vs1006.getD 1 undef)] w1019)) (xLen a0 fun v1027 =>
xGt v1027 (.int .i64 40) fun v1028 =>
K v1028 w1008)
abbrev S_law19_long (a0 : Value) (K : Value → World → Prop) (w0 : World) : Prop :=
xLen a0 fun v1000 =>
xMin v1000 (.int .i64 40) fun v1001 =>
xCutS 5 a0 none (some v1001) none fun v1002 =>
xLen v1002 fun v1003 =>
XLoop [(.int .i64 0), (.bool false)] w0 (S_law19_long_l1 K a0 v1002 v1003)
theorem W_law19_long {a0 : Value} {K : Value → World → Prop} {w : World} (h : S_law19_long a0 K w) : Ret P n_law19_long [a0] w K :=
  vcF_of mixed Tryz.func64 (show S_law19_long a0 K w = vcF P Tryz.f64 [a0] w K from by kernel_rfl) h
/- spunyarn/spunyarnlaw19.alive -/
abbrev S_law19_alive  (K : Value → World → Prop) (w0 : World) : Prop :=
Ret P n_tree_New [] w0 fun v1000 w1001 =>
Ret P n_tree_World_From [v1000, (.slice none 0 0)] w1001 fun v1002 w1003 =>
xTup v1002 0 fun v1004 =>
xTup v1002 1 fun v1005 =>
xFill (repL [(.int .u8 0)] 1) [(0, 1, (.int .u8 1))] fun c1006 =>
XNew w1003 c1006 5 fun a1007 w1008 =>
Ret P n_tree_Version_Put [v1004, (.slice (some a1007) 1 1), (.int .u64 5)] w1008 fun v1009 w1010 =>
xTup v1009 0 fun v1011 =>
xTup v1009 1 fun v1012 =>
/- 0 -/ XJ (fun J1013 =>
xPEq P w1010 v1004 (.pointer none) fun v1017 =>
xIf v1017 (J1013 [(.bool true)] w1010) (xPEq P w1010 v1011 (.pointer none) fun v1018 =>
xIf v1018 (J1013 [(.bool true)] w1010) (xNe v1005 (.int .i64 0) fun v1019 =>
xIf v1019 (J1013 [(.bool true)] w1010) (xNe v1012 (.int .i64 0) fun v1020 =>
J1013 [v1020] w1010)))) fun vs1014 g1015 w1016 =>
xIf (vs1014.getD 0 undef) (K (.bool false) w1016) (xFill (repL [(.int .u8 0)] 1) [(0, 1, (.int .u8 1))] fun c1021 =>
XNew w1016 c1021 5 fun a1022 w1023 =>
Ret P n_tree_Version_Get [v1011, (.slice (some a1022) 1 1)] w1023 fun v1024 w1025 =>
xTup v1024 0 fun v1026 =>
xTup v1024 1 fun v1027 =>
xFill (repL [(.int .u8 0)] 1) [(0, 1, (.int .u8 1))] fun c1028 =>
XNew w1025 c1028 5 fun a1029 w1030 =>
Ret P n_tree_Version_Del [v1011, (.slice (some a1029) 1 1)] w1030 fun v1031 w1032 =>
xTup v1031 0 fun v1033 =>
xTup v1031 1 fun v1034 =>
xTup v1031 2 fun v1035 =>
/- 0 -/ XJ (fun J1036 =>
xEq v1026 (.int .u64 5) fun v1040 =>
xIf v1040 (xIf v1027 (Ret P n_tree_Version_Shape [v1011] w1032 fun v1041 w1042 =>
xSEq v1041 (.string ⟨#[76, 48, 49, 61, 53]⟩) fun v1043 =>
xIf v1043 (Ret P n_tree_Version_Len [v1004] w1042 fun v1044 w1045 =>
xEq v1044 (.int .i64 0) fun v1046 =>
xIf v1046 (Ret P n_tree_Version_Len [v1011] w1045 fun v1047 w1048 =>
xEq v1047 (.int .i64 1) fun v1049 =>
xIf v1049 (Ret P n_tree_Version_Len [v1033] w1048 fun v1050 w1051 =>
xEq v1050 (.int .i64 0) fun v1052 =>
xIf v1052 (xIf v1034 (xEq v1035 (.int .i64 0) fun v1053 =>
xIf v1053 (Ret P n_tree_World_Made [v1000] w1051 fun v1054 w1055 =>
xEq v1054 (.int .i64 1) fun v1056 =>
xIf v1056 (Ret P n_tree_Version_World [v1011] w1055 fun v1057 w1058 =>
xPEq P w1058 v1057 v1000 fun v1059 =>
J1036 [v1059] w1058) (J1036 [(.bool false)] w1055)) (J1036 [(.bool false)] w1051)) (J1036 [(.bool false)] w1051)) (J1036 [(.bool false)] w1051)) (J1036 [(.bool false)] w1048)) (J1036 [(.bool false)] w1045)) (J1036 [(.bool false)] w1042)) (J1036 [(.bool false)] w1032)) (J1036 [(.bool false)] w1032)) fun vs1037 g1038 w1039 =>
K (vs1037.getD 0 undef) w1039)
theorem W_law19_alive {K : Value → World → Prop} {w : World} (h : S_law19_alive  K w) : Ret P n_law19_alive [] w K :=
  vcF_of mixed Tryz.func65 (show S_law19_alive  K w = vcF P Tryz.f65 [] w K from by kernel_rfl) h
/- spunyarn/spunyarnlaw19.after -/
abbrev S_law19_after (a0 : Value) (a1 : Value) (a2 : Value) (K : Value → World → Prop) (w0 : World) : Prop :=
XNew w0 (cellsV a2) 144 fun a1000 w1001 =>
XLd w1001 (a1000.add 0) fun v1002 =>
xRem v1002 (.int .u8 6) fun v1003 =>
xEq v1003 (.int .u8 0) fun v1004 =>
xIf v1004 (XLd w1001 (a1000.add 4) fun v1005 =>
Ret P n_law19_pairs [v1005] w1001 fun v1006 w1007 =>
Ret P n_tree_World_From [a0, v1006] w1007 fun v1008 w1009 =>
xTup v1008 0 fun v1010 =>
xTup v1008 1 fun v1011 =>
K (.tuple #[v1010, v1011]) w1009) (xEq v1003 (.int .u8 1) fun v1012 =>
xIf v1012 (XLd w1001 (a1000.add 2) fun v1013 =>
XLd w1001 (a1000.add 3) fun v1014 =>
Ret P n_tree_Version_Put [a1, v1013, v1014] w1001 fun v1015 w1016 =>
xTup v1015 0 fun v1017 =>
xTup v1015 1 fun v1018 =>
K (.tuple #[v1017, v1018]) w1016) (xEq v1003 (.int .u8 2) fun v1019 =>
xIf v1019 (XLd w1001 (a1000.add 2) fun v1020 =>
Ret P n_tree_Version_Del [a1, v1020] w1001 fun v1021 w1022 =>
xTup v1021 0 fun v1023 =>
xTup v1021 1 fun v1024 =>
xTup v1021 2 fun v1025 =>
K (.tuple #[v1023, v1025]) w1022) (xEq v1003 (.int .u8 3) fun v1026 =>
xIf v1026 (XLd w1001 (a1000.add 2) fun v1027 =>
Ret P n_tree_Version_Sub [a1, v1027] w1001 fun v1028 w1029 =>
xTup v1028 0 fun v1030 =>
xTup v1028 1 fun v1031 =>
K (.tuple #[v1030, v1031]) w1029) (xEq v1003 (.int .u8 4) fun v1032 =>
xIf v1032 (XLd w1001 (a1000.add 2) fun v1033 =>
Ret P n_tree_Version_Strip [a1, v1033] w1001 fun v1034 w1035 =>
xTup v1034 0 fun v1036 =>
xTup v1034 1 fun v1037 =>
K (.tuple #[v1036, v1037]) w1035) (XLd w1001 (a1000.add 2) fun v1038 =>
Ret P n_tree_Version_Under [a1, v1038] w1001 fun v1039 w1040 =>
xTup v1039 0 fun v1041 =>
xTup v1039 1 fun v1042 =>
K (.tuple #[v1041, v1042]) w1040)))))
theorem W_law19_after {a0 a1 a2 : Value} {K : Value → World → Prop} {w : World} (h : S_law19_after a0 a1 a2 K w) : Ret P n_law19_after [a0, a1, a2] w K :=
  vcF_of mixed Tryz.func66 (show S_law19_after a0 a1 a2 K w = vcF P Tryz.f66 [a0, a1, a2] w K from by kernel_rfl) h
/- spunyarn/spunyarnlaw19.same -/
/- S_law19_same_l1: 0=slot 10 1=slot 5 l -/
def S_law19_same_l1 (K : Value → World → Prop) (a0 : Value) (a1 : Value) (v1000 : Value) (I1001 : Nat → List Value → World → Prop) (n1002 : Nat) (vs1003 : List Value) (g1004 : Nat → Value) (w1005 : World) : Prop :=
xLt (vs1003.getD 0 undef) v1000 fun v1006 =>
xIf v1006 (xIxS a0 (vs1003.getD 0 undef) 2 fun v1007 =>
xAt v1007 fun a1008 =>
XLdN w1005 a1008 2 fun v1009 =>
XNew w1005 [(.slice none 0 0), (.int .u64 0)] 158 fun a1010 w1011 =>
XDo P (storeVar 158 a1010 v1009) w1011 fun w1012 =>
XLdN w1012 a1010 2 fun v1013 =>
xFill (repL [(.slice none 0 0), (.int .u64 0)] 1) [(0, 2, v1013)] fun c1014 =>
XNew w1012 c1014 86 fun a1015 w1016 =>
XRun P (Builtin.append_ #[33, 33] 33 #[(vs1003.getD 1 undef), (.slice (some a1015) 1 1)]) w1016 fun v1017 w1018 =>
xAdd (vs1003.getD 0 undef) (.int .i64 1) fun v1019 =>
XNext I1001 n1002 [v1019, v1017] w1018) (Ret P n_ref19_Same [(vs1003.getD 1 undef), a1] w1005 fun v1020 w1021 =>
K v1020 w1021)
abbrev S_law19_same (a0 : Value) (a1 : Value) (K : Value → World → Prop) (w0 : World) : Prop :=
xLen a0 fun v1000 =>
XLoop [(.int .i64 0), (.slice none 0 0)] w0 (S_law19_same_l1 K a0 a1 v1000)
theorem W_law19_same {a0 a1 : Value} {K : Value → World → Prop} {w : World} (h : S_law19_same a0 a1 K w) : Ret P n_law19_same [a0, a1] w K :=
  vcF_of mixed Tryz.func68 (show S_law19_same a0 a1 K w = vcF P Tryz.f68 [a0, a1] w K from by kernel_rfl) h
/- spunyarn/spunyarnlaw19.far -/
/- S_law19_far_l1: 0=slot 13 1=slot 4 -/
def S_law19_far_l1 (K : Value → World → Prop) (a0 : Value) (v1002 : Value) (I1003 : Nat → List Value → World → Prop) (n1004 : Nat) (vs1005 : List Value) (g1006 : Nat → Value) (w1007 : World) : Prop :=
xLt (vs1005.getD 0 undef) v1002 fun v1008 =>
xIf v1008 (xIxS a0 (vs1005.getD 0 undef) 2 fun v1009 =>
xAt v1009 fun a1010 =>
XLdN w1007 a1010 2 fun v1011 =>
XNew w1007 [(.slice none 0 0), (.int .u64 0)] 86 fun a1012 w1013 =>
XDo P (storeVar 86 a1012 v1011) w1013 fun w1014 =>
XLd w1014 (a1012.add 0) fun v1015 =>
xLen v1015 fun v1016 =>
xGt v1016 (.int .i64 300) fun v1017 =>
xIf v1017 (K (.bool true) w1014) (xAdd (vs1005.getD 0 undef) (.int .i64 1) fun v1018 =>
XNext I1003 n1004 [v1018, (vs1005.getD 1 undef)] w1014)) (K (.bool false) w1007)
abbrev S_law19_far (a0 : Value) (a1 : Value) (K : Value → World → Prop) (w0 : World) : Prop :=
xLen a0 fun v1000 =>
xGt v1000 a1 fun v1001 =>
xIf v1001 (K (.bool true) w0) (xLen a0 fun v1002 =>
XLoop [(.int .i64 0), (.bool false)] w0 (S_law19_far_l1 K a0 v1002))
theorem W_law19_far {a0 a1 : Value} {K : Value → World → Prop} {w : World} (h : S_law19_far a0 a1 K w) : Ret P n_law19_far [a0, a1] w K :=
  vcF_of mixed Tryz.func119 (show S_law19_far a0 a1 K w = vcF P Tryz.f119 [a0, a1] w K from by kernel_rfl) h
/- spunyarn/spunyarnlaw19.pairs -/
/- S_law19_pairs_l1: 0=slot 8 1=slot 3 out -/
def S_law19_pairs_l1 (K : Value → World → Prop) (a0 : Value) (v1000 : Value) (I1001 : Nat → List Value → World → Prop) (n1002 : Nat) (vs1003 : List Value) (g1004 : Nat → Value) (w1005 : World) : Prop :=
xLt (vs1003.getD 0 undef) v1000 fun v1006 =>
xIf v1006 (xIxS a0 (vs1003.getD 0 undef) 2 fun v1007 =>
xAt v1007 fun a1008 =>
XLdN w1005 a1008 2 fun v1009 =>
XNew w1005 [(.slice none 0 0), (.int .u64 0)] 86 fun a1010 w1011 =>
XDo P (storeVar 86 a1010 v1009) w1011 fun w1012 =>
XLdN w1012 a1010 2 fun v1013 =>
xFill (repL [(.slice none 0 0), (.int .u64 0)] 1) [(0, 2, v1013)] fun c1014 =>
XNew w1012 c1014 158 fun a1015 w1016 =>
XRun P (Builtin.append_ #[76, 76] 76 #[(vs1003.getD 1 undef), (.slice (some a1015) 1 1)]) w1016 fun v1017 w1018 =>
xAdd (vs1003.getD 0 undef) (.int .i64 1) fun v1019 =>
XNext I1001 n1002 [v1019, v1017] w1018) (K (vs1003.getD 1 undef) w1005)
abbrev S_law19_pairs (a0 : Value) (K : Value → World → Prop) (w0 : World) : Prop :=
xLen a0 fun v1000 =>
XLoop [(.int .i64 0), (.slice none 0 0)] w0 (S_law19_pairs_l1 K a0 v1000)
theorem W_law19_pairs {a0 : Value} {K : Value → World → Prop} {w : World} (h : S_law19_pairs a0 K w) : Ret P n_law19_pairs [a0] w K :=
  vcF_of mixed Tryz.func122 (show S_law19_pairs a0 K w = vcF P Tryz.f122 [a0] w K from by kernel_rfl) h
end Go.Proofs.YthnegkjhciakpaaGreatDoor
