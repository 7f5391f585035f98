/-  Written by gen.py for this claim: of each function a form without frames, the same as the engine's condition by reckoning.  -/
import Derived.Test.YtbgfmgkimccbeaaGreatDoorSN
import Derived.Test.YtbgfmgkimccbeaaGreatDoorProg
namespace Go.Proofs.YtbgfmgkimccbeaaGreatDoor
open Go X
set_option linter.unusedVariables false
set_option maxRecDepth 100000
/- spunyarn/spunyarnlaw25.InterIs -/
abbrev S_law25_InterIs (a0 : Value) (a1 : Value) (a2 : Value) (K : Value → World → Prop) (w0 : World) : Prop :=
XNew w0 (cellsV a2) 37 fun a1000 w1001 =>
XLdN w1001 a1000 3 fun v1002 =>
Ret P n_law25_large [a1, v1002] w1001 fun v1003 w1004 =>
xIf v1003 (Ret P n_law25_alive [] w1004 fun v1005 w1006 =>
K v1005 w1006) (Ret P n_ref13_Sort [a1] w1004 fun v1007 w1008 =>
Ret P n_law25_tree [v1007, (.int .u64 1)] w1008 fun v1009 w1010 =>
XLdN w1010 a1000 3 fun v1011 =>
Ret P n_law25_second [v1009, v1007, v1011] w1010 fun v1012 w1013 =>
xTup v1012 0 fun v1014 =>
xTup v1012 1 fun v1015 =>
Ret P n_inter_Of [a0, v1009, v1014, (.int .u64 1), (.pointer none)] w1013 fun v1016 w1017 =>
xTup v1016 0 fun v1018 =>
xTup v1016 1 fun v1019 =>
Ret P n_inter_Of [a0, v1009, v1014, (.int .u64 0), (.pointer none)] w1017 fun v1020 w1021 =>
xTup v1020 0 fun v1022 =>
xTup v1020 1 fun v1023 =>
Ret P n_ref25_Inter [a0, v1007, v1015] w1021 fun v1024 w1025 =>
/- 0 -/ XJ (fun J1026 =>
xPNe P w1025 v1022 (.pointer none) fun v1030 =>
xIf v1030 (J1026 [(.bool true)] w1025) (xNe v1023 (.int .i64 1) fun v1031 =>
xIf v1031 (J1026 [(.bool true)] w1025) (Ret P n_inter_Apart [v1009, v1014] w1025 fun v1032 w1033 =>
xLen v1024 fun v1034 =>
xEq v1034 (.int .i64 0) fun v1035 =>
xBNe v1032 v1035 fun v1036 =>
J1026 [v1036] w1033))) fun vs1027 g1028 w1029 =>
xIf (vs1027.getD 0 undef) (K (.bool false) w1029) (Ret P n_ref24_Pick [a0, (.int .u64 0), (.int .u64 0)] w1029 fun v1037 w1038 =>
xTup v1037 0 fun v1039 =>
xTup v1037 1 fun v1040 =>
xNe v1040 (.int .i64 0) fun v1041 =>
xIf v1041 (/- 0 -/ XJ (fun J1042 =>
xPEq P w1038 v1018 (.pointer none) fun v1046 =>
xIf v1046 (xEq v1019 (.int .i64 1) fun v1047 =>
xIf v1047 (Ret P n_law25_alive [] w1038 fun v1048 w1049 =>
J1042 [v1048] w1049) (J1042 [(.bool false)] w1038)) (J1042 [(.bool false)] w1038)) fun vs1043 g1044 w1045 =>
K (vs1043.getD 0 undef) w1045) (/- 0 -/ XJ (fun J1050 =>
xEq v1019 (.int .i64 0) fun v1054 =>
xIf v1054 (Ret P n_law25_as [v1018, v1024] w1038 fun v1055 w1056 =>
xIf v1055 (Ret P n_law25_as [v1009, v1007] w1056 fun v1057 w1058 =>
xIf v1057 (Ret P n_law25_as [v1014, v1015] w1058 fun v1059 w1060 =>
xIf v1059 (Ret P n_law25_alive [] w1060 fun v1061 w1062 =>
J1050 [v1061] w1062) (J1050 [(.bool false)] w1060)) (J1050 [(.bool false)] w1058)) (J1050 [(.bool false)] w1056)) (J1050 [(.bool false)] w1038)) fun vs1051 g1052 w1053 =>
K (vs1051.getD 0 undef) w1053)))
theorem W_law25_InterIs {a0 a1 a2 : Value} {K : Value → World → Prop} {w : World} (h : S_law25_InterIs a0 a1 a2 K w) : Ret P n_law25_InterIs [a0, a1, a2] w K :=
  vcF_of mixed Tryz.func4 (show S_law25_InterIs a0 a1 a2 K w = vcF P Tryz.f4 [a0, a1, a2] w K from by kernel_rfl) h
/- spunyarn/spunyarnlaw25.InterIdle -/
abbrev S_law25_InterIdle (a0 : Value) (a1 : Value) (a2 : Value) (K : Value → World → Prop) (w0 : World) : Prop :=
XNew w0 (cellsV a2) 37 fun a1000 w1001 =>
/- 0 -/ XJ (fun J1002 =>
XLdN w1001 a1000 3 fun v1006 =>
Ret P n_law25_large [a1, v1006] w1001 fun v1007 w1008 =>
xIf v1007 (J1002 [(.bool true)] w1008) (xLt a0 (.int .i64 1) fun v1009 =>
xIf v1009 (J1002 [(.bool true)] w1008) (xGt a0 (.int .i64 5) fun v1010 =>
J1002 [v1010] w1008))) fun vs1003 g1004 w1005 =>
xIf (vs1003.getD 0 undef) (Ret P n_law25_alive [] w1005 fun v1011 w1012 =>
K v1011 w1012) (Ret P n_ref13_Sort [a1] w1005 fun v1013 w1014 =>
Ret P n_law25_tree [v1013, (.int .u64 1)] w1014 fun v1015 w1016 =>
XLdN w1016 a1000 3 fun v1017 =>
Ret P n_law25_second [v1015, v1013, v1017] w1016 fun v1018 w1019 =>
xTup v1018 0 fun v1020 =>
xTup v1018 1 fun v1021 =>
XNew w1019 [(.int .i64 0)] 54 fun a1022 w1023 =>
Ret P n_inter_Of [a0, v1015, v1020, (.int .u64 3), (.pointer (some a1022))] w1023 fun v1024 w1025 =>
xTup v1024 0 fun v1026 =>
xTup v1024 1 fun v1027 =>
/- 0 -/ XJ (fun J1028 =>
Ret P n_ref25_Inter [a0, v1013, v1021] w1025 fun v1032 w1033 =>
Ret P n_ref19_Same [v1032, v1013] w1033 fun v1034 w1035 =>
xIf v1034 (xPNe P w1035 v1026 v1015 fun v1036 =>
xIf v1036 (J1028 [(.bool true)] w1035) (Ret P n_meter_Meter_Count [(.pointer (some a1022))] w1035 fun v1037 w1038 =>
xNe v1037 (.int .i64 0) fun v1039 =>
J1028 [v1039] w1038)) (J1028 [(.bool false)] w1035)) fun vs1029 g1030 w1031 =>
xIf (vs1029.getD 0 undef) (K (.bool false) w1031) (Ret P n_meter_Meter_Count [(.pointer (some a1022))] w1031 fun v1040 w1041 =>
Ret P n_inter_Of [(.int .i64 1), v1026, v1015, (.int .u64 3), (.pointer (some a1022))] w1041 fun v1042 w1043 =>
xTup v1042 0 fun v1044 =>
xTup v1042 1 fun v1045 =>
Ret P n_inter_Of [(.int .i64 4), v1015, v1015, (.int .u64 3), (.pointer (some a1022))] w1043 fun v1046 w1047 =>
xTup v1046 0 fun v1048 =>
xTup v1046 1 fun v1049 =>
/- 0 -/ XJ (fun J1050 =>
xPEq P w1047 v1044 v1026 fun v1054 =>
xIf v1054 (xPEq P w1047 v1048 v1015 fun v1055 =>
xIf v1055 (Ret P n_meter_Meter_Count [(.pointer (some a1022))] w1047 fun v1056 w1057 =>
xEq v1056 v1040 fun v1058 =>
xIf v1058 (Ret P n_law25_alive [] w1057 fun v1059 w1060 =>
J1050 [v1059] w1060) (J1050 [(.bool false)] w1057)) (J1050 [(.bool false)] w1047)) (J1050 [(.bool false)] w1047)) fun vs1051 g1052 w1053 =>
K (vs1051.getD 0 undef) w1053))
theorem W_law25_InterIdle {a0 a1 a2 : Value} {K : Value → World → Prop} {w : World} (h : S_law25_InterIdle a0 a1 a2 K w) : Ret P n_law25_InterIdle [a0, a1, a2] w K :=
  vcF_of mixed Tryz.func5 (show S_law25_InterIdle a0 a1 a2 K w = vcF P Tryz.f5 [a0, a1, a2] w K from by kernel_rfl) h
/- spunyarn/spunyarnlaw25.InterLaws -/
abbrev S_law25_InterLaws (a0 : Value) (a1 : Value) (K : Value → World → Prop) (w0 : World) : Prop :=
XNew w0 (cellsV a1) 57 fun a1000 w1001 =>
/- 0 -/ XJ (fun J1002 =>
xIxA (.pointer (some a1000)) (.int .i64 0) 3 1 fun v1006 =>
xAt v1006 fun a1007 =>
XLd w1001 a1007 fun v1008 =>
Ret P n_law25_far [v1008, (.int .i64 60)] w1001 fun v1009 w1010 =>
xIf v1009 (J1002 [(.bool true)] w1010) (xIxA (.pointer (some a1000)) (.int .i64 1) 3 1 fun v1011 =>
xAt v1011 fun a1012 =>
XLd w1010 a1012 fun v1013 =>
Ret P n_law25_far [v1013, (.int .i64 60)] w1010 fun v1014 w1015 =>
xIf v1014 (J1002 [(.bool true)] w1015) (xIxA (.pointer (some a1000)) (.int .i64 2) 3 1 fun v1016 =>
xAt v1016 fun a1017 =>
XLd w1015 a1017 fun v1018 =>
Ret P n_law25_far [v1018, (.int .i64 60)] w1015 fun v1019 w1020 =>
xIf v1019 (J1002 [(.bool true)] w1020) (xLt a0 (.int .i64 1) fun v1021 =>
xIf v1021 (J1002 [(.bool true)] w1020) (xGt a0 (.int .i64 5) fun v1022 =>
J1002 [v1022] w1020))))) fun vs1003 g1004 w1005 =>
xIf (vs1003.getD 0 undef) (Ret P n_law25_alive [] w1005 fun v1023 w1024 =>
K v1023 w1024) (xIxA (.pointer (some a1000)) (.int .i64 0) 3 1 fun v1025 =>
xAt v1025 fun a1026 =>
XLd w1005.drew a1026 fun v1027 =>
xIxA (.pointer (some a1000)) (.int .i64 1) 3 1 fun v1028 =>
xAt v1028 fun a1029 =>
XLd w1005.drew a1029 fun v1030 =>
xIxA (.pointer (some a1000)) (.int .i64 2) 3 1 fun v1031 =>
xAt v1031 fun a1032 =>
XLd w1005.drew a1032 fun v1033 =>
Ret P n_ref13_Sort [v1027] w1005.drew fun v1034 w1035 =>
xKeep1 w1035 v1031 v1033 ∧ (xKeep1 w1035 v1028 v1030 ∧ (Ret P n_law25_tree [v1034, (.int .u64 1)] w1035 fun v1036 w1037 =>
xKeep1 w1037 v1031 v1033 ∧ (xKeep1 w1037 v1028 v1030 ∧ (Ret P n_ref13_Sort [v1030] w1037 fun v1038 w1039 =>
xKeep1 w1039 v1031 v1033 ∧ (Ret P n_law25_tree [v1038, (.int .u64 2)] w1039 fun v1040 w1041 =>
xKeep1 w1041 v1031 v1033 ∧ (Ret P n_ref13_Sort [v1033] w1041 fun v1042 w1043 =>
Ret P n_law25_tree [v1042, (.int .u64 3)] w1043 fun v1044 w1045 =>
Ret P n_union_Of [(.int .i64 1), v1036, v1040, (.int .u64 4), (.pointer none)] w1045 fun v1046 w1047 =>
xTup v1046 0 fun v1048 =>
xTup v1046 1 fun v1049 =>
Ret P n_inter_Of [(.int .i64 1), v1048, v1044, (.int .u64 5), (.pointer none)] w1047 fun v1050 w1051 =>
xTup v1050 0 fun v1052 =>
xTup v1050 1 fun v1053 =>
Ret P n_inter_Of [(.int .i64 1), v1036, v1044, (.int .u64 6), (.pointer none)] w1051 fun v1054 w1055 =>
xTup v1054 0 fun v1056 =>
xTup v1054 1 fun v1057 =>
Ret P n_inter_Of [(.int .i64 1), v1040, v1044, (.int .u64 7), (.pointer none)] w1055 fun v1058 w1059 =>
xTup v1058 0 fun v1060 =>
xTup v1058 1 fun v1061 =>
Ret P n_union_Of [(.int .i64 1), v1056, v1060, (.int .u64 8), (.pointer none)] w1059 fun v1062 w1063 =>
xTup v1062 0 fun v1064 =>
xTup v1062 1 fun v1065 =>
Ret P n_inter_Of [(.int .i64 1), v1036, v1048, (.int .u64 9), (.pointer none)] w1063 fun v1066 w1067 =>
xTup v1066 0 fun v1068 =>
xTup v1066 1 fun v1069 =>
/- 0 -/ XJ (fun J1070 =>
Ret P n_canon_Shape [v1052] w1067 fun v1074 w1075 =>
Ret P n_canon_Shape [v1064] w1075 fun v1076 w1077 =>
xSNe v1074 v1076 fun v1078 =>
xIf v1078 (J1070 [(.bool true)] w1077) (xPNe P w1077 v1068 v1036 fun v1079 =>
xIf v1079 (J1070 [(.bool true)] w1077) (Ret P n_canon_Fine [v1052] w1077 fun v1080 w1081 =>
xNot v1080 fun v1082 =>
J1070 [v1082] w1081))) fun vs1071 g1072 w1073 =>
xIf (vs1071.getD 0 undef) (K (.bool false) w1073) (Ret P n_inter_Of [a0, v1036, v1040, (.int .u64 10), (.pointer none)] w1073 fun v1083 w1084 =>
xTup v1083 0 fun v1085 =>
xTup v1083 1 fun v1086 =>
Ret P n_inter_Of [a0, v1085, v1044, (.int .u64 11), (.pointer none)] w1084 fun v1087 w1088 =>
xTup v1087 0 fun v1089 =>
xTup v1087 1 fun v1090 =>
Ret P n_inter_Of [a0, v1040, v1044, (.int .u64 12), (.pointer none)] w1088 fun v1091 w1092 =>
xTup v1091 0 fun v1093 =>
xTup v1091 1 fun v1094 =>
Ret P n_inter_Of [a0, v1036, v1093, (.int .u64 13), (.pointer none)] w1092 fun v1095 w1096 =>
xTup v1095 0 fun v1097 =>
xTup v1095 1 fun v1098 =>
/- 0 1 back 2 -/ XJ (fun J1099 =>
xEq a0 (.int .i64 1) fun v1103 =>
xIf v1103 (J1099 [v1103, (.int .i64 2), undef] w1096) (xEq a0 (.int .i64 2) fun v1104 =>
xIf v1104 (J1099 [v1103, (.int .i64 1), v1104] w1096) (J1099 [v1103, a0, v1104] w1096))) fun vs1100 g1101 w1102 =>
Ret P n_inter_Of [(vs1100.getD 1 undef), v1040, v1036, (.int .u64 14), (.pointer none)] w1102 fun v1105 w1106 =>
xTup v1105 0 fun v1107 =>
xTup v1105 1 fun v1108 =>
/- 0 -/ XJ (fun J1109 =>
Ret P n_canon_Shape [v1089] w1106 fun v1113 w1114 =>
Ret P n_canon_Shape [v1097] w1114 fun v1115 w1116 =>
xSEq v1113 v1115 fun v1117 =>
xIf v1117 (Ret P n_canon_Shape [v1107] w1116 fun v1118 w1119 =>
Ret P n_canon_Shape [v1085] w1119 fun v1120 w1121 =>
xSEq v1118 v1120 fun v1122 =>
xIf v1122 (Ret P n_law25_alive [] w1121 fun v1123 w1124 =>
J1109 [v1123] w1124) (J1109 [(.bool false)] w1121)) (J1109 [(.bool false)] w1116)) fun vs1110 g1111 w1112 =>
K (vs1110.getD 0 undef) w1112))))))))
theorem W_law25_InterLaws {a0 a1 : Value} {K : Value → World → Prop} {w : World} (h : S_law25_InterLaws a0 a1 K w) : Ret P n_law25_InterLaws [a0, a1] w K :=
  vcF_of mixed Tryz.func6 (show S_law25_InterLaws a0 a1 K w = vcF P Tryz.f6 [a0, a1] w K from by kernel_rfl) h
/- spunyarn/spunyarnlaw25.large -/
/- S_law25_large_l1: 0=slot 23 1=slot 6 k 2=slot 4 -/
def S_law25_large_l1 (K : Value → World → Prop) (v1014 : Value) (v1015 : Value) (I1016 : Nat → List Value → World → Prop) (n1017 : Nat) (vs1018 : List Value) (g1019 : Nat → Value) (w1020 : World) : Prop :=
xLt (vs1018.getD 0 undef) v1015 fun v1021 =>
xIf v1021 (xIxS v1014 (vs1018.getD 0 undef) 1 fun v1022 =>
xAt v1022 fun a1023 =>
XLd w1020 a1023 fun v1024 =>
xLen v1024 fun v1025 =>
xGt v1025 (.int .i64 300) fun v1026 =>
xIf v1026 (K (.bool true) w1020) (xAdd (vs1018.getD 0 undef) (.int .i64 1) fun v1027 =>
XNext I1016 n1017 [v1027, v1024, (vs1018.getD 2 undef)] w1020)) (K (.bool false) w1020)
abbrev S_law25_large (a0 : Value) (a1 : Value) (K : Value → World → Prop) (w0 : World) : Prop :=
XNew w0 (cellsV a1) 37 fun a1000 w1001 =>
/- 0 -/ XJ (fun J1002 =>
Ret P n_law25_far [a0, (.int .i64 100)] w1001 fun v1006 w1007 =>
xIf v1006 (J1002 [(.bool true)] w1007) (XLd w1007 (a1000.add 1) fun v1008 =>
Ret P n_law25_far [v1008, (.int .i64 60)] w1007 fun v1009 w1010 =>
xIf v1009 (J1002 [(.bool true)] w1010) (XLd w1010 (a1000.add 2) fun v1011 =>
xLen v1011 fun v1012 =>
xGt v1012 (.int .i64 40) fun v1013 =>
J1002 [v1013] w1010))) fun vs1003 g1004 w1005 =>
xIf (vs1003.getD 0 undef) (K (.bool true) w1005) (XLd w1005 (a1000.add 2) fun v1014 =>
xLen v1014 fun v1015 =>
XLoop [(.int .i64 0), undef, (.bool false)] w1005 (S_law25_large_l1 K v1014 v1015))
theorem W_law25_large {a0 a1 : Value} {K : Value → World → Prop} {w : World} (h : S_law25_large a0 a1 K w) : Ret P n_law25_large [a0, a1] w K :=
  vcF_of mixed Tryz.func15 (show S_law25_large a0 a1 K w = vcF P Tryz.f15 [a0, a1] w K from by kernel_rfl) h
/- spunyarn/spunyarnlaw25.alive -/
abbrev S_law25_alive  (K : Value → World → Prop) (w0 : World) : Prop :=
xFill (repL [(.int .u8 0)] 1) [(0, 1, (.int .u8 1))] fun c1000 =>
XNew w0 c1000 5 fun a1001 w1002 =>
xFill [(.slice none 0 0), (.int .u64 0)] [(0, 1, (.slice (some a1001) 1 1)), (1, 1, (.int .u64 5))] fun c1003 =>
xFill (repL [(.int .u8 0)] 1) [(0, 1, (.int .u8 2))] fun c1004 =>
XNew w1002 c1004 5 fun a1005 w1006 =>
xFill [(.slice none 0 0), (.int .u64 0)] [(0, 1, (.slice (some a1005) 1 1)), (1, 1, (.int .u64 6))] fun c1007 =>
xFill (repL [(.slice none 0 0), (.int .u64 0)] 2) [(0, 2, (.agg c1003.toArray)), (2, 2, (.agg c1007.toArray))] fun c1008 =>
XNew w1006 c1008 63 fun a1009 w1010 =>
Ret P n_law25_tree [(.slice (some a1009) 2 2), (.int .u64 1)] w1010 fun v1011 w1012 =>
xFill (repL [(.int .u8 0)] 1) [(0, 1, (.int .u8 2))] fun c1013 =>
XNew w1012 c1013 5 fun a1014 w1015 =>
xFill [(.slice none 0 0), (.int .u64 0)] [(0, 1, (.slice (some a1014) 1 1)), (1, 1, (.int .u64 7))] fun c1016 =>
xFill (repL [(.int .u8 0)] 1) [(0, 1, (.int .u8 3))] fun c1017 =>
XNew w1015 c1017 5 fun a1018 w1019 =>
xFill [(.slice none 0 0), (.int .u64 0)] [(0, 1, (.slice (some a1018) 1 1)), (1, 1, (.int .u64 8))] fun c1020 =>
xFill (repL [(.slice none 0 0), (.int .u64 0)] 2) [(0, 2, (.agg c1016.toArray)), (2, 2, (.agg c1020.toArray))] fun c1021 =>
XNew w1019 c1021 63 fun a1022 w1023 =>
Ret P n_law25_tree [(.slice (some a1022) 2 2), (.int .u64 1)] w1023 fun v1024 w1025 =>
Ret P n_inter_Of [(.int .i64 2), v1011, v1024, (.int .u64 2), (.pointer none)] w1025 fun v1026 w1027 =>
xTup v1026 0 fun v1028 =>
xTup v1026 1 fun v1029 =>
/- 0 -/ XJ (fun J1030 =>
Ret P n_canon_Shape [v1028] w1027 fun v1034 w1035 =>
xSEq v1034 (.string ⟨#[76, 48, 50, 61, 55]⟩) fun v1036 =>
xIf v1036 (xEq v1029 (.int .i64 0) fun v1037 =>
xIf v1037 (Ret P n_inter_Apart [v1011, v1024] w1035 fun v1038 w1039 =>
xNot v1038 fun v1040 =>
xIf v1040 (Ret P n_inter_Apart [v1011, (.pointer none)] w1039 fun v1041 w1042 =>
J1030 [v1041] w1042) (J1030 [(.bool false)] w1039)) (J1030 [(.bool false)] w1035)) (J1030 [(.bool false)] w1035)) fun vs1031 g1032 w1033 =>
K (vs1031.getD 0 undef) w1033
theorem W_law25_alive {K : Value → World → Prop} {w : World} (h : S_law25_alive  K w) : Ret P n_law25_alive [] w K :=
  vcF_of mixed Tryz.func16 (show S_law25_alive  K w = vcF P Tryz.f16 [] w K from by kernel_rfl) h
/- spunyarn/spunyarnlaw25.tree -/
/- S_law25_tree_l1: 0=slot 12 1=slot 5 out -/
def S_law25_tree_l1 (K : Value → World → Prop) (a0 : Value) (a1 : Value) (v1000 : Value) (I1001 : Nat → List Value → World → Prop) (n1002 : Nat) (vs1003 : List Value) (g1004 : Nat → Value) (w1005 : World) : Prop :=
xLt (vs1003.getD 0 undef) v1000 fun v1006 =>
xIf v1006 (xIxS a0 (vs1003.getD 0 undef) 2 fun v1007 =>
xAt v1007 fun a1008 =>
XLdN w1005 a1008 2 fun v1009 =>
XNew w1005 [(.slice none 0 0), (.int .u64 0)] 63 fun a1010 w1011 =>
XDo P (storeVar 63 a1010 v1009) w1011 fun w1012 =>
XLdN w1012 a1010 2 fun v1013 =>
xFill (repL [(.slice none 0 0), (.int .u64 0)] 1) [(0, 2, v1013)] fun c1014 =>
XNew w1012 c1014 68 fun a1015 w1016 =>
XRun P (Builtin.append_ #[67, 67] 67 #[(vs1003.getD 1 undef), (.slice (some a1015) 1 1)]) w1016 fun v1017 w1018 =>
xAdd (vs1003.getD 0 undef) (.int .i64 1) fun v1019 =>
XNext I1001 n1002 [v1019, v1017] w1018) (Ret P n_canon_Build [(.pointer none), a1, (vs1003.getD 1 undef)] w1005 fun v1020 w1021 =>
xTup v1020 0 fun v1022 =>
xTup v1020 1 fun v1023 =>
K v1022 w1021)
abbrev S_law25_tree (a0 : Value) (a1 : Value) (K : Value → World → Prop) (w0 : World) : Prop :=
xLen a0 fun v1000 =>
XLoop [(.int .i64 0), (.slice none 0 0)] w0 (S_law25_tree_l1 K a0 a1 v1000)
theorem W_law25_tree {a0 a1 : Value} {K : Value → World → Prop} {w : World} (h : S_law25_tree a0 a1 K w) : Ret P n_law25_tree [a0, a1] w K :=
  vcF_of mixed Tryz.func17 (show S_law25_tree a0 a1 K w = vcF P Tryz.f17 [a0, a1] w K from by kernel_rfl) h
/- spunyarn/spunyarnlaw25.second -/
/- S_law25_second_l1: 0=slot 51 1=slot 11 i 2=slot 12 k 3=slot 0 n 4=slot 1 l -/
def S_law25_second_l1 (K : Value → World → Prop) (v1035 : Value) (v1036 : Value) (I1037 : Nat → List Value → World → Prop) (n1038 : Nat) (vs1039 : List Value) (g1040 : Nat → Value) (w1041 : World) : Prop :=
xLt (vs1039.getD 0 undef) v1036 fun v1042 =>
xIf v1042 (xIxS v1035 (vs1039.getD 0 undef) 1 fun v1043 =>
xAt v1043 fun a1044 =>
XLd w1041 a1044 fun v1045 =>
xConv .u64 (vs1039.getD 0 undef) fun v1046 =>
xAdd v1046 (.int .u64 1000) fun v1047 =>
Ret P n_del_Del [(vs1039.getD 3 undef), v1045, v1047, (.pointer none)] w1041 fun v1048 w1049 =>
xTup v1048 0 fun v1050 =>
xTup v1048 1 fun v1051 =>
xTup v1048 2 fun v1052 =>
Ret P n_ref16_Del [(vs1039.getD 4 undef), v1045] w1049 fun v1053 w1054 =>
xTup v1053 0 fun v1055 =>
xTup v1053 1 fun v1056 =>
xAdd (vs1039.getD 0 undef) (.int .i64 1) fun v1057 =>
XNext I1037 n1038 [v1057, (vs1039.getD 0 undef), v1045, v1050, v1055] w1054) (K (.tuple #[(vs1039.getD 3 undef), (vs1039.getD 4 undef)]) w1041)
/- S_law25_second_l2: 0=slot 24 1=slot 9 i 2=slot 0 n 3=slot 1 l -/
def S_law25_second_l2 (K : Value → World → Prop) (a1000 : Addr) (v1008 : Value) (v1009 : Value) (I1010 : Nat → List Value → World → Prop) (n1011 : Nat) (vs1012 : List Value) (g1013 : Nat → Value) (w1014 : World) : Prop :=
xLt (vs1012.getD 0 undef) v1009 fun v1015 =>
xIf v1015 (xIxS v1008 (vs1012.getD 0 undef) 2 fun v1016 =>
xAt v1016 fun a1017 =>
XLdN w1014 a1017 2 fun v1018 =>
XNew w1014 [(.slice none 0 0), (.int .u64 0)] 63 fun a1019 w1020 =>
XDo P (storeVar 63 a1019 v1018) w1020 fun w1021 =>
XLd w1021 (a1019.add 0) fun v1022 =>
XLd w1021 (a1019.add 1) fun v1023 =>
xConv .u64 (vs1012.getD 0 undef) fun v1024 =>
xAdd v1024 (.int .u64 100) fun v1025 =>
Ret P n_put_Put [(vs1012.getD 2 undef), v1022, v1023, v1025, (.pointer none)] w1021 fun v1026 w1027 =>
xTup v1026 0 fun v1028 =>
xTup v1026 1 fun v1029 =>
XLd w1027 (a1019.add 0) fun v1030 =>
XLd w1027 (a1019.add 1) fun v1031 =>
Ret P n_ref15_Put [(vs1012.getD 3 undef), v1030, v1031] w1027 fun v1032 w1033 =>
xAdd (vs1012.getD 0 undef) (.int .i64 1) fun v1034 =>
XNext I1010 n1011 [v1034, (vs1012.getD 0 undef), v1028, v1032] w1033) (XLd w1014 (a1000.add 2) fun v1035 =>
xLen v1035 fun v1036 =>
XLoop [(.int .i64 0), undef, undef, (vs1012.getD 2 undef), (vs1012.getD 3 undef)] w1014 (S_law25_second_l1 K v1035 v1036))
abbrev S_law25_second (a0 : Value) (a1 : Value) (a2 : Value) (K : Value → World → Prop) (w0 : World) : Prop :=
XNew w0 (cellsV a2) 37 fun a1000 w1001 =>
XLd w1001 (a1000.add 0) fun v1002 =>
xIf v1002 (XLd w1001 (a1000.add 1) fun v1003 =>
Ret P n_ref13_Sort [v1003] w1001 fun v1004 w1005 =>
Ret P n_law25_tree [v1004, (.int .u64 2)] w1005 fun v1006 w1007 =>
K (.tuple #[v1006, v1004]) w1007) (XLd w1001 (a1000.add 1) fun v1008 =>
xLen v1008 fun v1009 =>
XLoop [(.int .i64 0), undef, a0, a1] w1001 (S_law25_second_l2 K a1000 v1008 v1009))
theorem W_law25_second {a0 a1 a2 : Value} {K : Value → World → Prop} {w : World} (h : S_law25_second a0 a1 a2 K w) : Ret P n_law25_second [a0, a1, a2] w K :=
  vcF_of mixed Tryz.func18 (show S_law25_second a0 a1 a2 K w = vcF P Tryz.f18 [a0, a1, a2] w K from by kernel_rfl) h
/- spunyarn/spunyarnlaw25.as -/
abbrev S_law25_as (a0 : Value) (a1 : Value) (K : Value → World → Prop) (w0 : World) : Prop :=
Ret P n_canon_Shape [a0] w0 fun v1000 w1001 =>
Ret P n_ref13_Build [a1] w1001 fun v1002 w1003 =>
Ret P n_ref13_Shape [v1002] w1003 fun v1004 w1005 =>
xSEq v1000 v1004 fun v1006 =>
K v1006 w1005
theorem W_law25_as {a0 a1 : Value} {K : Value → World → Prop} {w : World} (h : S_law25_as a0 a1 K w) : Ret P n_law25_as [a0, a1] w K :=
  vcF_of mixed Tryz.func23 (show S_law25_as a0 a1 K w = vcF P Tryz.f23 [a0, a1] w K from by kernel_rfl) h
/- spunyarn/spunyarnlaw25.far -/
/- S_law25_far_l1: 0=slot 13 1=slot 4 -/
def S_law25_far_l1 (K : Value → World → Prop) (a0 : Value) (v1002 : Value) (I1003 : Nat → List Value → World → Prop) (n1004 : Nat) (vs1005 : List Value) (g1006 : Nat → Value) (w1007 : World) : Prop :=
xLt (vs1005.getD 0 undef) v1002 fun v1008 =>
xIf v1008 (xIxS a0 (vs1005.getD 0 undef) 2 fun v1009 =>
xAt v1009 fun a1010 =>
XLdN w1007 a1010 2 fun v1011 =>
XNew w1007 [(.slice none 0 0), (.int .u64 0)] 63 fun a1012 w1013 =>
XDo P (storeVar 63 a1012 v1011) w1013 fun w1014 =>
XLd w1014 (a1012.add 0) fun v1015 =>
xLen v1015 fun v1016 =>
xGt v1016 (.int .i64 300) fun v1017 =>
xIf v1017 (K (.bool true) w1014) (xAdd (vs1005.getD 0 undef) (.int .i64 1) fun v1018 =>
XNext I1003 n1004 [v1018, (vs1005.getD 1 undef)] w1014)) (K (.bool false) w1007)
abbrev S_law25_far (a0 : Value) (a1 : Value) (K : Value → World → Prop) (w0 : World) : Prop :=
xLen a0 fun v1000 =>
xGt v1000 a1 fun v1001 =>
xIf v1001 (K (.bool true) w0) (xLen a0 fun v1002 =>
XLoop [(.int .i64 0), (.bool false)] w0 (S_law25_far_l1 K a0 v1002))
theorem W_law25_far {a0 a1 : Value} {K : Value → World → Prop} {w : World} (h : S_law25_far a0 a1 K w) : Ret P n_law25_far [a0, a1] w K :=
  vcF_of mixed Tryz.func25 (show S_law25_far a0 a1 K w = vcF P Tryz.f25 [a0, a1] w K from by kernel_rfl) h
end Go.Proofs.YtbgfmgkimccbeaaGreatDoor
