/-  Written by gen.py for this claim: of each function a form without frames, the same as the engine's condition by reckoning.  -/
import Derived.Test.YthnegkjhciakpaaGreatDoorSN
import Derived.Test.YthnegkjhciakpaaGreatDoorProg
namespace Go.Proofs.YthnegkjhciakpaaGreatDoor
open Go X
set_option linter.unusedVariables false
set_option maxRecDepth 100000
/- spunyarn/spunyarnlaw24.UnionPicks -/
abbrev S_law24_UnionPicks (a0 : Value) (a1 : Value) (a2 : Value) (K : Value → World → Prop) (w0 : World) : Prop :=
Ret P n_union_Pick [a0, a1, a2] w0 fun v1000 w1001 =>
xTup v1000 0 fun v1002 =>
xTup v1000 1 fun v1003 =>
Ret P n_ref24_Pick [a0, a1, a2] w1001 fun v1004 w1005 =>
xTup v1004 0 fun v1006 =>
xTup v1004 1 fun v1007 =>
Ret P n_union_Of [a0, (.pointer none), (.pointer none), (.int .u64 1), (.pointer none)] w1005 fun v1008 w1009 =>
xTup v1008 0 fun v1010 =>
xTup v1008 1 fun v1011 =>
/- 0 -/ XJ (fun J1012 =>
xEq v1002 v1006 fun v1016 =>
xIf v1016 (xEq v1003 v1007 fun v1017 =>
xIf v1017 (xEq v1011 v1007 fun v1018 =>
xIf v1018 (xPEq P w1009 v1010 (.pointer none) fun v1019 =>
xIf v1019 (Ret P n_law24_alive [] w1009 fun v1020 w1021 =>
J1012 [v1020] w1021) (J1012 [(.bool false)] w1009)) (J1012 [(.bool false)] w1009)) (J1012 [(.bool false)] w1009)) (J1012 [(.bool false)] w1009)) fun vs1013 g1014 w1015 =>
K (vs1013.getD 0 undef) w1015
theorem W_law24_UnionPicks {a0 a1 a2 : Value} {K : Value → World → Prop} {w : World} (h : S_law24_UnionPicks a0 a1 a2 K w) : Ret P n_law24_UnionPicks [a0, a1, a2] w K :=
  vcF_of mixed Tryz.func3 (show S_law24_UnionPicks a0 a1 a2 K w = vcF P Tryz.f3 [a0, a1, a2] w K from by kernel_rfl) h
/- spunyarn/spunyarnlaw24.UnionLaws -/
abbrev S_law24_UnionLaws (a0 : Value) (a1 : Value) (K : Value → World → Prop) (w0 : World) : Prop :=
XNew w0 (cellsV a1) 34 fun a1000 w1001 =>
/- 0 -/ XJ (fun J1002 =>
xIxA (.pointer (some a1000)) (.int .i64 0) 3 1 fun v1006 =>
xAt v1006 fun a1007 =>
XLd w1001 a1007 fun v1008 =>
Ret P n_law24_far [v1008, (.int .i64 60)] w1001 fun v1009 w1010 =>
xIf v1009 (J1002 [(.bool true)] w1010) (xIxA (.pointer (some a1000)) (.int .i64 1) 3 1 fun v1011 =>
xAt v1011 fun a1012 =>
XLd w1010 a1012 fun v1013 =>
Ret P n_law24_far [v1013, (.int .i64 60)] w1010 fun v1014 w1015 =>
xIf v1014 (J1002 [(.bool true)] w1015) (xIxA (.pointer (some a1000)) (.int .i64 2) 3 1 fun v1016 =>
xAt v1016 fun a1017 =>
XLd w1015 a1017 fun v1018 =>
Ret P n_law24_far [v1018, (.int .i64 60)] w1015 fun v1019 w1020 =>
xIf v1019 (J1002 [(.bool true)] w1020) (xLt a0 (.int .i64 1) fun v1021 =>
xIf v1021 (J1002 [(.bool true)] w1020) (xGt a0 (.int .i64 5) fun v1022 =>
J1002 [v1022] w1020))))) fun vs1003 g1004 w1005 =>
xIf (vs1003.getD 0 undef) (Ret P n_law24_alive [] w1005 fun v1023 w1024 =>
K v1023 w1024) (xIxA (.pointer (some a1000)) (.int .i64 0) 3 1 fun v1025 =>
xAt v1025 fun a1026 =>
XLd w1005.drew a1026 fun v1027 =>
xIxA (.pointer (some a1000)) (.int .i64 1) 3 1 fun v1028 =>
xAt v1028 fun a1029 =>
XLd w1005.drew a1029 fun v1030 =>
xIxA (.pointer (some a1000)) (.int .i64 2) 3 1 fun v1031 =>
xAt v1031 fun a1032 =>
XLd w1005.drew a1032 fun v1033 =>
Ret P n_ref13_Sort [v1027] w1005.drew fun v1034 w1035 =>
xKeep1 w1035 v1031 v1033 ∧ (xKeep1 w1035 v1028 v1030 ∧ (Ret P n_law24_tree [v1034, (.int .u64 1)] w1035 fun v1036 w1037 =>
xKeep1 w1037 v1031 v1033 ∧ (xKeep1 w1037 v1028 v1030 ∧ (Ret P n_ref13_Sort [v1030] w1037 fun v1038 w1039 =>
xKeep1 w1039 v1031 v1033 ∧ (Ret P n_law24_tree [v1038, (.int .u64 2)] w1039 fun v1040 w1041 =>
xKeep1 w1041 v1031 v1033 ∧ (Ret P n_ref13_Sort [v1033] w1041 fun v1042 w1043 =>
Ret P n_law24_tree [v1042, (.int .u64 3)] w1043 fun v1044 w1045 =>
Ret P n_union_Of [a0, v1036, v1040, (.int .u64 4), (.pointer none)] w1045 fun v1046 w1047 =>
xTup v1046 0 fun v1048 =>
xTup v1046 1 fun v1049 =>
Ret P n_union_Of [a0, v1040, v1044, (.int .u64 5), (.pointer none)] w1047 fun v1050 w1051 =>
xTup v1050 0 fun v1052 =>
xTup v1050 1 fun v1053 =>
Ret P n_union_Of [a0, v1048, v1044, (.int .u64 6), (.pointer none)] w1051 fun v1054 w1055 =>
xTup v1054 0 fun v1056 =>
xTup v1054 1 fun v1057 =>
Ret P n_union_Of [a0, v1036, v1052, (.int .u64 7), (.pointer none)] w1055 fun v1058 w1059 =>
xTup v1058 0 fun v1060 =>
xTup v1058 1 fun v1061 =>
/- 0 1 back 2 -/ XJ (fun J1062 =>
xEq a0 (.int .i64 1) fun v1066 =>
xIf v1066 (J1062 [v1066, (.int .i64 2), undef] w1059) (xEq a0 (.int .i64 2) fun v1067 =>
xIf v1067 (J1062 [v1066, (.int .i64 1), v1067] w1059) (J1062 [v1066, a0, v1067] w1059))) fun vs1063 g1064 w1065 =>
Ret P n_union_Of [(vs1063.getD 1 undef), v1040, v1036, (.int .u64 8), (.pointer none)] w1065 fun v1068 w1069 =>
xTup v1068 0 fun v1070 =>
xTup v1068 1 fun v1071 =>
/- 0 -/ XJ (fun J1072 =>
xNe v1049 (.int .i64 0) fun v1076 =>
xIf v1076 (J1072 [(.bool true)] w1069) (xNe v1053 (.int .i64 0) fun v1077 =>
xIf v1077 (J1072 [(.bool true)] w1069) (xNe v1057 (.int .i64 0) fun v1078 =>
xIf v1078 (J1072 [(.bool true)] w1069) (xNe v1061 (.int .i64 0) fun v1079 =>
xIf v1079 (J1072 [(.bool true)] w1069) (xNe v1071 (.int .i64 0) fun v1080 =>
J1072 [v1080] w1069))))) fun vs1073 g1074 w1075 =>
xIf (vs1073.getD 0 undef) (K (.bool false) w1075) (/- 0 -/ XJ (fun J1081 =>
Ret P n_canon_Shape [v1056] w1075 fun v1085 w1086 =>
Ret P n_canon_Shape [v1060] w1086 fun v1087 w1088 =>
xSEq v1085 v1087 fun v1089 =>
xIf v1089 (Ret P n_canon_Shape [v1048] w1088 fun v1090 w1091 =>
Ret P n_canon_Shape [v1070] w1091 fun v1092 w1093 =>
xSEq v1090 v1092 fun v1094 =>
xIf v1094 (Ret P n_canon_Fine [v1056] w1093 fun v1095 w1096 =>
xIf v1095 (Ret P n_law24_alive [] w1096 fun v1097 w1098 =>
J1081 [v1097] w1098) (J1081 [(.bool false)] w1096)) (J1081 [(.bool false)] w1093)) (J1081 [(.bool false)] w1088)) fun vs1082 g1083 w1084 =>
K (vs1082.getD 0 undef) w1084))))))))
theorem W_law24_UnionLaws {a0 a1 : Value} {K : Value → World → Prop} {w : World} (h : S_law24_UnionLaws a0 a1 K w) : Ret P n_law24_UnionLaws [a0, a1] w K :=
  vcF_of mixed Tryz.func4 (show S_law24_UnionLaws a0 a1 K w = vcF P Tryz.f4 [a0, a1] w K from by kernel_rfl) h
/- spunyarn/spunyarnlaw24.UnionIs -/
abbrev S_law24_UnionIs (a0 : Value) (a1 : Value) (a2 : Value) (K : Value → World → Prop) (w0 : World) : Prop :=
XNew w0 (cellsV a2) 65 fun a1000 w1001 =>
XLdN w1001 a1000 3 fun v1002 =>
Ret P n_law24_large [a1, v1002] w1001 fun v1003 w1004 =>
xIf v1003 (Ret P n_law24_alive [] w1004 fun v1005 w1006 =>
K v1005 w1006) (Ret P n_ref13_Sort [a1] w1004 fun v1007 w1008 =>
Ret P n_law24_tree [v1007, (.int .u64 1)] w1008 fun v1009 w1010 =>
XLdN w1010 a1000 3 fun v1011 =>
Ret P n_law24_second [v1009, v1007, v1011] w1010 fun v1012 w1013 =>
xTup v1012 0 fun v1014 =>
xTup v1012 1 fun v1015 =>
Ret P n_union_Of [a0, v1009, v1014, (.int .u64 1), (.pointer none)] w1013 fun v1016 w1017 =>
xTup v1016 0 fun v1018 =>
xTup v1016 1 fun v1019 =>
Ret P n_union_Of [a0, v1009, v1014, (.int .u64 0), (.pointer none)] w1017 fun v1020 w1021 =>
xTup v1020 0 fun v1022 =>
xTup v1020 1 fun v1023 =>
/- 0 -/ XJ (fun J1024 =>
xPNe P w1021 v1022 (.pointer none) fun v1028 =>
xIf v1028 (J1024 [(.bool true)] w1021) (xNe v1023 (.int .i64 1) fun v1029 =>
J1024 [v1029] w1021)) fun vs1025 g1026 w1027 =>
xIf (vs1025.getD 0 undef) (K (.bool false) w1027) (Ret P n_ref24_Pick [a0, (.int .u64 0), (.int .u64 0)] w1027 fun v1030 w1031 =>
xTup v1030 0 fun v1032 =>
xTup v1030 1 fun v1033 =>
xNe v1033 (.int .i64 0) fun v1034 =>
xIf v1034 (/- 0 -/ XJ (fun J1035 =>
xPEq P w1031 v1018 (.pointer none) fun v1039 =>
xIf v1039 (xEq v1019 (.int .i64 1) fun v1040 =>
xIf v1040 (Ret P n_law24_alive [] w1031 fun v1041 w1042 =>
J1035 [v1041] w1042) (J1035 [(.bool false)] w1031)) (J1035 [(.bool false)] w1031)) fun vs1036 g1037 w1038 =>
K (vs1036.getD 0 undef) w1038) (/- 0 -/ XJ (fun J1043 =>
xEq v1019 (.int .i64 0) fun v1047 =>
xIf v1047 (Ret P n_ref24_Union [a0, v1007, v1015] w1031 fun v1048 w1049 =>
Ret P n_law24_as [v1018, v1048] w1049 fun v1050 w1051 =>
xIf v1050 (Ret P n_law24_as [v1009, v1007] w1051 fun v1052 w1053 =>
xIf v1052 (Ret P n_law24_as [v1014, v1015] w1053 fun v1054 w1055 =>
xIf v1054 (Ret P n_law24_alive [] w1055 fun v1056 w1057 =>
J1043 [v1056] w1057) (J1043 [(.bool false)] w1055)) (J1043 [(.bool false)] w1053)) (J1043 [(.bool false)] w1051)) (J1043 [(.bool false)] w1031)) fun vs1044 g1045 w1046 =>
K (vs1044.getD 0 undef) w1046)))
theorem W_law24_UnionIs {a0 a1 a2 : Value} {K : Value → World → Prop} {w : World} (h : S_law24_UnionIs a0 a1 a2 K w) : Ret P n_law24_UnionIs [a0, a1, a2] w K :=
  vcF_of mixed Tryz.func6 (show S_law24_UnionIs a0 a1 a2 K w = vcF P Tryz.f6 [a0, a1, a2] w K from by kernel_rfl) h
/- spunyarn/spunyarnlaw24.UnionIdle -/
abbrev S_law24_UnionIdle (a0 : Value) (a1 : Value) (a2 : Value) (K : Value → World → Prop) (w0 : World) : Prop :=
XNew w0 (cellsV a2) 65 fun a1000 w1001 =>
/- 0 -/ XJ (fun J1002 =>
XLdN w1001 a1000 3 fun v1006 =>
Ret P n_law24_large [a1, v1006] w1001 fun v1007 w1008 =>
xIf v1007 (J1002 [(.bool true)] w1008) (xLt a0 (.int .i64 1) fun v1009 =>
xIf v1009 (J1002 [(.bool true)] w1008) (xGt a0 (.int .i64 5) fun v1010 =>
J1002 [v1010] w1008))) fun vs1003 g1004 w1005 =>
xIf (vs1003.getD 0 undef) (Ret P n_law24_alive [] w1005 fun v1011 w1012 =>
K v1011 w1012) (Ret P n_ref13_Sort [a1] w1005 fun v1013 w1014 =>
Ret P n_law24_tree [v1013, (.int .u64 1)] w1014 fun v1015 w1016 =>
XLdN w1016 a1000 3 fun v1017 =>
Ret P n_law24_second [v1015, v1013, v1017] w1016 fun v1018 w1019 =>
xTup v1018 0 fun v1020 =>
xTup v1018 1 fun v1021 =>
XNew w1019 [(.int .i64 0)] 53 fun a1022 w1023 =>
Ret P n_union_Of [a0, v1015, v1020, (.int .u64 3), (.pointer (some a1022))] w1023 fun v1024 w1025 =>
xTup v1024 0 fun v1026 =>
xTup v1024 1 fun v1027 =>
/- 0 -/ XJ (fun J1028 =>
Ret P n_ref24_Union [a0, v1013, v1021] w1025 fun v1032 w1033 =>
Ret P n_ref19_Same [v1032, v1013] w1033 fun v1034 w1035 =>
xIf v1034 (xPNe P w1035 v1026 v1015 fun v1036 =>
xIf v1036 (J1028 [(.bool true)] w1035) (Ret P n_meter_Meter_Count [(.pointer (some a1022))] w1035 fun v1037 w1038 =>
xNe v1037 (.int .i64 0) fun v1039 =>
J1028 [v1039] w1038)) (J1028 [(.bool false)] w1035)) fun vs1029 g1030 w1031 =>
xIf (vs1029.getD 0 undef) (K (.bool false) w1031) (Ret P n_meter_Meter_Count [(.pointer (some a1022))] w1031 fun v1040 w1041 =>
Ret P n_union_Of [a0, (.pointer none), v1015, (.int .u64 3), (.pointer (some a1022))] w1041 fun v1042 w1043 =>
xTup v1042 0 fun v1044 =>
xTup v1042 1 fun v1045 =>
Ret P n_union_Of [a0, v1015, (.pointer none), (.int .u64 3), (.pointer (some a1022))] w1043 fun v1046 w1047 =>
xTup v1046 0 fun v1048 =>
xTup v1046 1 fun v1049 =>
Ret P n_union_Of [a0, v1015, v1015, (.int .u64 3), (.pointer (some a1022))] w1047 fun v1050 w1051 =>
xTup v1050 0 fun v1052 =>
xTup v1050 1 fun v1053 =>
/- 0 -/ XJ (fun J1054 =>
xPNe P w1051 v1044 v1015 fun v1058 =>
xIf v1058 (J1054 [(.bool true)] w1051) (xPNe P w1051 v1048 v1015 fun v1059 =>
xIf v1059 (J1054 [(.bool true)] w1051) (xNe a0 (.int .i64 3) fun v1060 =>
xIf v1060 (xPNe P w1051 v1052 v1015 fun v1061 =>
xIf v1061 (J1054 [(.bool true)] w1051) (Ret P n_meter_Meter_Count [(.pointer (some a1022))] w1051 fun v1062 w1063 =>
xNe v1062 v1040 fun v1064 =>
J1054 [v1064] w1063)) (J1054 [(.bool false)] w1051)))) fun vs1055 g1056 w1057 =>
xIf (vs1055.getD 0 undef) (K (.bool false) w1057) (Ret P n_union_Of [a0, v1026, v1026, (.int .u64 3), (.pointer none)] w1057 fun v1065 w1066 =>
xTup v1065 0 fun v1067 =>
xTup v1065 1 fun v1068 =>
/- 0 -/ XJ (fun J1069 =>
xEq a0 (.int .i64 3) fun v1073 =>
xIf v1073 (Ret P n_law24_alive [] w1066 fun v1074 w1075 =>
J1069 [v1074] w1075) (xPEq P w1066 v1067 v1026 fun v1076 =>
xIf v1076 (Ret P n_law24_alive [] w1066 fun v1077 w1078 =>
J1069 [v1077] w1078) (J1069 [(.bool false)] w1066))) fun vs1070 g1071 w1072 =>
K (vs1070.getD 0 undef) w1072)))
theorem W_law24_UnionIdle {a0 a1 a2 : Value} {K : Value → World → Prop} {w : World} (h : S_law24_UnionIdle a0 a1 a2 K w) : Ret P n_law24_UnionIdle [a0, a1, a2] w K :=
  vcF_of mixed Tryz.func7 (show S_law24_UnionIdle a0 a1 a2 K w = vcF P Tryz.f7 [a0, a1, a2] w K from by kernel_rfl) h
/- spunyarn/spunyarnlaw24.alive -/
abbrev S_law24_alive  (K : Value → World → Prop) (w0 : World) : Prop :=
xFill (repL [(.int .u8 0)] 1) [(0, 1, (.int .u8 1))] fun c1000 =>
XNew w0 c1000 5 fun a1001 w1002 =>
xFill [(.slice none 0 0), (.int .u64 0)] [(0, 1, (.slice (some a1001) 1 1)), (1, 1, (.int .u64 5))] fun c1003 =>
xFill (repL [(.slice none 0 0), (.int .u64 0)] 1) [(0, 2, (.agg c1003.toArray))] fun c1004 =>
XNew w1002 c1004 86 fun a1005 w1006 =>
Ret P n_law24_tree [(.slice (some a1005) 1 1), (.int .u64 1)] w1006 fun v1007 w1008 =>
xFill (repL [(.int .u8 0)] 1) [(0, 1, (.int .u8 1))] fun c1009 =>
XNew w1008 c1009 5 fun a1010 w1011 =>
xFill [(.slice none 0 0), (.int .u64 0)] [(0, 1, (.slice (some a1010) 1 1)), (1, 1, (.int .u64 6))] fun c1012 =>
xFill (repL [(.int .u8 0)] 2) [(0, 1, (.int .u8 1)), (1, 1, (.int .u8 2))] fun c1013 =>
XNew w1011 c1013 5 fun a1014 w1015 =>
xFill [(.slice none 0 0), (.int .u64 0)] [(0, 1, (.slice (some a1014) 2 2)), (1, 1, (.int .u64 7))] fun c1016 =>
xFill (repL [(.slice none 0 0), (.int .u64 0)] 2) [(0, 2, (.agg c1012.toArray)), (2, 2, (.agg c1016.toArray))] fun c1017 =>
XNew w1015 c1017 86 fun a1018 w1019 =>
Ret P n_law24_tree [(.slice (some a1018) 2 2), (.int .u64 1)] w1019 fun v1020 w1021 =>
Ret P n_union_Of [(.int .i64 3), v1007, v1020, (.int .u64 2), (.pointer none)] w1021 fun v1022 w1023 =>
xTup v1022 0 fun v1024 =>
xTup v1022 1 fun v1025 =>
Ret P n_union_Pick [(.int .i64 5), (.int .u64 1), (.int .u64 2)] w1023 fun v1026 w1027 =>
xTup v1026 0 fun v1028 =>
xTup v1026 1 fun v1029 =>
/- 0 -/ XJ (fun J1030 =>
Ret P n_canon_Shape [v1024] w1027 fun v1034 w1035 =>
xSEq v1034 (.string ⟨#[52, 60, 48, 49, 61, 49, 49, 58, 48, 50, 76, 61, 55, 62]⟩) fun v1036 =>
xIf v1036 (xEq v1025 (.int .i64 0) fun v1037 =>
xIf v1037 (xEq v1028 (.int .u64 2) fun v1038 =>
xIf v1038 (xEq v1029 (.int .i64 0) fun v1039 =>
J1030 [v1039] w1035) (J1030 [(.bool false)] w1035)) (J1030 [(.bool false)] w1035)) (J1030 [(.bool false)] w1035)) fun vs1031 g1032 w1033 =>
K (vs1031.getD 0 undef) w1033
theorem W_law24_alive {K : Value → World → Prop} {w : World} (h : S_law24_alive  K w) : Ret P n_law24_alive [] w K :=
  vcF_of mixed Tryz.func17 (show S_law24_alive  K w = vcF P Tryz.f17 [] w K from by kernel_rfl) h
/- spunyarn/spunyarnlaw24.far -/
/- S_law24_far_l1: 0=slot 13 1=slot 4 -/
def S_law24_far_l1 (K : Value → World → Prop) (a0 : Value) (v1002 : Value) (I1003 : Nat → List Value → World → Prop) (n1004 : Nat) (vs1005 : List Value) (g1006 : Nat → Value) (w1007 : World) : Prop :=
xLt (vs1005.getD 0 undef) v1002 fun v1008 =>
xIf v1008 (xIxS a0 (vs1005.getD 0 undef) 2 fun v1009 =>
xAt v1009 fun a1010 =>
XLdN w1007 a1010 2 fun v1011 =>
XNew w1007 [(.slice none 0 0), (.int .u64 0)] 86 fun a1012 w1013 =>
XDo P (storeVar 86 a1012 v1011) w1013 fun w1014 =>
XLd w1014 (a1012.add 0) fun v1015 =>
xLen v1015 fun v1016 =>
xGt v1016 (.int .i64 300) fun v1017 =>
xIf v1017 (K (.bool true) w1014) (xAdd (vs1005.getD 0 undef) (.int .i64 1) fun v1018 =>
XNext I1003 n1004 [v1018, (vs1005.getD 1 undef)] w1014)) (K (.bool false) w1007)
abbrev S_law24_far (a0 : Value) (a1 : Value) (K : Value → World → Prop) (w0 : World) : Prop :=
xLen a0 fun v1000 =>
xGt v1000 a1 fun v1001 =>
xIf v1001 (K (.bool true) w0) (xLen a0 fun v1002 =>
XLoop [(.int .i64 0), (.bool false)] w0 (S_law24_far_l1 K a0 v1002))
theorem W_law24_far {a0 a1 : Value} {K : Value → World → Prop} {w : World} (h : S_law24_far a0 a1 K w) : Ret P n_law24_far [a0, a1] w K :=
  vcF_of mixed Tryz.func18 (show S_law24_far a0 a1 K w = vcF P Tryz.f18 [a0, a1] w K from by kernel_rfl) h
/- spunyarn/spunyarnlaw24.tree -/
/- S_law24_tree_l1: 0=slot 12 1=slot 5 out -/
def S_law24_tree_l1 (K : Value → World → Prop) (a0 : Value) (a1 : Value) (v1000 : Value) (I1001 : Nat → List Value → World → Prop) (n1002 : Nat) (vs1003 : List Value) (g1004 : Nat → Value) (w1005 : World) : Prop :=
xLt (vs1003.getD 0 undef) v1000 fun v1006 =>
xIf v1006 (xIxS a0 (vs1003.getD 0 undef) 2 fun v1007 =>
xAt v1007 fun a1008 =>
XLdN w1005 a1008 2 fun v1009 =>
XNew w1005 [(.slice none 0 0), (.int .u64 0)] 86 fun a1010 w1011 =>
XDo P (storeVar 86 a1010 v1009) w1011 fun w1012 =>
XLdN w1012 a1010 2 fun v1013 =>
xFill (repL [(.slice none 0 0), (.int .u64 0)] 1) [(0, 2, v1013)] fun c1014 =>
XNew w1012 c1014 158 fun a1015 w1016 =>
XRun P (Builtin.append_ #[76, 76] 76 #[(vs1003.getD 1 undef), (.slice (some a1015) 1 1)]) w1016 fun v1017 w1018 =>
xAdd (vs1003.getD 0 undef) (.int .i64 1) fun v1019 =>
XNext I1001 n1002 [v1019, v1017] w1018) (Ret P n_canon_Build [(.pointer none), a1, (vs1003.getD 1 undef)] w1005 fun v1020 w1021 =>
xTup v1020 0 fun v1022 =>
xTup v1020 1 fun v1023 =>
K v1022 w1021)
abbrev S_law24_tree (a0 : Value) (a1 : Value) (K : Value → World → Prop) (w0 : World) : Prop :=
xLen a0 fun v1000 =>
XLoop [(.int .i64 0), (.slice none 0 0)] w0 (S_law24_tree_l1 K a0 a1 v1000)
theorem W_law24_tree {a0 a1 : Value} {K : Value → World → Prop} {w : World} (h : S_law24_tree a0 a1 K w) : Ret P n_law24_tree [a0, a1] w K :=
  vcF_of mixed Tryz.func19 (show S_law24_tree a0 a1 K w = vcF P Tryz.f19 [a0, a1] w K from by kernel_rfl) h
/- spunyarn/spunyarnlaw24.large -/
/- S_law24_large_l1: 0=slot 23 1=slot 6 k 2=slot 4 -/
def S_law24_large_l1 (K : Value → World → Prop) (v1014 : Value) (v1015 : Value) (I1016 : Nat → List Value → World → Prop) (n1017 : Nat) (vs1018 : List Value) (g1019 : Nat → Value) (w1020 : World) : Prop :=
xLt (vs1018.getD 0 undef) v1015 fun v1021 =>
xIf v1021 (xIxS v1014 (vs1018.getD 0 undef) 1 fun v1022 =>
xAt v1022 fun a1023 =>
XLd w1020 a1023 fun v1024 =>
xLen v1024 fun v1025 =>
xGt v1025 (.int .i64 300) fun v1026 =>
xIf v1026 (K (.bool true) w1020) (xAdd (vs1018.getD 0 undef) (.int .i64 1) fun v1027 =>
XNext I1016 n1017 [v1027, v1024, (vs1018.getD 2 undef)] w1020)) (K (.bool false) w1020)
abbrev S_law24_large (a0 : Value) (a1 : Value) (K : Value → World → Prop) (w0 : World) : Prop :=
XNew w0 (cellsV a1) 65 fun a1000 w1001 =>
/- 0 -/ XJ (fun J1002 =>
Ret P n_law24_far [a0, (.int .i64 100)] w1001 fun v1006 w1007 =>
xIf v1006 (J1002 [(.bool true)] w1007) (XLd w1007 (a1000.add 1) fun v1008 =>
Ret P n_law24_far [v1008, (.int .i64 60)] w1007 fun v1009 w1010 =>
xIf v1009 (J1002 [(.bool true)] w1010) (XLd w1010 (a1000.add 2) fun v1011 =>
xLen v1011 fun v1012 =>
xGt v1012 (.int .i64 40) fun v1013 =>
J1002 [v1013] w1010))) fun vs1003 g1004 w1005 =>
xIf (vs1003.getD 0 undef) (K (.bool true) w1005) (XLd w1005 (a1000.add 2) fun v1014 =>
xLen v1014 fun v1015 =>
XLoop [(.int .i64 0), undef, (.bool false)] w1005 (S_law24_large_l1 K v1014 v1015))
theorem W_law24_large {a0 a1 : Value} {K : Value → World → Prop} {w : World} (h : S_law24_large a0 a1 K w) : Ret P n_law24_large [a0, a1] w K :=
  vcF_of mixed Tryz.func32 (show S_law24_large a0 a1 K w = vcF P Tryz.f32 [a0, a1] w K from by kernel_rfl) h
/- spunyarn/spunyarnlaw24.second -/
/- S_law24_second_l1: 0=slot 51 1=slot 11 i 2=slot 12 k 3=slot 0 n 4=slot 1 l -/
def S_law24_second_l1 (K : Value → World → Prop) (v1035 : Value) (v1036 : Value) (I1037 : Nat → List Value → World → Prop) (n1038 : Nat) (vs1039 : List Value) (g1040 : Nat → Value) (w1041 : World) : Prop :=
xLt (vs1039.getD 0 undef) v1036 fun v1042 =>
xIf v1042 (xIxS v1035 (vs1039.getD 0 undef) 1 fun v1043 =>
xAt v1043 fun a1044 =>
XLd w1041 a1044 fun v1045 =>
xConv .u64 (vs1039.getD 0 undef) fun v1046 =>
xAdd v1046 (.int .u64 1000) fun v1047 =>
Ret P n_del_Del [(vs1039.getD 3 undef), v1045, v1047, (.pointer none)] w1041 fun v1048 w1049 =>
xTup v1048 0 fun v1050 =>
xTup v1048 1 fun v1051 =>
xTup v1048 2 fun v1052 =>
Ret P n_ref16_Del [(vs1039.getD 4 undef), v1045] w1049 fun v1053 w1054 =>
xTup v1053 0 fun v1055 =>
xTup v1053 1 fun v1056 =>
xAdd (vs1039.getD 0 undef) (.int .i64 1) fun v1057 =>
XNext I1037 n1038 [v1057, (vs1039.getD 0 undef), v1045, v1050, v1055] w1054) (K (.tuple #[(vs1039.getD 3 undef), (vs1039.getD 4 undef)]) w1041)
/- S_law24_second_l2: 0=slot 24 1=slot 9 i 2=slot 0 n 3=slot 1 l -/
def S_law24_second_l2 (K : Value → World → Prop) (a1000 : Addr) (v1008 : Value) (v1009 : Value) (I1010 : Nat → List Value → World → Prop) (n1011 : Nat) (vs1012 : List Value) (g1013 : Nat → Value) (w1014 : World) : Prop :=
xLt (vs1012.getD 0 undef) v1009 fun v1015 =>
xIf v1015 (xIxS v1008 (vs1012.getD 0 undef) 2 fun v1016 =>
xAt v1016 fun a1017 =>
XLdN w1014 a1017 2 fun v1018 =>
XNew w1014 [(.slice none 0 0), (.int .u64 0)] 86 fun a1019 w1020 =>
XDo P (storeVar 86 a1019 v1018) w1020 fun w1021 =>
XLd w1021 (a1019.add 0) fun v1022 =>
XLd w1021 (a1019.add 1) fun v1023 =>
xConv .u64 (vs1012.getD 0 undef) fun v1024 =>
xAdd v1024 (.int .u64 100) fun v1025 =>
Ret P n_put_Put [(vs1012.getD 2 undef), v1022, v1023, v1025, (.pointer none)] w1021 fun v1026 w1027 =>
xTup v1026 0 fun v1028 =>
xTup v1026 1 fun v1029 =>
XLd w1027 (a1019.add 0) fun v1030 =>
XLd w1027 (a1019.add 1) fun v1031 =>
Ret P n_ref15_Put [(vs1012.getD 3 undef), v1030, v1031] w1027 fun v1032 w1033 =>
xAdd (vs1012.getD 0 undef) (.int .i64 1) fun v1034 =>
XNext I1010 n1011 [v1034, (vs1012.getD 0 undef), v1028, v1032] w1033) (XLd w1014 (a1000.add 2) fun v1035 =>
xLen v1035 fun v1036 =>
XLoop [(.int .i64 0), undef, undef, (vs1012.getD 2 undef), (vs1012.getD 3 undef)] w1014 (S_law24_second_l1 K v1035 v1036))
abbrev S_law24_second (a0 : Value) (a1 : Value) (a2 : Value) (K : Value → World → Prop) (w0 : World) : Prop :=
XNew w0 (cellsV a2) 65 fun a1000 w1001 =>
XLd w1001 (a1000.add 0) fun v1002 =>
xIf v1002 (XLd w1001 (a1000.add 1) fun v1003 =>
Ret P n_ref13_Sort [v1003] w1001 fun v1004 w1005 =>
Ret P n_law24_tree [v1004, (.int .u64 2)] w1005 fun v1006 w1007 =>
K (.tuple #[v1006, v1004]) w1007) (XLd w1001 (a1000.add 1) fun v1008 =>
xLen v1008 fun v1009 =>
XLoop [(.int .i64 0), undef, a0, a1] w1001 (S_law24_second_l2 K a1000 v1008 v1009))
theorem W_law24_second {a0 a1 a2 : Value} {K : Value → World → Prop} {w : World} (h : S_law24_second a0 a1 a2 K w) : Ret P n_law24_second [a0, a1, a2] w K :=
  vcF_of mixed Tryz.func33 (show S_law24_second a0 a1 a2 K w = vcF P Tryz.f33 [a0, a1, a2] w K from by kernel_rfl) h
/- spunyarn/spunyarnlaw24.as -/
abbrev S_law24_as (a0 : Value) (a1 : Value) (K : Value → World → Prop) (w0 : World) : Prop :=
Ret P n_canon_Shape [a0] w0 fun v1000 w1001 =>
Ret P n_ref13_Build [a1] w1001 fun v1002 w1003 =>
Ret P n_ref13_Shape [v1002] w1003 fun v1004 w1005 =>
xSEq v1000 v1004 fun v1006 =>
K v1006 w1005
theorem W_law24_as {a0 a1 : Value} {K : Value → World → Prop} {w : World} (h : S_law24_as a0 a1 K w) : Ret P n_law24_as [a0, a1] w K :=
  vcF_of mixed Tryz.func34 (show S_law24_as a0 a1 K w = vcF P Tryz.f34 [a0, a1] w K from by kernel_rfl) h
end Go.Proofs.YthnegkjhciakpaaGreatDoor
