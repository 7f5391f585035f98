/-  Written by gen.py for this claim: of each function a form without frames, the same as the engine's condition by reckoning.  -/
import Derived.Test.YthnegkjhciakpaaGreatDoorSN
import Derived.Test.YthnegkjhciakpaaGreatDoorProg
namespace Go.Proofs.YthnegkjhciakpaaGreatDoor
open Go X
set_option linter.unusedVariables false
set_option maxRecDepth 100000
/- spunyarn/spunyarnlaw16.DelLeft -/
/- S_law16_DelLeft_l1: 0=slot 14 i 1=slot 15 j -/
def S_law16_DelLeft_l1 (K : Value → World → Prop) (a1000 : Addr) (v1014 : Value) (v1018 : Value) (I1076 : Nat → List Value → World → Prop) (n1077 : Nat) (vs1078 : List Value) (g1079 : Nat → Value) (w1080 : World) : Prop :=
xLt (vs1078.getD 0 undef) (vs1078.getD 1 undef) fun v1081 =>
xIf v1081 (xIxS v1018 (vs1078.getD 1 undef) 2 fun v1082 =>
xAt v1082 fun a1083 =>
XLdN w1080.drew a1083 2 fun v1084 =>
xIxS v1018 (vs1078.getD 0 undef) 2 fun v1085 =>
xAt v1085 fun a1086 =>
XLdN w1080.drew a1086 2 fun v1087 =>
xIxS v1018 (vs1078.getD 0 undef) 2 fun v1088 =>
xAt v1088 fun a1090 =>
XDo P (storeVar 61 a1090 v1084) w1080.drew fun w1089 =>
xIxS v1018 (vs1078.getD 1 undef) 2 fun v1091 =>
xAt v1091 fun a1093 =>
XDo P (storeVar 61 a1093 v1087) w1089 fun w1092 =>
xAdd (vs1078.getD 0 undef) (.int .i64 1) fun v1094 =>
xSub (vs1078.getD 1 undef) (.int .i64 1) fun v1095 =>
XNext I1076 n1077 [v1094, v1095] w1092) (/- 0 x 1 f 2 -/ XJ (fun J1096 =>
xLen v1018 fun v1100 =>
xGt v1100 (.int .i64 1) fun v1101 =>
xIf v1101 (XLd w1080 (a1000.add 0) fun v1102 =>
XLd w1080 (a1000.add 1) fun v1103 =>
Ret P n_del_Left [v1014, v1102, v1103, v1018, (.int .u64 2), (.pointer none)] w1080 fun v1104 w1105 =>
xTup v1104 0 fun v1106 =>
xTup v1104 1 fun v1107 =>
/- 0 -/ XJ (fun J1108 =>
xPNe P w1105 v1106 (.pointer none) fun v1112 =>
xIf v1112 (J1108 [(.bool true)] w1105) (xNe v1107 (.int .i64 12) fun v1113 =>
J1108 [v1113] w1105)) fun vs1109 g1110 w1111 =>
xIf (vs1109.getD 0 undef) (K (.bool false) w1111) (J1096 [v1106, v1107, (.bool false)] w1111)) (J1096 [undef, undef, (.bool false)] w1080)) fun vs1097 g1098 w1099 =>
XLd w1099 (a1000.add 0) fun v1114 =>
XLd w1099 (a1000.add 1) fun v1115 =>
Ret P n_del_Left [v1014, v1114, v1115, (.slice none 0 0), (.int .u64 0), (.pointer none)] w1099 fun v1116 w1117 =>
xTup v1116 0 fun v1118 =>
xTup v1116 1 fun v1119 =>
XLd w1117.drew (a1000.add 0) fun v1120 =>
XLd w1117.drew (a1000.add 1) fun v1121 =>
xFill [(.int .u8 0), (.pointer none)] [(0, 1, (.int .u8 0))] fun c1122 =>
xFill (repL [(.int .u8 0), (.pointer none)] 1) [(0, 2, (.agg c1122.toArray))] fun c1123 =>
XNew w1117.drew c1123 61 fun a1124 w1125 =>
xKeep1 w1125 (.pointer (some (a1000.add 1))) v1121 ∧ (xKeep1 w1125 (.pointer (some (a1000.add 0))) v1120 ∧ (XRun P (Builtin.append_ #[44, 44] 44 #[v1018, (.slice (some a1124) 1 1)]) w1125 fun v1126 w1127 =>
xKeep1 w1127 (.pointer (some (a1000.add 1))) v1121 ∧ (xKeep1 w1127 (.pointer (some (a1000.add 0))) v1120 ∧ (Ret P n_del_Left [v1014, v1120, v1121, v1126, (.int .u64 2), (.pointer none)] w1127 fun v1128 w1129 =>
xTup v1128 0 fun v1130 =>
xTup v1128 1 fun v1131 =>
/- 0 -/ XJ (fun J1132 =>
xPEq P w1129 v1118 (.pointer none) fun v1136 =>
xIf v1136 (xEq v1119 (.int .i64 1) fun v1137 =>
xIf v1137 (xPEq P w1129 v1130 (.pointer none) fun v1138 =>
xIf v1138 (xEq v1131 (.int .i64 1) fun v1139 =>
xIf v1139 (Ret P n_law16_alive [] w1129 fun v1140 w1141 =>
J1132 [v1140] w1141) (J1132 [(.bool false)] w1129)) (J1132 [(.bool false)] w1129)) (J1132 [(.bool false)] w1129)) (J1132 [(.bool false)] w1129)) fun vs1133 g1134 w1135 =>
K (vs1133.getD 0 undef) w1135)))))
abbrev S_law16_DelLeft (a0 : Value) (a1 : Value) (a2 : Value) (K : Value → World → Prop) (w0 : World) : Prop :=
XNew w0 (cellsV a2) 43 fun a1000 w1001 =>
/- 0 -/ XJ (fun J1002 =>
Ret P n_law16_far [a0, (.int .i64 150)] w1001 fun v1006 w1007 =>
xIf v1006 (J1002 [(.bool true)] w1007) (xLen a1 fun v1008 =>
xGt v1008 (.int .i64 300) fun v1009 =>
J1002 [v1009] w1007)) fun vs1003 g1004 w1005 =>
xIf (vs1003.getD 0 undef) (Ret P n_law16_alive [] w1005 fun v1010 w1011 =>
K v1010 w1011) (Ret P n_ref13_Sort [a0] w1005 fun v1012 w1013 =>
Ret P n_law16_tree [v1012, (.int .u64 1)] w1013 fun v1014 w1015 =>
Ret P n_law16_kids [v1014, a1] w1015 fun v1016 w1017 =>
xTup v1016 0 fun v1018 =>
xTup v1016 1 fun v1019 =>
XNew w1017 [(.int .i64 0)] 53 fun a1020 w1021 =>
XLd w1021 (a1000.add 0) fun v1022 =>
XLd w1021 (a1000.add 1) fun v1023 =>
Ret P n_del_Left [v1014, v1022, v1023, v1018, (.int .u64 1), (.pointer (some a1020))] w1021 fun v1024 w1025 =>
xTup v1024 0 fun v1026 =>
xTup v1024 1 fun v1027 =>
xLen v1012 fun v1028 =>
xLt v1028 (.int .i64 2) fun v1029 =>
xIf v1029 (/- 0 -/ XJ (fun J1030 =>
xPEq P w1025 v1026 (.pointer none) fun v1034 =>
xIf v1034 (xLen v1012 fun v1035 =>
xEq v1035 (.int .i64 0) fun v1036 =>
xIf v1036 (xEq v1027 (.int .i64 2) fun v1037 =>
xIf v1037 (Ret P n_law16_alive [] w1025 fun v1038 w1039 =>
J1030 [v1038] w1039) (xLen v1012 fun v1040 =>
xEq v1040 (.int .i64 1) fun v1041 =>
xIf v1041 (xEq v1027 (.int .i64 9) fun v1042 =>
xIf v1042 (Ret P n_law16_alive [] w1025 fun v1043 w1044 =>
J1030 [v1043] w1044) (J1030 [(.bool false)] w1025)) (J1030 [(.bool false)] w1025))) (xLen v1012 fun v1045 =>
xEq v1045 (.int .i64 1) fun v1046 =>
xIf v1046 (xEq v1027 (.int .i64 9) fun v1047 =>
xIf v1047 (Ret P n_law16_alive [] w1025 fun v1048 w1049 =>
J1030 [v1048] w1049) (J1030 [(.bool false)] w1025)) (J1030 [(.bool false)] w1025))) (J1030 [(.bool false)] w1025)) fun vs1031 g1032 w1033 =>
K (vs1031.getD 0 undef) w1033) (XLd w1025 (a1000.add 0) fun v1050 =>
XLd w1025 (a1000.add 1) fun v1051 =>
Ret P n_ref16_Left [v1012, v1050, v1051, v1019] w1025 fun v1052 w1053 =>
/- 0 -/ XJ (fun J1054 =>
xNe v1027 (.int .i64 0) fun v1058 =>
xIf v1058 (J1054 [(.bool true)] w1053) (Ret P n_law16_as [v1026, v1052] w1053 fun v1059 w1060 =>
xNot v1059 fun v1061 =>
xIf v1061 (J1054 [(.bool true)] w1060) (Ret P n_law16_as [v1014, v1012] w1060 fun v1062 w1063 =>
xNot v1062 fun v1064 =>
xIf v1064 (J1054 [(.bool true)] w1063) (Ret P n_meter_Meter_Count [(.pointer (some a1020))] w1063 fun v1065 w1066 =>
xGt v1065 (.int .i64 1) fun v1067 =>
xIf v1067 (J1054 [(.bool true)] w1066) (Ret P n_law16_equal [v1052, v1012] w1066 fun v1068 w1069 =>
xIf v1068 (xPNe P w1069 v1026 v1014 fun v1070 =>
xIf v1070 (J1054 [(.bool true)] w1069) (Ret P n_meter_Meter_Count [(.pointer (some a1020))] w1069 fun v1071 w1072 =>
xNe v1071 (.int .i64 0) fun v1073 =>
J1054 [v1073] w1072)) (J1054 [(.bool false)] w1069)))))) fun vs1055 g1056 w1057 =>
xIf (vs1055.getD 0 undef) (K (.bool false) w1057) (xLen v1018 fun v1074 =>
xSub v1074 (.int .i64 1) fun v1075 =>
XLoop [(.int .i64 0), v1075] w1057 (S_law16_DelLeft_l1 K a1000 v1014 v1018))))
theorem W_law16_DelLeft {a0 a1 a2 : Value} {K : Value → World → Prop} {w : World} (h : S_law16_DelLeft a0 a1 a2 K w) : Ret P n_law16_DelLeft [a0, a1, a2] w K :=
  vcF_of mixed Tryz.func5 (show S_law16_DelLeft a0 a1 a2 K w = vcF P Tryz.f5 [a0, a1, a2] w K from by kernel_rfl) h
/- spunyarn/spunyarnlaw16.far -/
/- S_law16_far_l1: 0=slot 13 1=slot 4 -/
def S_law16_far_l1 (K : Value → World → Prop) (a0 : Value) (v1002 : Value) (I1003 : Nat → List Value → World → Prop) (n1004 : Nat) (vs1005 : List Value) (g1006 : Nat → Value) (w1007 : World) : Prop :=
xLt (vs1005.getD 0 undef) v1002 fun v1008 =>
xIf v1008 (xIxS a0 (vs1005.getD 0 undef) 2 fun v1009 =>
xAt v1009 fun a1010 =>
XLdN w1007 a1010 2 fun v1011 =>
XNew w1007 [(.slice none 0 0), (.int .u64 0)] 86 fun a1012 w1013 =>
XDo P (storeVar 86 a1012 v1011) w1013 fun w1014 =>
XLd w1014 (a1012.add 0) fun v1015 =>
xLen v1015 fun v1016 =>
xGt v1016 (.int .i64 300) fun v1017 =>
xIf v1017 (K (.bool true) w1014) (xAdd (vs1005.getD 0 undef) (.int .i64 1) fun v1018 =>
XNext I1003 n1004 [v1018, (vs1005.getD 1 undef)] w1014)) (K (.bool false) w1007)
abbrev S_law16_far (a0 : Value) (a1 : Value) (K : Value → World → Prop) (w0 : World) : Prop :=
xLen a0 fun v1000 =>
xGt v1000 a1 fun v1001 =>
xIf v1001 (K (.bool true) w0) (xLen a0 fun v1002 =>
XLoop [(.int .i64 0), (.bool false)] w0 (S_law16_far_l1 K a0 v1002))
theorem W_law16_far {a0 a1 : Value} {K : Value → World → Prop} {w : World} (h : S_law16_far a0 a1 K w) : Ret P n_law16_far [a0, a1] w K :=
  vcF_of mixed Tryz.func23 (show S_law16_far a0 a1 K w = vcF P Tryz.f23 [a0, a1] w K from by kernel_rfl) h
/- spunyarn/spunyarnlaw16.alive -/
abbrev S_law16_alive  (K : Value → World → Prop) (w0 : World) : Prop :=
xFill (repL [(.int .u8 0)] 1) [(0, 1, (.int .u8 1))] fun c1000 =>
XNew w0 c1000 5 fun a1001 w1002 =>
xFill [(.slice none 0 0), (.int .u64 0)] [(0, 1, (.slice (some a1001) 1 1)), (1, 1, (.int .u64 5))] fun c1003 =>
xFill (repL [(.int .u8 0)] 2) [(0, 1, (.int .u8 1)), (1, 1, (.int .u8 2))] fun c1004 =>
XNew w1002 c1004 5 fun a1005 w1006 =>
xFill [(.slice none 0 0), (.int .u64 0)] [(0, 1, (.slice (some a1005) 2 2)), (1, 1, (.int .u64 6))] fun c1007 =>
xFill (repL [(.slice none 0 0), (.int .u64 0)] 2) [(0, 2, (.agg c1003.toArray)), (2, 2, (.agg c1007.toArray))] fun c1008 =>
XNew w1006 c1008 86 fun a1009 w1010 =>
Ret P n_law16_tree [(.slice (some a1009) 2 2), (.int .u64 1)] w1010 fun v1011 w1012 =>
xFill (repL [(.int .u8 0)] 1) [(0, 1, (.int .u8 1))] fun c1013 =>
XNew w1012 c1013 5 fun a1014 w1015 =>
Ret P n_del_Del [v1011, (.slice (some a1014) 1 1), (.int .u64 2), (.pointer none)] w1015 fun v1016 w1017 =>
xTup v1016 0 fun v1018 =>
xTup v1016 1 fun v1019 =>
xTup v1016 2 fun v1020 =>
/- 0 -/ XJ (fun J1021 =>
Ret P n_canon_Shape [v1018] w1017 fun v1025 w1026 =>
xSEq v1025 (.string ⟨#[76, 48, 49, 48, 50, 61, 54]⟩) fun v1027 =>
xIf v1027 (xIf v1019 (xEq v1020 (.int .i64 0) fun v1028 =>
J1021 [v1028] w1026) (J1021 [(.bool false)] w1026)) (J1021 [(.bool false)] w1026)) fun vs1022 g1023 w1024 =>
K (vs1022.getD 0 undef) w1024
theorem W_law16_alive {K : Value → World → Prop} {w : World} (h : S_law16_alive  K w) : Ret P n_law16_alive [] w K :=
  vcF_of mixed Tryz.func24 (show S_law16_alive  K w = vcF P Tryz.f24 [] w K from by kernel_rfl) h
/- spunyarn/spunyarnlaw16.tree -/
/- S_law16_tree_l1: 0=slot 12 1=slot 5 out -/
def S_law16_tree_l1 (K : Value → World → Prop) (a0 : Value) (a1 : Value) (v1000 : Value) (I1001 : Nat → List Value → World → Prop) (n1002 : Nat) (vs1003 : List Value) (g1004 : Nat → Value) (w1005 : World) : Prop :=
xLt (vs1003.getD 0 undef) v1000 fun v1006 =>
xIf v1006 (xIxS a0 (vs1003.getD 0 undef) 2 fun v1007 =>
xAt v1007 fun a1008 =>
XLdN w1005 a1008 2 fun v1009 =>
XNew w1005 [(.slice none 0 0), (.int .u64 0)] 86 fun a1010 w1011 =>
XDo P (storeVar 86 a1010 v1009) w1011 fun w1012 =>
XLdN w1012 a1010 2 fun v1013 =>
xFill (repL [(.slice none 0 0), (.int .u64 0)] 1) [(0, 2, v1013)] fun c1014 =>
XNew w1012 c1014 158 fun a1015 w1016 =>
XRun P (Builtin.append_ #[76, 76] 76 #[(vs1003.getD 1 undef), (.slice (some a1015) 1 1)]) w1016 fun v1017 w1018 =>
xAdd (vs1003.getD 0 undef) (.int .i64 1) fun v1019 =>
XNext I1001 n1002 [v1019, v1017] w1018) (Ret P n_canon_Build [(.pointer none), a1, (vs1003.getD 1 undef)] w1005 fun v1020 w1021 =>
xTup v1020 0 fun v1022 =>
xTup v1020 1 fun v1023 =>
K v1022 w1021)
abbrev S_law16_tree (a0 : Value) (a1 : Value) (K : Value → World → Prop) (w0 : World) : Prop :=
xLen a0 fun v1000 =>
XLoop [(.int .i64 0), (.slice none 0 0)] w0 (S_law16_tree_l1 K a0 a1 v1000)
theorem W_law16_tree {a0 a1 : Value} {K : Value → World → Prop} {w : World} (h : S_law16_tree a0 a1 K w) : Ret P n_law16_tree [a0, a1] w K :=
  vcF_of mixed Tryz.func25 (show S_law16_tree a0 a1 K w = vcF P Tryz.f25 [a0, a1] w K from by kernel_rfl) h
/- spunyarn/spunyarnlaw16.kids -/
/- S_law16_kids_l1: 0=slot 24 1=slot 12 d 2=slot 10 gone -/
def S_law16_kids_l1 (a1 : Value) (vs1002 : List Value) (J1006 : List Value → World → Prop) (v1011 : Value) (v1014 : Value) (I1015 : Nat → List Value → World → Prop) (n1016 : Nat) (vs1017 : List Value) (g1018 : Nat → Value) (w1019 : World) : Prop :=
xLt (vs1017.getD 0 undef) v1014 fun v1020 =>
xIf v1020 (/- 0 d 1 gone -/ XJ (fun J1021 =>
xIxS a1 (vs1017.getD 0 undef) 1 fun v1025 =>
xAt v1025 fun a1026 =>
XLd w1019 a1026 fun v1027 =>
xIf (vs1017.getD 2 undef) (J1021 [v1027, (.bool true)] w1019) (xConv .i64 v1027 fun v1028 =>
xEq v1028 (vs1002.getD 0 undef) fun v1029 =>
J1021 [v1027, v1029] w1019)) fun vs1022 g1023 w1024 =>
xAdd (vs1017.getD 0 undef) (.int .i64 1) fun v1030 =>
XNext I1015 n1016 [v1030, (vs1022.getD 0 undef), (vs1022.getD 1 undef)] w1024) (xNot (vs1017.getD 2 undef) fun v1031 =>
xIf v1031 (xConv .u8 (vs1002.getD 0 undef) fun v1032 =>
xFill [(.int .u8 0), (.pointer none)] [(0, 1, v1032), (1, 1, v1011)] fun c1033 =>
xFill (repL [(.int .u8 0), (.pointer none)] 1) [(0, 2, (.agg c1033.toArray))] fun c1034 =>
XNew w1019 c1034 61 fun a1035 w1036 =>
XRun P (Builtin.append_ #[44, 44] 44 #[(vs1002.getD 5 undef), (.slice (some a1035) 1 1)]) w1036 fun v1037 w1038 =>
xConv .u8 (vs1002.getD 0 undef) fun v1039 =>
xFill (repL [(.int .u8 0)] 1) [(0, 1, v1039)] fun c1040 =>
XNew w1038 c1040 5 fun a1041 w1042 =>
XRun P (Builtin.append_ #[41, 41] 41 #[(vs1002.getD 6 undef), (.slice (some a1041) 1 1)]) w1042 fun v1043 w1044 =>
J1006 [(vs1002.getD 0 undef), v1011, (vs1017.getD 2 undef), (vs1017.getD 1 undef), v1037, v1043] w1044) (J1006 [(vs1002.getD 0 undef), v1011, (vs1017.getD 2 undef), (vs1017.getD 1 undef), (vs1002.getD 5 undef), (vs1002.getD 6 undef)] w1019))
/- S_law16_kids_l2: 0=slot 13 1=slot 8 b 2=slot 9 kid 3=slot 10 gone 4=slot 12 d 5=slot 6 l 6=slot 7 bytes -/
def S_law16_kids_l2 (K : Value → World → Prop) (a0 : Value) (a1 : Value) (I1000 : Nat → List Value → World → Prop) (n1001 : Nat) (vs1002 : List Value) (g1003 : Nat → Value) (w1004 : World) : Prop :=
xLt (vs1002.getD 0 undef) (.int .i64 256) fun v1005 =>
xIf v1005 (/- 0 b 1 kid 2 gone 3 d 4 l 5 bytes -/ XJ (fun J1006 =>
xConv .u8 (vs1002.getD 0 undef) fun v1010 =>
Ret P n_node_Node_Kid [a0, v1010] w1004 fun v1011 w1012 =>
xPEq P w1012 v1011 (.pointer none) fun v1013 =>
xLen a1 fun v1014 =>
XLoop [(.int .i64 0), (vs1002.getD 4 undef), v1013] w1012 (S_law16_kids_l1 a1 vs1002 J1006 v1011 v1014)) fun vs1007 g1008 w1009 =>
xAdd (vs1002.getD 0 undef) (.int .i64 1) fun v1045 =>
XNext I1000 n1001 [v1045, (vs1007.getD 0 undef), (vs1007.getD 1 undef), (vs1007.getD 2 undef), (vs1007.getD 3 undef), (vs1007.getD 4 undef), (vs1007.getD 5 undef)] w1009) (K (.tuple #[(vs1002.getD 5 undef), (vs1002.getD 6 undef)]) w1004)
abbrev S_law16_kids (a0 : Value) (a1 : Value) (K : Value → World → Prop) (w0 : World) : Prop :=
XLoop [(.int .i64 0), undef, undef, undef, undef, (.slice none 0 0), (.slice none 0 0)] w0 (S_law16_kids_l2 K a0 a1)
theorem W_law16_kids {a0 a1 : Value} {K : Value → World → Prop} {w : World} (h : S_law16_kids a0 a1 K w) : Ret P n_law16_kids [a0, a1] w K :=
  vcF_of mixed Tryz.func26 (show S_law16_kids a0 a1 K w = vcF P Tryz.f26 [a0, a1] w K from by kernel_rfl) h
/- spunyarn/spunyarnlaw16.as -/
abbrev S_law16_as (a0 : Value) (a1 : Value) (K : Value → World → Prop) (w0 : World) : Prop :=
Ret P n_canon_Shape [a0] w0 fun v1000 w1001 =>
Ret P n_ref13_Build [a1] w1001 fun v1002 w1003 =>
Ret P n_ref13_Shape [v1002] w1003 fun v1004 w1005 =>
xSEq v1000 v1004 fun v1006 =>
K v1006 w1005
theorem W_law16_as {a0 a1 : Value} {K : Value → World → Prop} {w : World} (h : S_law16_as a0 a1 K w) : Ret P n_law16_as [a0, a1] w K :=
  vcF_of mixed Tryz.func29 (show S_law16_as a0 a1 K w = vcF P Tryz.f29 [a0, a1] w K from by kernel_rfl) h
/- spunyarn/spunyarnlaw16.equal -/
/- S_law16_equal_l1: 0=slot 13 1=slot 5 i 2=slot 4 -/
def S_law16_equal_l1 (K : Value → World → Prop) (a0 : Value) (a1 : Value) (v1003 : Value) (I1004 : Nat → List Value → World → Prop) (n1005 : Nat) (vs1006 : List Value) (g1007 : Nat → Value) (w1008 : World) : Prop :=
xLt (vs1006.getD 0 undef) v1003 fun v1009 =>
xIf v1009 (/- 0 -/ XJ (fun J1010 =>
xIxS a0 (vs1006.getD 0 undef) 2 fun v1014 =>
xFld v1014 1 fun v1015 =>
xAt v1015 fun a1016 =>
XLd w1008.drew a1016 fun v1017 =>
xIxS a1 (vs1006.getD 0 undef) 2 fun v1018 =>
xFld v1018 1 fun v1019 =>
xAt v1019 fun a1020 =>
XLd w1008.drew a1020 fun v1021 =>
xNe v1017 v1021 fun v1022 =>
xIf v1022 (J1010 [(.bool true)] (w1008.drew)) (xIxS a0 (vs1006.getD 0 undef) 2 fun v1023 =>
xFld v1023 0 fun v1024 =>
xAt v1024 fun a1025 =>
XLd w1008.drew a1025 fun v1026 =>
xIxS a1 (vs1006.getD 0 undef) 2 fun v1027 =>
xFld v1027 0 fun v1028 =>
xAt v1028 fun a1029 =>
XLd w1008.drew a1029 fun v1030 =>
Ret P n_ref01_Same [v1026, v1030] w1008.drew fun v1031 w1032 =>
xNot v1031 fun v1033 =>
J1010 [v1033] w1032)) fun vs1011 g1012 w1013 =>
xIf (vs1011.getD 0 undef) (K (.bool false) w1013) (xAdd (vs1006.getD 0 undef) (.int .i64 1) fun v1034 =>
XNext I1004 n1005 [v1034, (vs1006.getD 0 undef), (vs1006.getD 2 undef)] w1013)) (K (.bool true) w1008)
abbrev S_law16_equal (a0 : Value) (a1 : Value) (K : Value → World → Prop) (w0 : World) : Prop :=
xLen a0 fun v1000 =>
xLen a1 fun v1001 =>
xNe v1000 v1001 fun v1002 =>
xIf v1002 (K (.bool false) w0) (xLen a0 fun v1003 =>
XLoop [(.int .i64 0), undef, (.bool false)] w0 (S_law16_equal_l1 K a0 a1 v1003))
theorem W_law16_equal {a0 a1 : Value} {K : Value → World → Prop} {w : World} (h : S_law16_equal a0 a1 K w) : Ret P n_law16_equal [a0, a1] w K :=
  vcF_of mixed Tryz.func31 (show S_law16_equal a0 a1 K w = vcF P Tryz.f31 [a0, a1] w K from by kernel_rfl) h
end Go.Proofs.YthnegkjhciakpaaGreatDoor
