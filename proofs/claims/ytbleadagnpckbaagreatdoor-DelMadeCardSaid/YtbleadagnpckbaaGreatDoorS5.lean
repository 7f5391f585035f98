/-  Written by gen.py for this claim: of each function a form without frames, the same as the engine's condition by reckoning.  -/
import Derived.Test.YtbleadagnpckbaaGreatDoorSN
import Derived.Test.YtbleadagnpckbaaGreatDoorProg
namespace Go.Proofs.YtbleadagnpckbaaGreatDoor
open Go X
set_option linter.unusedVariables false
set_option maxRecDepth 100000
/- (spunyarn/union.joiner).level -/
/- S_union_joiner_level_l1: 0=slot 15 kid 1=slot 14 c 2=slot 16 mine 3=slot 17 now 4=slot 13 n -/
def S_union_joiner_level_l1 (K : Value → World → Prop) (a1000 : Addr) (a1008 : Addr) (a1010 : Addr) (I1074 : Nat → List Value → World → Prop) (n1075 : Nat) (vs1076 : List Value) (g1077 : Nat → Value) (w1078 : World) : Prop :=
xPNe P w1078 (vs1076.getD 0 undef) (.pointer none) fun v1079 =>
xIf v1079 (/- 0 mine 1 now 2 n -/ XJ (fun J1080 =>
XLd w1078 (a1008.add 0) fun v1084 =>
Ret P n_node_Node_Kid [v1084, (vs1076.getD 1 undef)] w1078 fun v1085 w1086 =>
XLdN w1086 a1000 4 fun v1087 =>
xFill [(.pointer none), (.int .i64 0)] [(0, 1, v1085)] fun c1088 =>
xFill [(.pointer none), (.int .i64 0)] [(0, 1, (vs1076.getD 0 undef))] fun c1089 =>
Ret P n_union_joiner_of [v1087, (.agg c1088.toArray), (.agg c1089.toArray)] w1086 fun v1090 w1091 =>
xPNe P w1091 v1090 v1085 fun v1092 =>
xIf v1092 (XLdN w1091 a1000 4 fun v1093 =>
XLdN w1091 a1008 2 fun v1094 =>
Ret P n_union_joiner_write [v1093, (vs1076.getD 4 undef), v1094] w1091 fun v1095 w1096 =>
XLd w1096 (a1000.add 2) fun v1097 =>
Ret P n_node_Node_SetKid [v1095, v1097, (vs1076.getD 1 undef), v1090] w1096 fun v1098 w1099 =>
J1080 [v1085, v1090, v1095] w1099) (J1080 [v1085, v1090, (vs1076.getD 4 undef)] w1091)) fun vs1081 g1082 w1083 =>
XLd w1083 (a1010.add 0) fun v1100 =>
xConv .i64 (vs1076.getD 1 undef) fun v1101 =>
xAdd v1101 (.int .i64 1) fun v1102 =>
Ret P n_node_Node_Next [v1100, v1102] w1083 fun v1103 w1104 =>
xTup v1103 0 fun v1105 =>
xTup v1103 1 fun v1106 =>
XNext I1074 n1075 [v1106, v1105, (vs1081.getD 0 undef), (vs1081.getD 1 undef), (vs1081.getD 2 undef)] w1104) (XLdN w1078 a1000 4 fun v1107 =>
XLdN w1078 a1008 2 fun v1108 =>
Ret P n_union_joiner_done [v1107, (vs1076.getD 4 undef), v1108] w1078 fun v1109 w1110 =>
K v1109 w1110)
/- S_union_joiner_level_l2: 0=slot 15 kid 1=slot 14 c 2=slot 16 mine 3=slot 17 now 4=slot 13 n -/
def S_union_joiner_level_l2 (K : Value → World → Prop) (a1000 : Addr) (a1111 : Addr) (a1113 : Addr) (I1177 : Nat → List Value → World → Prop) (n1178 : Nat) (vs1179 : List Value) (g1180 : Nat → Value) (w1181 : World) : Prop :=
xPNe P w1181 (vs1179.getD 0 undef) (.pointer none) fun v1182 =>
xIf v1182 (/- 0 mine 1 now 2 n -/ XJ (fun J1183 =>
XLd w1181 (a1113.add 0) fun v1187 =>
Ret P n_node_Node_Kid [v1187, (vs1179.getD 1 undef)] w1181 fun v1188 w1189 =>
XLdN w1189 a1000 4 fun v1190 =>
xFill [(.pointer none), (.int .i64 0)] [(0, 1, v1188)] fun c1191 =>
xFill [(.pointer none), (.int .i64 0)] [(0, 1, (vs1179.getD 0 undef))] fun c1192 =>
Ret P n_union_joiner_of [v1190, (.agg c1191.toArray), (.agg c1192.toArray)] w1189 fun v1193 w1194 =>
xPNe P w1194 v1193 v1188 fun v1195 =>
xIf v1195 (XLdN w1194 a1000 4 fun v1196 =>
XLdN w1194 a1113 2 fun v1197 =>
Ret P n_union_joiner_write [v1196, (vs1179.getD 4 undef), v1197] w1194 fun v1198 w1199 =>
XLd w1199 (a1000.add 2) fun v1200 =>
Ret P n_node_Node_SetKid [v1198, v1200, (vs1179.getD 1 undef), v1193] w1199 fun v1201 w1202 =>
J1183 [v1188, v1193, v1198] w1202) (J1183 [v1188, v1193, (vs1179.getD 4 undef)] w1194)) fun vs1184 g1185 w1186 =>
XLd w1186 (a1111.add 0) fun v1203 =>
xConv .i64 (vs1179.getD 1 undef) fun v1204 =>
xAdd v1204 (.int .i64 1) fun v1205 =>
Ret P n_node_Node_Next [v1203, v1205] w1186 fun v1206 w1207 =>
xTup v1206 0 fun v1208 =>
xTup v1206 1 fun v1209 =>
XNext I1177 n1178 [v1209, v1208, (vs1184.getD 0 undef), (vs1184.getD 1 undef), (vs1184.getD 2 undef)] w1207) (XLdN w1181 a1000 4 fun v1210 =>
XLdN w1181 a1113 2 fun v1211 =>
Ret P n_union_joiner_done [v1210, (vs1179.getD 4 undef), v1211] w1181 fun v1212 w1213 =>
K v1212 w1213)
abbrev S_union_joiner_level (a0 : Value) (a1 : Value) (a2 : Value) (K : Value → World → Prop) (w0 : World) : Prop :=
XNew w0 (cellsV a0) 182 fun a1000 w1001 =>
XNew w1001 (cellsV a1) 185 fun a1002 w1003 =>
XNew w1003 (cellsV a2) 185 fun a1004 w1005 =>
XLdN w1005.drew a1002 2 fun v1006 =>
XLdN w1005.drew a1004 2 fun v1007 =>
(XNew w1005.drew [(.pointer none), (.int .i64 0)] 185 fun a1008 w1009 =>
xKeepN w1009 (.pointer (some a1004)) v1007 ∧ (xKeepN w1009 (.pointer (some a1002)) v1006 ∧ (XNew w1009 [(.pointer none), (.int .i64 0)] 185 fun a1010 w1011 =>
xKeepN w1011 (.pointer (some a1004)) v1007 ∧ (xKeepN w1011 (.pointer (some a1002)) v1006 ∧ (XDo P (storeVar 185 a1008 v1006) w1011 fun w1012 =>
xKeepN w1012 (.pointer (some a1004)) v1007 ∧ (XDo P (storeVar 185 a1010 v1007) w1012 fun w1013 =>
/-  -/ XJ (fun J1014 =>
/- 0 -/ XJ (fun J1018 =>
XLdN w1013 a1002 2 fun v1022 =>
Ret P n_union_end_leaf [v1022] w1013 fun v1023 w1024 =>
xIf v1023 (XLdN w1024 a1004 2 fun v1025 =>
Ret P n_union_end_leaf [v1025] w1024 fun v1026 w1027 =>
xNot v1026 fun v1028 =>
J1018 [v1028] w1027) (J1018 [(.bool false)] w1024)) fun vs1019 g1020 w1021 =>
xIf (vs1019.getD 0 undef) (XLdN w1021.drew a1004 2 fun v1029 =>
XLdN w1021.drew a1002 2 fun v1030 =>
XDo P (storeVar 185 a1008 v1029) w1021.drew fun w1031 =>
xKeepN w1031 (.pointer (some a1002)) v1030 ∧ (XDo P (storeVar 185 a1010 v1030) w1031 fun w1032 =>
J1014 [] w1032)) (J1014 [] w1021)) fun vs1015 g1016 w1017 =>
XLdN w1017 a1000 4 fun v1033 =>
XLd w1017 (a1002.add 0) fun v1034 =>
XLd w1017 (a1004.add 0) fun v1035 =>
Ret P n_union_joiner_value [v1033, v1034, v1035] w1017 fun v1036 w1037 =>
xTup v1036 0 fun v1038 =>
xTup v1036 1 fun v1039 =>
XLd w1037 (a1008.add 0) fun v1040 =>
Ret P n_node_Node_Val [v1040] w1037 fun v1041 w1042 =>
xTup v1041 0 fun v1043 =>
xTup v1041 1 fun v1044 =>
/- 0 n -/ XJ (fun J1045 =>
/- 0 -/ XJ (fun J1049 =>
xBNe v1039 v1044 fun v1053 =>
xIf v1053 (J1049 [(.bool true)] w1042) (xNe v1038 v1043 fun v1054 =>
J1049 [v1054] w1042)) fun vs1050 g1051 w1052 =>
xIf (vs1050.getD 0 undef) (XLdN w1052 a1000 4 fun v1055 =>
XLdN w1052 a1008 2 fun v1056 =>
Ret P n_union_joiner_write [v1055, (.pointer none), v1056] w1052 fun v1057 w1058 =>
XLd w1058 (a1000.add 2) fun v1059 =>
Ret P n_node_Node_SetVal [v1057, v1059, v1038] w1058 fun v1060 w1061 =>
J1045 [v1057] w1061) (J1045 [(.pointer none)] w1052)) fun vs1046 g1047 w1048 =>
XLdN w1048 a1010 2 fun v1062 =>
Ret P n_union_end_leaf [v1062] w1048 fun v1063 w1064 =>
xIf v1063 (XLdN w1064 a1000 4 fun v1065 =>
XLdN w1064 a1008 2 fun v1066 =>
Ret P n_union_joiner_done [v1065, (vs1046.getD 0 undef), v1066] w1064 fun v1067 w1068 =>
K v1067 w1068) (XLd w1064 (a1010.add 0) fun v1069 =>
Ret P n_node_Node_Next [v1069, (.int .i64 0)] w1064 fun v1070 w1071 =>
xTup v1070 0 fun v1072 =>
xTup v1070 1 fun v1073 =>
XLoop [v1073, v1072, undef, undef, (vs1046.getD 0 undef)] w1071 (S_union_joiner_level_l1 K a1000 a1008 a1010)))))))) ∧ (XNew w1005.drew [(.pointer none), (.int .i64 0)] 185 fun a1111 w1112 =>
xKeepN w1112 (.pointer (some a1004)) v1007 ∧ (xKeepN w1112 (.pointer (some a1002)) v1006 ∧ (XNew w1112 [(.pointer none), (.int .i64 0)] 185 fun a1113 w1114 =>
xKeepN w1114 (.pointer (some a1004)) v1007 ∧ (xKeepN w1114 (.pointer (some a1002)) v1006 ∧ (XDo P (storeVar 185 a1113 v1006) w1114 fun w1115 =>
xKeepN w1115 (.pointer (some a1004)) v1007 ∧ (XDo P (storeVar 185 a1111 v1007) w1115 fun w1116 =>
/-  -/ XJ (fun J1117 =>
/- 0 -/ XJ (fun J1121 =>
XLdN w1116 a1002 2 fun v1125 =>
Ret P n_union_end_leaf [v1125] w1116 fun v1126 w1127 =>
xIf v1126 (XLdN w1127 a1004 2 fun v1128 =>
Ret P n_union_end_leaf [v1128] w1127 fun v1129 w1130 =>
xNot v1129 fun v1131 =>
J1121 [v1131] w1130) (J1121 [(.bool false)] w1127)) fun vs1122 g1123 w1124 =>
xIf (vs1122.getD 0 undef) (XLdN w1124.drew a1004 2 fun v1132 =>
XLdN w1124.drew a1002 2 fun v1133 =>
XDo P (storeVar 185 a1113 v1132) w1124.drew fun w1134 =>
xKeepN w1134 (.pointer (some a1002)) v1133 ∧ (XDo P (storeVar 185 a1111 v1133) w1134 fun w1135 =>
J1117 [] w1135)) (J1117 [] w1124)) fun vs1118 g1119 w1120 =>
XLdN w1120 a1000 4 fun v1136 =>
XLd w1120 (a1002.add 0) fun v1137 =>
XLd w1120 (a1004.add 0) fun v1138 =>
Ret P n_union_joiner_value [v1136, v1137, v1138] w1120 fun v1139 w1140 =>
xTup v1139 0 fun v1141 =>
xTup v1139 1 fun v1142 =>
XLd w1140 (a1113.add 0) fun v1143 =>
Ret P n_node_Node_Val [v1143] w1140 fun v1144 w1145 =>
xTup v1144 0 fun v1146 =>
xTup v1144 1 fun v1147 =>
/- 0 n -/ XJ (fun J1148 =>
/- 0 -/ XJ (fun J1152 =>
xBNe v1142 v1147 fun v1156 =>
xIf v1156 (J1152 [(.bool true)] w1145) (xNe v1141 v1146 fun v1157 =>
J1152 [v1157] w1145)) fun vs1153 g1154 w1155 =>
xIf (vs1153.getD 0 undef) (XLdN w1155 a1000 4 fun v1158 =>
XLdN w1155 a1113 2 fun v1159 =>
Ret P n_union_joiner_write [v1158, (.pointer none), v1159] w1155 fun v1160 w1161 =>
XLd w1161 (a1000.add 2) fun v1162 =>
Ret P n_node_Node_SetVal [v1160, v1162, v1141] w1161 fun v1163 w1164 =>
J1148 [v1160] w1164) (J1148 [(.pointer none)] w1155)) fun vs1149 g1150 w1151 =>
XLdN w1151 a1111 2 fun v1165 =>
Ret P n_union_end_leaf [v1165] w1151 fun v1166 w1167 =>
xIf v1166 (XLdN w1167 a1000 4 fun v1168 =>
XLdN w1167 a1113 2 fun v1169 =>
Ret P n_union_joiner_done [v1168, (vs1149.getD 0 undef), v1169] w1167 fun v1170 w1171 =>
K v1170 w1171) (XLd w1167 (a1111.add 0) fun v1172 =>
Ret P n_node_Node_Next [v1172, (.int .i64 0)] w1167 fun v1173 w1174 =>
xTup v1173 0 fun v1175 =>
xTup v1173 1 fun v1176 =>
XLoop [v1176, v1175, undef, undef, (vs1149.getD 0 undef)] w1174 (S_union_joiner_level_l2 K a1000 a1111 a1113))))))))
theorem W_union_joiner_level {a0 a1 a2 : Value} {K : Value → World → Prop} {w : World} (h : S_union_joiner_level a0 a1 a2 K w) : Ret P n_union_joiner_level [a0, a1, a2] w K :=
  vcF_of mixed Tryz.func181 (show S_union_joiner_level a0 a1 a2 K w = vcF P Tryz.f181 [a0, a1, a2] w K from by kernel_rfl) h
/- spunyarn/canon.check -/
/- S_canon_check_l1: 0=slot 8 1=slot 5 e 2=slot 2 -/
def S_canon_check_l1 (K : Value → World → Prop) (a0 : Value) (v1000 : Value) (I1001 : Nat → List Value → World → Prop) (n1002 : Nat) (vs1003 : List Value) (g1004 : Nat → Value) (w1005 : World) : Prop :=
xLt (vs1003.getD 0 undef) v1000 fun v1006 =>
xIf v1006 (xIxS a0 (vs1003.getD 0 undef) 2 fun v1007 =>
xAt v1007 fun a1008 =>
XLdN w1005 a1008 2 fun v1009 =>
XNew w1005 [(.slice none 0 0), (.int .u64 0)] 102 fun a1010 w1011 =>
XDo P (storeVar 102 a1010 v1009) w1011 fun w1012 =>
XLd w1012 (a1010.add 0) fun v1013 =>
Ret P n_keys_May [v1013] w1012 fun v1014 w1015 =>
xNe v1014 (.int .i64 0) fun v1016 =>
xIf v1016 (K v1014 w1015) (xAdd (vs1003.getD 0 undef) (.int .i64 1) fun v1017 =>
XNext I1001 n1002 [v1017, v1014, (vs1003.getD 2 undef)] w1015)) (Ret P n_keys_Sorted [a0] w1005 fun v1018 w1019 =>
xNot v1018 fun v1020 =>
xIf v1020 (K (.int .i64 12) w1019) (K (.int .i64 0) w1019))
abbrev S_canon_check (a0 : Value) (K : Value → World → Prop) (w0 : World) : Prop :=
xLen a0 fun v1000 =>
XLoop [(.int .i64 0), undef, (.int .i64 0)] w0 (S_canon_check_l1 K a0 v1000)
theorem W_canon_check {a0 : Value} {K : Value → World → Prop} {w : World} (h : S_canon_check a0 K w) : Ret P n_canon_check [a0] w K :=
  vcF_of mixed Tryz.func182 (show S_canon_check a0 K w = vcF P Tryz.f182 [a0] w K from by kernel_rfl) h
/- (spunyarn/canon.maker).tree -/
/- S_canon_maker_tree_l1: 0=slot 11 many -/
def S_canon_maker_tree_l1 (a1000 : Addr) (v1028 : Value) (v1033 : Value) (I1049 : Nat → List Value → World → Prop) (n1050 : Nat) (vs1051 : List Value) (v1062 : Value) (I1063 : Nat → List Value → World → Prop) (n1064 : Nat) (vs1065 : List Value) (g1066 : Nat → Value) (w1067 : World) : Prop :=
/- 0 -/ XJ (fun J1068 =>
xLen (vs1051.getD 0 undef) fun v1072 =>
xLt (vs1065.getD 0 undef) v1072 fun v1073 =>
xIf v1073 (xIxS (vs1051.getD 0 undef) (vs1065.getD 0 undef) 2 fun v1074 =>
xFld v1074 0 fun v1075 =>
xAt v1075 fun a1076 =>
XLd w1067 a1076 fun v1077 =>
xIxS v1077 v1028 1 fun v1078 =>
xAt v1078 fun a1079 =>
XLd w1067 a1079 fun v1080 =>
xEq v1080 v1062 fun v1081 =>
J1068 [v1081] w1067) (J1068 [(.bool false)] w1067)) fun vs1069 g1070 w1071 =>
xIf (vs1069.getD 0 undef) (xAdd (vs1065.getD 0 undef) (.int .i64 1) fun v1082 =>
XNext I1063 n1064 [v1082] w1071) (XLd w1071.drew (a1000.add 1) fun v1083 =>
XLdN w1071.drew a1000 2 fun v1084 =>
xCutS 2 (vs1051.getD 0 undef) none (some (vs1065.getD 0 undef)) none fun v1085 =>
xAdd v1028 (.int .i64 1) fun v1086 =>
Ret P n_canon_maker_tree [v1084, v1085, v1086] w1071.drew fun v1087 w1088 =>
xKeep1 w1088 (.pointer (some (a1000.add 1))) v1083 ∧ (Ret P n_node_Node_SetKid [v1033, v1083, v1062, v1087] w1088 fun v1089 w1090 =>
xCutS 2 (vs1051.getD 0 undef) (some (vs1065.getD 0 undef)) none none fun v1091 =>
XNext I1049 n1050 [v1091, v1062, (vs1065.getD 0 undef)] w1090))
/- S_canon_maker_tree_l2: 0=slot 1 l 1=slot 10 b 2=slot 11 many -/
def S_canon_maker_tree_l2 (K : Value → World → Prop) (a1000 : Addr) (v1028 : Value) (v1033 : Value) (I1049 : Nat → List Value → World → Prop) (n1050 : Nat) (vs1051 : List Value) (g1052 : Nat → Value) (w1053 : World) : Prop :=
xLen (vs1051.getD 0 undef) fun v1054 =>
xGt v1054 (.int .i64 0) fun v1055 =>
xIf v1055 (xIxS (vs1051.getD 0 undef) (.int .i64 0) 2 fun v1056 =>
xFld v1056 0 fun v1057 =>
xAt v1057 fun a1058 =>
XLd w1053 a1058 fun v1059 =>
xIxS v1059 v1028 1 fun v1060 =>
xAt v1060 fun a1061 =>
XLd w1053 a1061 fun v1062 =>
XLoop [(.int .i64 1)] w1053 (S_canon_maker_tree_l1 a1000 v1028 v1033 I1049 n1050 vs1051 v1062)) (K v1033 w1053)
abbrev S_canon_maker_tree (a0 : Value) (a1 : Value) (a2 : Value) (K : Value → World → Prop) (w0 : World) : Prop :=
XNew w0 (cellsV a0) 255 fun a1000 w1001 =>
xLen a1 fun v1002 =>
xEq v1002 (.int .i64 0) fun v1003 =>
xIf v1003 (K (.pointer none) w1001) (xEq v1002 (.int .i64 1) fun v1004 =>
xIf v1004 (XLd w1001.drew (a1000.add 0) fun v1005 =>
XLd w1001.drew (a1000.add 1) fun v1006 =>
xIxS a1 (.int .i64 0) 2 fun v1007 =>
xFld v1007 0 fun v1008 =>
xAt v1008 fun a1009 =>
XLd w1001.drew a1009 fun v1010 =>
xCutS 1 v1010 (some a2) none none fun v1011 =>
xIxS a1 (.int .i64 0) 2 fun v1012 =>
xFld v1012 1 fun v1013 =>
xAt v1013 fun a1014 =>
XLd w1001.drew a1014 fun v1015 =>
Ret P n_node_Leaf [v1005, v1006, v1011, v1015] w1001.drew fun v1016 w1017 =>
K v1016 w1017) (xIxS a1 (.int .i64 0) 2 fun v1018 =>
xFld v1018 0 fun v1019 =>
xAt v1019 fun a1020 =>
XLd w1001 a1020 fun v1021 =>
xLen a1 fun v1022 =>
xSub v1022 (.int .i64 1) fun v1023 =>
xIxS a1 v1023 2 fun v1024 =>
xFld v1024 0 fun v1025 =>
xAt v1025 fun a1026 =>
XLd w1001 a1026 fun v1027 =>
Ret P n_keys_Common [v1021, v1027] w1001 fun v1028 w1029 =>
XLd w1029.drew (a1000.add 0) fun v1030 =>
XLd w1029.drew (a1000.add 1) fun v1031 =>
xCutS 1 v1021 (some a2) (some v1028) none fun v1032 =>
Ret P n_node_Inner [v1030, v1031, v1032] w1029.drew fun v1033 w1034 =>
/- 0 l -/ XJ (fun J1035 =>
xLen v1021 fun v1039 =>
xEq v1039 v1028 fun v1040 =>
xIf v1040 (XLd w1034.drew (a1000.add 1) fun v1041 =>
xIxS a1 (.int .i64 0) 2 fun v1042 =>
xFld v1042 1 fun v1043 =>
xAt v1043 fun a1044 =>
XLd w1034.drew a1044 fun v1045 =>
Ret P n_node_Node_SetVal [v1033, v1041, v1045] w1034.drew fun v1046 w1047 =>
xCutS 2 a1 (some (.int .i64 1)) none none fun v1048 =>
J1035 [v1048] w1047) (J1035 [a1] w1034)) fun vs1036 g1037 w1038 =>
XLoop [(vs1036.getD 0 undef), undef, undef] w1038 (S_canon_maker_tree_l2 K a1000 v1028 v1033)))
theorem W_canon_maker_tree {a0 a1 a2 : Value} {K : Value → World → Prop} {w : World} (h : S_canon_maker_tree a0 a1 a2 K w) : Ret P n_canon_maker_tree [a0, a1, a2] w K :=
  vcF_of mixed Tryz.func183 (show S_canon_maker_tree a0 a1 a2 K w = vcF P Tryz.f183 [a0, a1, a2] w K from by kernel_rfl) h
/- spunyarn/spunyarnref01.Common -/
/- S_ref01_Common_l1: 0=slot 5 n -/
def S_ref01_Common_l1 (K : Value → World → Prop) (a0 : Value) (a1 : Value) (I1000 : Nat → List Value → World → Prop) (n1001 : Nat) (vs1002 : List Value) (g1003 : Nat → Value) (w1004 : World) : Prop :=
/- 0 -/ XJ (fun J1005 =>
xLen a0 fun v1009 =>
xLt (vs1002.getD 0 undef) v1009 fun v1010 =>
xIf v1010 (xLen a1 fun v1011 =>
xLt (vs1002.getD 0 undef) v1011 fun v1012 =>
xIf v1012 (xIxS a0 (vs1002.getD 0 undef) 1 fun v1013 =>
xAt v1013 fun a1014 =>
XLd w1004.drew a1014 fun v1015 =>
xIxS a1 (vs1002.getD 0 undef) 1 fun v1016 =>
xAt v1016 fun a1017 =>
XLd w1004.drew a1017 fun v1018 =>
xEq v1015 v1018 fun v1019 =>
J1005 [v1019] (w1004.drew)) (J1005 [(.bool false)] (w1004.drew))) (J1005 [(.bool false)] (w1004.drew))) fun vs1006 g1007 w1008 =>
xIf (vs1006.getD 0 undef) (xAdd (vs1002.getD 0 undef) (.int .i64 1) fun v1020 =>
XNext I1000 n1001 [v1020] w1008) (K (vs1002.getD 0 undef) w1008)
abbrev S_ref01_Common (a0 : Value) (a1 : Value) (K : Value → World → Prop) (w0 : World) : Prop :=
XLoop [(.int .i64 0)] w0 (S_ref01_Common_l1 K a0 a1)
theorem W_ref01_Common {a0 a1 : Value} {K : Value → World → Prop} {w : World} (h : S_ref01_Common a0 a1 K w) : Ret P n_ref01_Common [a0, a1] w K :=
  vcF_of mixed Tryz.func184 (show S_ref01_Common a0 a1 K w = vcF P Tryz.f184 [a0, a1] w K from by kernel_rfl) h
/- (*strings.Builder).WriteString -/
abbrev S_strings_Builder_WriteString (a0 : Value) (a1 : Value) (K : Value → World → Prop) (w0 : World) : Prop :=
Ret P n_strings_Builder_copyCheck [a0] w0 fun v1000 w1001 =>
xAt a0 fun a1002 =>
XLd w1001 (a1002.add 1) fun v1003 =>
XRun P (Builtin.append_ #[50, 9] 50 #[v1003, a1]) w1001 fun v1004 w1005 =>
xAt a0 fun a1006 =>
XSt w1005 (a1006.add 1) v1004 fun w1007 =>
xLenS a1 fun v1008 =>
K (.tuple #[v1008, .nilIface]) w1007
theorem W_strings_Builder_WriteString {a0 a1 : Value} {K : Value → World → Prop} {w : World} (h : S_strings_Builder_WriteString a0 a1 K w) : Ret P n_strings_Builder_WriteString [a0, a1] w K :=
  vcF_of mixed Tryz.func185 (show S_strings_Builder_WriteString a0 a1 K w = vcF P Tryz.f185 [a0, a1] w K from by kernel_rfl) h
/- strconv.Itoa -/
abbrev S_strconv_Itoa (a0 : Value) (K : Value → World → Prop) (w0 : World) : Prop :=
Ret P n_istrconv_Itoa [a0] w0 fun v1000 w1001 =>
K v1000 w1001
theorem W_strconv_Itoa {a0 : Value} {K : Value → World → Prop} {w : World} (h : S_strconv_Itoa a0 K w) : Ret P n_strconv_Itoa [a0] w K :=
  vcF_of mixed Tryz.func186 (show S_strconv_Itoa a0 K w = vcF P Tryz.f186 [a0] w K from by kernel_rfl) h
/- spunyarn/keys.Text -/
/- S_keys_Text_l1: 0=slot 12 1=slot 5 c 2=slot 3 b -/
def S_keys_Text_l1 (K : Value → World → Prop) (a0 : Value) (v1004 : Value) (I1005 : Nat → List Value → World → Prop) (n1006 : Nat) (vs1007 : List Value) (g1008 : Nat → Value) (w1009 : World) : Prop :=
xLt (vs1007.getD 0 undef) v1004 fun v1010 =>
xIf v1010 (xIxS a0 (vs1007.getD 0 undef) 1 fun v1011 =>
xAt v1011 fun a1012 =>
XLd w1009 a1012 fun v1013 =>
xShr v1013 (.int .u64 4) fun v1014 =>
xIxStr (.string ⟨#[48, 49, 50, 51, 52, 53, 54, 55, 56, 57, 97, 98, 99, 100, 101, 102]⟩) v1014 fun v1015 =>
xAnd v1013 (.int .u8 15) fun v1016 =>
xIxStr (.string ⟨#[48, 49, 50, 51, 52, 53, 54, 55, 56, 57, 97, 98, 99, 100, 101, 102]⟩) v1016 fun v1017 =>
xFill (repL [(.int .u8 0)] 2) [(0, 1, v1015), (1, 1, v1017)] fun c1018 =>
XNew w1009.drew c1018 5 fun a1019 w1020 =>
XRun P (Builtin.append_ #[50, 50] 50 #[(vs1007.getD 2 undef), (.slice (some a1019) 2 2)]) w1020 fun v1021 w1022 =>
xAdd (vs1007.getD 0 undef) (.int .i64 1) fun v1023 =>
XNext I1005 n1006 [v1023, v1013, v1021] w1022) (XRun P (convert 50 9 (vs1007.getD 2 undef)) w1009 fun v1024 w1025 =>
K v1024 w1025)
abbrev S_keys_Text (a0 : Value) (K : Value → World → Prop) (w0 : World) : Prop :=
xLen a0 fun v1000 =>
xMul (.int .i64 2) v1000 fun v1001 =>
XRun P (Instr.makeSlice 50 (.int .i64 0) v1001) w0 fun v1002 w1003 =>
xLen a0 fun v1004 =>
XLoop [(.int .i64 0), undef, v1002] w1003 (S_keys_Text_l1 K a0 v1004)
theorem W_keys_Text {a0 : Value} {K : Value → World → Prop} {w : World} (h : S_keys_Text a0 K w) : Ret P n_keys_Text [a0] w K :=
  vcF_of mixed Tryz.func187 (show S_keys_Text a0 K w = vcF P Tryz.f187 [a0] w K from by kernel_rfl) h
/- strconv.FormatUint -/
abbrev S_strconv_FormatUint (a0 : Value) (a1 : Value) (K : Value → World → Prop) (w0 : World) : Prop :=
Ret P n_istrconv_FormatUint [a0, a1] w0 fun v1000 w1001 =>
K v1000 w1001
theorem W_strconv_FormatUint {a0 a1 : Value} {K : Value → World → Prop} {w : World} (h : S_strconv_FormatUint a0 a1 K w) : Ret P n_strconv_FormatUint [a0, a1] w K :=
  vcF_of mixed Tryz.func188 (show S_strconv_FormatUint a0 a1 K w = vcF P Tryz.f188 [a0, a1] w K from by kernel_rfl) h
/- spunyarn/canon.each$1 -/
/- S_canon_each_1_l1: 0=slot 7 k 1=slot 6 b -/
def S_canon_each_1_l1 (K : Value → World → Prop) (a1 : Value) (a3 : Value) (v1003 : Value) (I1015 : Nat → List Value → World → Prop) (n1016 : Nat) (vs1017 : List Value) (g1018 : Nat → Value) (w1019 : World) : Prop :=
xPNe P w1019 (vs1017.getD 0 undef) (.pointer none) fun v1020 =>
xIf v1020 (xAt a3 fun a1021 =>
XLd w1019.drew a1021 fun v1022 =>
xFill (repL [(.int .u8 0)] 1) [(0, 1, (vs1017.getD 1 undef))] fun c1023 =>
XNew w1019.drew c1023 5 fun a1024 w1025 =>
xKeep1 w1025 a3 v1022 ∧ (XRun P (Builtin.append_ #[50, 50] 50 #[v1003, (.slice (some a1024) 1 1)]) w1025 fun v1026 w1027 =>
xKeep1 w1027 a3 v1022 ∧ (xFunc v1022 [v1026, (vs1017.getD 0 undef)] fun f1028 xs1029 =>
xCall P f1028 xs1029 w1027 fun v1030 w1031 =>
xConv .i64 (vs1017.getD 1 undef) fun v1032 =>
xAdd v1032 (.int .i64 1) fun v1033 =>
Ret P n_node_Node_Next [a1, v1033] w1031 fun v1034 w1035 =>
xTup v1034 0 fun v1036 =>
xTup v1034 1 fun v1037 =>
XNext I1015 n1016 [v1037, v1036] w1035))) (K (.tuple #[]) w1019)
abbrev S_canon_each_1 (a0 : Value) (a1 : Value) (a2 : Value) (a3 : Value) (K : Value → World → Prop) (w0 : World) : Prop :=
xPEq P w0 a1 (.pointer none) fun v1000 =>
xIf v1000 (K (.tuple #[]) w0) (Ret P n_node_Node_Part [a1] w0 fun v1001 w1002 =>
XRun P (Builtin.append_ #[50, 50] 50 #[a0, v1001]) w1002 fun v1003 w1004 =>
xAt a2 fun a1005 =>
XLd w1004 a1005 fun v1006 =>
xFunc v1006 [v1003, a1] fun f1007 xs1008 =>
xCall P f1007 xs1008 w1004 fun v1009 w1010 =>
Ret P n_node_Node_Next [a1, (.int .i64 0)] w1010 fun v1011 w1012 =>
xTup v1011 0 fun v1013 =>
xTup v1011 1 fun v1014 =>
XLoop [v1014, v1013] w1012 (S_canon_each_1_l1 K a1 a3 v1003))
theorem W_canon_each_1 {a0 a1 a2 a3 : Value} {K : Value → World → Prop} {w : World} (h : S_canon_each_1 a0 a1 a2 a3 K w) : Ret P n_canon_each_1 [a0, a1, a2, a3] w K :=
  vcF_of mixed Tryz.func189 (show S_canon_each_1 a0 a1 a2 a3 K w = vcF P Tryz.f189 [a0, a1, a2, a3] w K from by kernel_rfl) h
/- (*spunyarn/node.Node).isLeaf -/
abbrev S_node_Node_isLeaf (a0 : Value) (K : Value → World → Prop) (w0 : World) : Prop :=
xAt a0 fun a1000 =>
XLd w0 (a1000.add 4) fun v1001 =>
xPEq P w0 v1001 (.pointer none) fun v1002 =>
K v1002 w0
theorem W_node_Node_isLeaf {a0 : Value} {K : Value → World → Prop} {w : World} (h : S_node_Node_isLeaf a0 K w) : Ret P n_node_Node_isLeaf [a0] w K :=
  vcF_of mixed Tryz.func190 (show S_node_Node_isLeaf a0 K w = vcF P Tryz.f190 [a0] w K from by kernel_rfl) h
/- (*spunyarn/kids.Kids[*spunyarn/node.Node]).Kind -/
abbrev S_kids_Kids_Kind (a0 : Value) (K : Value → World → Prop) (w0 : World) : Prop :=
Ret P n_kids_Kids_ok [a0] w0 fun v1000 w1001 =>
xNot v1000 fun v1002 =>
xIf v1002 (K (.int .i64 0) w1001) (xAt a0 fun a1003 =>
XLd w1001 (a1003.add 0) fun v1004 =>
xPNe P w1001 v1004 (.pointer none) fun v1005 =>
xIf v1005 (xAt a0 fun a1006 =>
XLd w1001 (a1006.add 0) fun v1007 =>
Ret P n_small_Row_Room [v1007] w1001 fun v1008 w1009 =>
K v1008 w1009) (xAt a0 fun a1010 =>
XLd w1001 (a1010.add 1) fun v1011 =>
Ret P n_wide_Board_Room [v1011] w1001 fun v1012 w1013 =>
K v1012 w1013))
theorem W_kids_Kids_Kind {a0 : Value} {K : Value → World → Prop} {w : World} (h : S_kids_Kids_Kind a0 K w) : Ret P n_kids_Kids_Kind [a0] w K :=
  vcF_of mixed Tryz.func191 (show S_kids_Kids_Kind a0 K w = vcF P Tryz.f191 [a0] w K from by kernel_rfl) h
/- (*spunyarn/kids.Kids[*spunyarn/node.Node]).Len -/
abbrev S_kids_Kids_Len (a0 : Value) (K : Value → World → Prop) (w0 : World) : Prop :=
Ret P n_kids_Kids_ok [a0] w0 fun v1000 w1001 =>
xNot v1000 fun v1002 =>
xIf v1002 (K (.int .i64 0) w1001) (xAt a0 fun a1003 =>
XLd w1001 (a1003.add 0) fun v1004 =>
xPNe P w1001 v1004 (.pointer none) fun v1005 =>
xIf v1005 (xAt a0 fun a1006 =>
XLd w1001 (a1006.add 0) fun v1007 =>
Ret P n_small_Row_Len [v1007] w1001 fun v1008 w1009 =>
K v1008 w1009) (xAt a0 fun a1010 =>
XLd w1001 (a1010.add 1) fun v1011 =>
Ret P n_wide_Board_Len [v1011] w1001 fun v1012 w1013 =>
K v1012 w1013))
theorem W_kids_Kids_Len {a0 : Value} {K : Value → World → Prop} {w : World} (h : S_kids_Kids_Len a0 K w) : Ret P n_kids_Kids_Len [a0] w K :=
  vcF_of mixed Tryz.func192 (show S_kids_Kids_Len a0 K w = vcF P Tryz.f192 [a0] w K from by kernel_rfl) h
/- (*spunyarn/node.Node).Len -/
abbrev S_node_Node_Len (a0 : Value) (K : Value → World → Prop) (w0 : World) : Prop :=
xPEq P w0 a0 (.pointer none) fun v1000 =>
xIf v1000 (K (.int .i64 0) w0) (xAt a0 fun a1001 =>
XLd w0 (a1001.add 4) fun v1002 =>
Ret P n_kids_Kids_Len [v1002] w0 fun v1003 w1004 =>
K v1003 w1004)
theorem W_node_Node_Len {a0 : Value} {K : Value → World → Prop} {w : World} (h : S_node_Node_Len a0 K w) : Ret P n_node_Node_Len [a0] w K :=
  vcF_of mixed Tryz.func193 (show S_node_Node_Len a0 K w = vcF P Tryz.f193 [a0] w K from by kernel_rfl) h
/- (spunyarn/del.taker).here -/
abbrev S_del_taker_here (a0 : Value) (a1 : Value) (K : Value → World → Prop) (w0 : World) : Prop :=
XNew w0 (cellsV a0) 198 fun a1000 w1001 =>
Ret P n_node_Node_Len [a1] w1001 fun v1002 w1003 =>
xEq v1002 (.int .i64 0) fun v1004 =>
xIf v1004 (K (.pointer none) w1003) (xEq v1002 (.int .i64 1) fun v1005 =>
xIf v1005 (Ret P n_node_Node_Next [a1, (.int .i64 0)] w1003 fun v1006 w1007 =>
xTup v1006 0 fun v1008 =>
xTup v1006 1 fun v1009 =>
XLdN w1007 a1000 2 fun v1010 =>
Ret P n_del_taker_lift [v1010, a1, v1008, v1009] w1007 fun v1011 w1012 =>
K v1011 w1012) (XLd w1003 (a1000.add 1) fun v1013 =>
XLd w1003 (a1000.add 0) fun v1014 =>
Ret P n_node_Node_Own [a1, v1013, v1014] w1003 fun v1015 w1016 =>
XLd w1016 (a1000.add 0) fun v1017 =>
Ret P n_node_Node_DropVal [v1015, v1017] w1016 fun v1018 w1019 =>
K v1015 w1019))
theorem W_del_taker_here {a0 a1 : Value} {K : Value → World → Prop} {w : World} (h : S_del_taker_here a0 a1 K w) : Ret P n_del_taker_here [a0, a1] w K :=
  vcF_of mixed Tryz.func195 (show S_del_taker_here a0 a1 K w = vcF P Tryz.f195 [a0, a1] w K from by kernel_rfl) h
/- (*spunyarn/node.Node).Own -/
abbrev S_node_Node_Own (a0 : Value) (a1 : Value) (a2 : Value) (K : Value → World → Prop) (w0 : World) : Prop :=
Ret P n_node_Node_may [a0, a2] w0 fun v1000 w1001 =>
xEq v1000 (.int .i64 0) fun v1002 =>
xIf v1002 (K a0 w1001) (Ret P n_node_Node_Copy [a0, a1, a2] w1001 fun v1003 w1004 =>
K v1003 w1004)
theorem W_node_Node_Own {a0 a1 a2 : Value} {K : Value → World → Prop} {w : World} (h : S_node_Node_Own a0 a1 a2 K w) : Ret P n_node_Node_Own [a0, a1, a2] w K :=
  vcF_of mixed Tryz.func196 (show S_node_Node_Own a0 a1 a2 K w = vcF P Tryz.f196 [a0, a1, a2] w K from by kernel_rfl) h
/- (spunyarn/del.taker).without -/
abbrev S_del_taker_without (a0 : Value) (a1 : Value) (a2 : Value) (K : Value → World → Prop) (w0 : World) : Prop :=
XNew w0 (cellsV a0) 198 fun a1000 w1001 =>
Ret P n_node_Node_Val [a1] w1001 fun v1002 w1003 =>
xTup v1002 0 fun v1004 =>
xTup v1002 1 fun v1005 =>
Ret P n_node_Node_Occupants [a1] w1003 fun v1006 w1007 =>
xGt v1006 (.int .i64 2) fun v1008 =>
xIf v1008 (XLd w1007 (a1000.add 1) fun v1009 =>
XLd w1007 (a1000.add 0) fun v1010 =>
Ret P n_node_Node_Own [a1, v1009, v1010] w1007 fun v1011 w1012 =>
XLd w1012 (a1000.add 0) fun v1013 =>
Ret P n_node_Node_DropKid [v1011, v1013, a2] w1012 fun v1014 w1015 =>
K v1011 w1015) (xIf v1005 (XLd w1007.drew (a1000.add 1) fun v1016 =>
XLd w1007.drew (a1000.add 0) fun v1017 =>
Ret P n_node_Node_Part [a1] w1007.drew fun v1018 w1019 =>
xKeep1 w1019 (.pointer (some (a1000.add 0))) v1017 ∧ (xKeep1 w1019 (.pointer (some (a1000.add 1))) v1016 ∧ (Ret P n_node_Leaf [v1016, v1017, v1018, v1004] w1019 fun v1020 w1021 =>
K v1020 w1021))) (Ret P n_node_Node_Next [a1, (.int .i64 0)] w1007 fun v1022 w1023 =>
xTup v1022 0 fun v1024 =>
xTup v1022 1 fun v1025 =>
/- 0 c 1 kid -/ XJ (fun J1026 =>
xEq v1024 a2 fun v1030 =>
xIf v1030 (xConv .i64 a2 fun v1031 =>
xAdd v1031 (.int .i64 1) fun v1032 =>
Ret P n_node_Node_Next [a1, v1032] w1023 fun v1033 w1034 =>
xTup v1033 0 fun v1035 =>
xTup v1033 1 fun v1036 =>
J1026 [v1035, v1036] w1034) (J1026 [v1024, v1025] w1023)) fun vs1027 g1028 w1029 =>
XLdN w1029 a1000 2 fun v1037 =>
Ret P n_del_taker_lift [v1037, a1, (vs1027.getD 0 undef), (vs1027.getD 1 undef)] w1029 fun v1038 w1039 =>
K v1038 w1039))
theorem W_del_taker_without {a0 a1 a2 : Value} {K : Value → World → Prop} {w : World} (h : S_del_taker_without a0 a1 a2 K w) : Ret P n_del_taker_without [a0, a1, a2] w K :=
  vcF_of mixed Tryz.func197 (show S_del_taker_without a0 a1 a2 K w = vcF P Tryz.f197 [a0, a1, a2] w K from by kernel_rfl) h
/- (*spunyarn/kids.Kids[*spunyarn/node.Node]).Next -/
abbrev S_kids_Kids_Next (a0 : Value) (a1 : Value) (K : Value → World → Prop) (w0 : World) : Prop :=
Ret P n_kids_Kids_ok [a0] w0 fun v1000 w1001 =>
xNot v1000 fun v1002 =>
xIf v1002 (K (.tuple #[(.int .u8 0), (.pointer none), (.bool false)]) w1001) (xAt a0 fun a1003 =>
XLd w1001 (a1003.add 0) fun v1004 =>
xPNe P w1001 v1004 (.pointer none) fun v1005 =>
xIf v1005 (xAt a0 fun a1006 =>
XLd w1001 (a1006.add 0) fun v1007 =>
Ret P n_small_Row_Next [v1007, a1] w1001 fun v1008 w1009 =>
xTup v1008 0 fun v1010 =>
xTup v1008 1 fun v1011 =>
xTup v1008 2 fun v1012 =>
K (.tuple #[v1010, v1011, v1012]) w1009) (xAt a0 fun a1013 =>
XLd w1001 (a1013.add 1) fun v1014 =>
Ret P n_wide_Board_Next [v1014, a1] w1001 fun v1015 w1016 =>
xTup v1015 0 fun v1017 =>
xTup v1015 1 fun v1018 =>
xTup v1015 2 fun v1019 =>
K (.tuple #[v1017, v1018, v1019]) w1016))
theorem W_kids_Kids_Next {a0 a1 : Value} {K : Value → World → Prop} {w : World} (h : S_kids_Kids_Next a0 a1 K w) : Ret P n_kids_Kids_Next [a0, a1] w K :=
  vcF_of mixed Tryz.func198 (show S_kids_Kids_Next a0 a1 K w = vcF P Tryz.f198 [a0, a1] w K from by kernel_rfl) h
/- bytes.HasPrefix -/
abbrev S_bytes_HasPrefix (a0 : Value) (a1 : Value) (K : Value → World → Prop) (w0 : World) : Prop :=
/- 0 -/ XJ (fun J1000 =>
xLen a0 fun v1004 =>
xLen a1 fun v1005 =>
xGe v1004 v1005 fun v1006 =>
xIf v1006 (xLen a1 fun v1007 =>
xCutS 1 a0 none (some v1007) none fun v1008 =>
Ret P n_bytes_Equal [v1008, a1] w0 fun v1009 w1010 =>
J1000 [v1009] w1010) (J1000 [(.bool false)] w0)) fun vs1001 g1002 w1003 =>
K (vs1001.getD 0 undef) w1003
theorem W_bytes_HasPrefix {a0 a1 : Value} {K : Value → World → Prop} {w : World} (h : S_bytes_HasPrefix a0 a1 K w) : Ret P n_bytes_HasPrefix [a0, a1] w K :=
  vcF_of mixed Tryz.func199 (show S_bytes_HasPrefix a0 a1 K w = vcF P Tryz.f199 [a0, a1] w K from by kernel_rfl) h
/- (spunyarn/put.putter).here -/
abbrev S_put_putter_here (a0 : Value) (a1 : Value) (K : Value → World → Prop) (w0 : World) : Prop :=
XNew w0 (cellsV a0) 208 fun a1000 w1001 =>
XLd w1001 (a1000.add 2) fun v1002 =>
XLd w1001 (a1000.add 1) fun v1003 =>
Ret P n_node_Node_Own [a1, v1002, v1003] w1001 fun v1004 w1005 =>
XLd w1005 (a1000.add 1) fun v1006 =>
XLd w1005 (a1000.add 0) fun v1007 =>
Ret P n_node_Node_SetVal [v1004, v1006, v1007] w1005 fun v1008 w1009 =>
K v1004 w1009
theorem W_put_putter_here {a0 a1 : Value} {K : Value → World → Prop} {w : World} (h : S_put_putter_here a0 a1 K w) : Ret P n_put_putter_here [a0, a1] w K :=
  vcF_of mixed Tryz.func200 (show S_put_putter_here a0 a1 K w = vcF P Tryz.f200 [a0, a1] w K from by kernel_rfl) h
/- (spunyarn/put.putter).split -/
abbrev S_put_putter_split (a0 : Value) (a1 : Value) (a2 : Value) (a3 : Value) (a4 : Value) (K : Value → World → Prop) (w0 : World) : Prop :=
XNew w0 (cellsV a0) 208 fun a1000 w1001 =>
XLd w1001.drew (a1000.add 2) fun v1002 =>
XLd w1001.drew (a1000.add 1) fun v1003 =>
xCutS 1 a2 none (some a4) none fun v1004 =>
Ret P n_node_Inner [v1002, v1003, v1004] w1001.drew fun v1005 w1006 =>
/- 0 v 1 _ 2 kid -/ XJ (fun J1007 =>
xLen a2 fun v1011 =>
xEq a4 v1011 fun v1012 =>
xIf v1012 (Ret P n_node_Node_Val [a1] w1006 fun v1013 w1014 =>
xTup v1013 0 fun v1015 =>
xTup v1013 1 fun v1016 =>
XLd w1014 (a1000.add 1) fun v1017 =>
Ret P n_node_Node_SetVal [v1005, v1017, v1015] w1014 fun v1018 w1019 =>
J1007 [v1015, v1016, undef] w1019) (XLd w1006 (a1000.add 2) fun v1020 =>
XLd w1006 (a1000.add 1) fun v1021 =>
Ret P n_node_Node_Own [a1, v1020, v1021] w1006 fun v1022 w1023 =>
XLd w1023.drew (a1000.add 1) fun v1024 =>
xAdd a4 (.int .i64 1) fun v1025 =>
xCutS 1 a2 (some v1025) none none fun v1026 =>
Ret P n_node_Node_SetPart [v1022, v1024, v1026] w1023.drew fun v1027 w1028 =>
XLd w1028.drew (a1000.add 1) fun v1029 =>
xIxS a2 a4 1 fun v1030 =>
xAt v1030 fun a1031 =>
XLd w1028.drew a1031 fun v1032 =>
Ret P n_node_Node_SetKid [v1005, v1029, v1032, v1022] w1028.drew fun v1033 w1034 =>
J1007 [undef, undef, v1022] w1034)) fun vs1008 g1009 w1010 =>
/-  -/ XJ (fun J1035 =>
xLen a3 fun v1039 =>
xEq a4 v1039 fun v1040 =>
xIf v1040 (XLd w1010 (a1000.add 1) fun v1041 =>
XLd w1010 (a1000.add 0) fun v1042 =>
Ret P n_node_Node_SetVal [v1005, v1041, v1042] w1010 fun v1043 w1044 =>
J1035 [] w1044) (XLd w1010.drew (a1000.add 1) fun v1045 =>
xIxS a3 a4 1 fun v1046 =>
xAt v1046 fun a1047 =>
XLd w1010.drew a1047 fun v1048 =>
XLd w1010.drew (a1000.add 2) fun v1049 =>
XLd w1010.drew (a1000.add 1) fun v1050 =>
xAdd a4 (.int .i64 1) fun v1051 =>
xCutS 1 a3 (some v1051) none none fun v1052 =>
XLd w1010.drew (a1000.add 0) fun v1053 =>
Ret P n_node_Leaf [v1049, v1050, v1052, v1053] w1010.drew fun v1054 w1055 =>
xKeep1 w1055 v1046 v1048 ∧ (xKeep1 w1055 (.pointer (some (a1000.add 1))) v1045 ∧ (Ret P n_node_Node_SetKid [v1005, v1045, v1048, v1054] w1055 fun v1056 w1057 =>
J1035 [] w1057)))) fun vs1036 g1037 w1038 =>
K v1005 w1038
theorem W_put_putter_split {a0 a1 a2 a3 a4 : Value} {K : Value → World → Prop} {w : World} (h : S_put_putter_split a0 a1 a2 a3 a4 K w) : Ret P n_put_putter_split [a0, a1, a2, a3, a4] w K :=
  vcF_of mixed Tryz.func201 (show S_put_putter_split a0 a1 a2 a3 a4 K w = vcF P Tryz.f201 [a0, a1, a2, a3, a4] w K from by kernel_rfl) h
/- (spunyarn/put.putter).below -/
abbrev S_put_putter_below (a0 : Value) (a1 : Value) (a2 : Value) (K : Value → World → Prop) (w0 : World) : Prop :=
XNew w0 (cellsV a0) 208 fun a1000 w1001 =>
xIxS a2 (.int .i64 0) 1 fun v1002 =>
xAt v1002 fun a1003 =>
XLd w1001 a1003 fun v1004 =>
Ret P n_node_Node_Kid [a1, v1004] w1001 fun v1005 w1006 =>
XLdN w1006.drew a1000 3 fun v1007 =>
xCutS 1 a2 (some (.int .i64 1)) none none fun v1008 =>
Ret P n_put_putter_into [v1007, v1005, v1008] w1006.drew fun v1009 w1010 =>
xPEq P w1010 v1009 v1005 fun v1011 =>
xIf v1011 (K a1 w1010) (XLd w1010 (a1000.add 2) fun v1012 =>
XLd w1010 (a1000.add 1) fun v1013 =>
Ret P n_node_Node_Own [a1, v1012, v1013] w1010 fun v1014 w1015 =>
XLd w1015.drew (a1000.add 1) fun v1016 =>
xIxS a2 (.int .i64 0) 1 fun v1017 =>
xAt v1017 fun a1018 =>
XLd w1015.drew a1018 fun v1019 =>
Ret P n_node_Node_SetKid [v1014, v1016, v1019, v1009] w1015.drew fun v1020 w1021 =>
K v1014 w1021)
theorem W_put_putter_below {a0 a1 a2 : Value} {K : Value → World → Prop} {w : World} (h : S_put_putter_below a0 a1 a2 K w) : Ret P n_put_putter_below [a0, a1, a2] w K :=
  vcF_of mixed Tryz.func202 (show S_put_putter_below a0 a1 a2 K w = vcF P Tryz.f202 [a0, a1, a2] w K from by kernel_rfl) h
/- (*spunyarn/kids.Kids[*spunyarn/node.Node]).Get -/
abbrev S_kids_Kids_Get (a0 : Value) (a1 : Value) (K : Value → World → Prop) (w0 : World) : Prop :=
Ret P n_kids_Kids_ok [a0] w0 fun v1000 w1001 =>
xNot v1000 fun v1002 =>
xIf v1002 (K (.tuple #[(.pointer none), (.bool false)]) w1001) (xAt a0 fun a1003 =>
XLd w1001 (a1003.add 0) fun v1004 =>
xPNe P w1001 v1004 (.pointer none) fun v1005 =>
xIf v1005 (xAt a0 fun a1006 =>
XLd w1001 (a1006.add 0) fun v1007 =>
Ret P n_small_Row_Get [v1007, a1] w1001 fun v1008 w1009 =>
xTup v1008 0 fun v1010 =>
xTup v1008 1 fun v1011 =>
K (.tuple #[v1010, v1011]) w1009) (xAt a0 fun a1012 =>
XLd w1001 (a1012.add 1) fun v1013 =>
Ret P n_wide_Board_Get [v1013, a1] w1001 fun v1014 w1015 =>
xTup v1014 0 fun v1016 =>
xTup v1014 1 fun v1017 =>
K (.tuple #[v1016, v1017]) w1015))
theorem W_kids_Kids_Get {a0 a1 : Value} {K : Value → World → Prop} {w : World} (h : S_kids_Kids_Get a0 a1 K w) : Ret P n_kids_Kids_Get [a0, a1] w K :=
  vcF_of mixed Tryz.func203 (show S_kids_Kids_Get a0 a1 K w = vcF P Tryz.f203 [a0, a1] w K from by kernel_rfl) h
/- spunyarn/del.check -/
/- S_del_check_l1: 0=slot 8 1=slot 4 i 2=slot 13 3=slot 2 4=slot 17 5=slot 3 e -/
def S_del_check_l1 (K : Value → World → Prop) (a0 : Value) (v1000 : Value) (I1001 : Nat → List Value → World → Prop) (n1002 : Nat) (vs1003 : List Value) (g1004 : Nat → Value) (w1005 : World) : Prop :=
xLt (vs1003.getD 0 undef) v1000 fun v1006 =>
xIf v1006 (/- 0 i 1 2 3 4 e -/ XJ (fun J1007 =>
xIxS a0 (vs1003.getD 0 undef) 2 fun v1011 =>
xAt v1011 fun a1012 =>
XLdN w1005 a1012 2 fun v1013 =>
XNew w1005 [(.int .u8 0), (.pointer none)] 78 fun a1014 w1015 =>
XDo P (storeVar 78 a1014 v1013) w1015 fun w1016 =>
XLd w1016 (a1014.add 1) fun v1017 =>
xPEq P w1016 v1017 (.pointer none) fun v1018 =>
xIf v1018 (K (.int .i64 1) w1016) (/- 0 -/ XJ (fun J1019 =>
xGt (vs1003.getD 0 undef) (.int .i64 0) fun v1023 =>
xIf v1023 (xSub (vs1003.getD 0 undef) (.int .i64 1) fun v1024 =>
xIxS a0 v1024 2 fun v1025 =>
xFld v1025 0 fun v1026 =>
xAt v1026 fun a1027 =>
XLd w1016.drew a1027 fun v1028 =>
XLd w1016.drew (a1014.add 0) fun v1029 =>
xGe v1028 v1029 fun v1030 =>
J1019 [v1030] (w1016.drew)) (J1019 [(.bool false)] (w1016.drew))) fun vs1020 g1021 w1022 =>
xIf (vs1020.getD 0 undef) (J1007 [(vs1003.getD 0 undef), v1018, (vs1003.getD 3 undef), (vs1020.getD 0 undef), (.int .i64 12)] w1022) (J1007 [(vs1003.getD 0 undef), v1018, (vs1003.getD 3 undef), (vs1020.getD 0 undef), (vs1003.getD 5 undef)] w1022))) fun vs1008 g1009 w1010 =>
xAdd (vs1003.getD 0 undef) (.int .i64 1) fun v1031 =>
XNext I1001 n1002 [v1031, (vs1008.getD 0 undef), (vs1008.getD 1 undef), (vs1008.getD 2 undef), (vs1008.getD 3 undef), (vs1008.getD 4 undef)] w1010) (K (vs1003.getD 5 undef) w1005)
abbrev S_del_check (a0 : Value) (K : Value → World → Prop) (w0 : World) : Prop :=
xLen a0 fun v1000 =>
XLoop [(.int .i64 0), undef, undef, (.int .i64 0), undef, (.int .i64 0)] w0 (S_del_check_l1 K a0 v1000)
theorem W_del_check {a0 : Value} {K : Value → World → Prop} {w : World} (h : S_del_check a0 K w) : Ret P n_del_check [a0] w K :=
  vcF_of mixed Tryz.func204 (show S_del_check a0 K w = vcF P Tryz.f204 [a0] w K from by kernel_rfl) h
/- (*spunyarn/meter.Meter).Made -/
abbrev S_meter_Meter_Made (a0 : Value) (a1 : Value) (K : Value → World → Prop) (w0 : World) : Prop :=
/- 0 -/ XJ (fun J1000 =>
xPNe P w0 a0 (.pointer none) fun v1004 =>
xIf v1004 (xGt a1 (.int .i64 0) fun v1005 =>
J1000 [v1005] w0) (J1000 [(.bool false)] w0)) fun vs1001 g1002 w1003 =>
xIf (vs1001.getD 0 undef) (xAt a0 fun a1006 =>
Ret P n_atomic_Int64_Add [(.pointer (some (a1006.add 0))), a1] w1003 fun v1007 w1008 =>
K (.tuple #[]) w1008) (K (.tuple #[]) w1003)
theorem W_meter_Meter_Made {a0 a1 : Value} {K : Value → World → Prop} {w : World} (h : S_meter_Meter_Made a0 a1 K w) : Ret P n_meter_Meter_Made [a0, a1] w K :=
  vcF_of mixed Tryz.func205 (show S_meter_Meter_Made a0 a1 K w = vcF P Tryz.f205 [a0, a1] w K from by kernel_rfl) h
/- (*spunyarn/kids.Kids[*spunyarn/node.Node]).Copy -/
abbrev S_kids_Kids_Copy (a0 : Value) (K : Value → World → Prop) (w0 : World) : Prop :=
Ret P n_kids_Kids_ok [a0] w0 fun v1000 w1001 =>
xNot v1000 fun v1002 =>
xIf v1002 (K (.pointer none) w1001) (xAt a0 fun a1003 =>
XLd w1001.drew (a1003.add 0) fun v1004 =>
xAt a0 fun a1005 =>
XLd w1001.drew (a1005.add 1) fun v1006 =>
Ret P n_small_Row_Copy [v1004] w1001.drew fun v1007 w1008 =>
xKeep1 w1008 (.pointer (some (a1005.add 1))) v1006 ∧ (Ret P n_wide_Board_Copy [v1006] w1008 fun v1009 w1010 =>
xFill [(.pointer none), (.pointer none)] [(0, 1, v1007), (1, 1, v1009)] fun c1011 =>
XNew w1010 (cellsV (.agg c1011.toArray)) 305 fun a1012 w1013 =>
K (.pointer (some a1012)) w1013))
theorem W_kids_Kids_Copy {a0 : Value} {K : Value → World → Prop} {w : World} (h : S_kids_Kids_Copy a0 K w) : Ret P n_kids_Kids_Copy [a0] w K :=
  vcF_of mixed Tryz.func206 (show S_kids_Kids_Copy a0 K w = vcF P Tryz.f206 [a0] w K from by kernel_rfl) h
/- (*spunyarn/node.Node).may -/
abbrev S_node_Node_may (a0 : Value) (a1 : Value) (K : Value → World → Prop) (w0 : World) : Prop :=
xPEq P w0 a0 (.pointer none) fun v1000 =>
xIf v1000 (K (.int .i64 2) w0) (/- 0 -/ XJ (fun J1001 =>
xEq a1 (.int .u64 0) fun v1005 =>
xIf v1005 (J1001 [(.bool true)] w0) (xAt a0 fun a1006 =>
XLd w0 (a1006.add 0) fun v1007 =>
xNe a1 v1007 fun v1008 =>
J1001 [v1008] w0)) fun vs1002 g1003 w1004 =>
xIf (vs1002.getD 0 undef) (K (.int .i64 11) w1004) (K (.int .i64 0) w1004))
theorem W_node_Node_may {a0 a1 : Value} {K : Value → World → Prop} {w : World} (h : S_node_Node_may a0 a1 K w) : Ret P n_node_Node_may [a0, a1] w K :=
  vcF_of mixed Tryz.func207 (show S_node_Node_may a0 a1 K w = vcF P Tryz.f207 [a0, a1] w K from by kernel_rfl) h
/- slices.Concat[[]byte,byte] -/
/- S_slices_Concat_byte_l1: 0=slot 27 1=slot 8 s 2=slot 6 newslice -/
def S_slices_Concat_byte_l1 (K : Value → World → Prop) (a0 : Value) (v1020 : Value) (I1021 : Nat → List Value → World → Prop) (n1022 : Nat) (vs1023 : List Value) (g1024 : Nat → Value) (w1025 : World) : Prop :=
xLt (vs1023.getD 0 undef) v1020 fun v1026 =>
xIf v1026 (xIxS a0 (vs1023.getD 0 undef) 1 fun v1027 =>
xAt v1027 fun a1028 =>
XLd w1025 a1028 fun v1029 =>
XRun P (Builtin.append_ #[50, 50] 50 #[(vs1023.getD 2 undef), v1029]) w1025 fun v1030 w1031 =>
xAdd (vs1023.getD 0 undef) (.int .i64 1) fun v1032 =>
XNext I1021 n1022 [v1032, v1029, v1030] w1031) (K (vs1023.getD 2 undef) w1025)
/- S_slices_Concat_byte_l2: 0=slot 11 1=slot 5 s 2=slot 3 size -/
def S_slices_Concat_byte_l2 (K : Value → World → Prop) (a0 : Value) (v1000 : Value) (I1001 : Nat → List Value → World → Prop) (n1002 : Nat) (vs1003 : List Value) (g1004 : Nat → Value) (w1005 : World) : Prop :=
xLt (vs1003.getD 0 undef) v1000 fun v1006 =>
xIf v1006 (/- 0 s 1 size -/ XJ (fun J1007 =>
xIxS a0 (vs1003.getD 0 undef) 1 fun v1011 =>
xAt v1011 fun a1012 =>
XLd w1005 a1012 fun v1013 =>
xLen v1013 fun v1014 =>
xAdd (vs1003.getD 2 undef) v1014 fun v1015 =>
xLt v1015 (.int .i64 0) fun v1016 =>
xIf v1016 (False) (J1007 [v1013, v1015] w1005)) fun vs1008 g1009 w1010 =>
xAdd (vs1003.getD 0 undef) (.int .i64 1) fun v1017 =>
XNext I1001 n1002 [v1017, (vs1008.getD 0 undef), (vs1008.getD 1 undef)] w1010) (Ret P n_slices_Grow_byte [(.slice none 0 0), (vs1003.getD 2 undef)] w1005 fun v1018 w1019 =>
xLen a0 fun v1020 =>
XLoop [(.int .i64 0), undef, v1018] w1019 (S_slices_Concat_byte_l1 K a0 v1020))
abbrev S_slices_Concat_byte (a0 : Value) (K : Value → World → Prop) (w0 : World) : Prop :=
xLen a0 fun v1000 =>
XLoop [(.int .i64 0), undef, (.int .i64 0)] w0 (S_slices_Concat_byte_l2 K a0 v1000)
theorem W_slices_Concat_byte {a0 : Value} {K : Value → World → Prop} {w : World} (h : S_slices_Concat_byte a0 K w) : Ret P n_slices_Concat_byte [a0] w K :=
  vcF_of mixed Tryz.func208 (show S_slices_Concat_byte a0 K w = vcF P Tryz.f208 [a0] w K from by kernel_rfl) h
/- spunyarn/kids.New[*spunyarn/node.Node] -/
abbrev S_kids_New_Node  (K : Value → World → Prop) (w0 : World) : Prop :=
Ret P n_kids_room_Node [(.int .i64 4)] w0 fun v1000 w1001 =>
K v1000 w1001
theorem W_kids_New_Node {K : Value → World → Prop} {w : World} (h : S_kids_New_Node  K w) : Ret P n_kids_New_Node [] w K :=
  vcF_of mixed Tryz.func209 (show S_kids_New_Node  K w = vcF P Tryz.f209 [] w K from by kernel_rfl) h
/- (*spunyarn/node.Node).inner -/
abbrev S_node_Node_inner (a0 : Value) (a1 : Value) (K : Value → World → Prop) (w0 : World) : Prop :=
Ret P n_node_Node_may [a0, a1] w0 fun v1000 w1001 =>
/- 0 -/ XJ (fun J1002 =>
xEq v1000 (.int .i64 0) fun v1006 =>
xIf v1006 (Ret P n_node_Node_isLeaf [a0] w1001 fun v1007 w1008 =>
J1002 [v1007] w1008) (J1002 [(.bool false)] w1001)) fun vs1003 g1004 w1005 =>
xIf (vs1003.getD 0 undef) (K (.int .i64 9) w1005) (K v1000 w1005)
theorem W_node_Node_inner {a0 a1 : Value} {K : Value → World → Prop} {w : World} (h : S_node_Node_inner a0 a1 K w) : Ret P n_node_Node_inner [a0, a1] w K :=
  vcF_of mixed Tryz.func210 (show S_node_Node_inner a0 a1 K w = vcF P Tryz.f210 [a0, a1] w K from by kernel_rfl) h
/- (*spunyarn/kids.Kids[*spunyarn/node.Node]).Set -/
abbrev S_kids_Kids_Set (a0 : Value) (a1 : Value) (a2 : Value) (K : Value → World → Prop) (w0 : World) : Prop :=
Ret P n_kids_Kids_ok [a0] w0 fun v1000 w1001 =>
xNot v1000 fun v1002 =>
xIf v1002 (K (.int .i64 2) w1001) (/- 0 _ 1 is -/ XJ (fun J1003 =>
Ret P n_kids_Kids_Get [a0, a1] w1001 fun v1007 w1008 =>
xTup v1007 0 fun v1009 =>
xTup v1007 1 fun v1010 =>
/- 0 -/ XJ (fun J1011 =>
xNot v1010 fun v1015 =>
xIf v1015 (Ret P n_kids_Kids_Len [a0] w1008 fun v1016 w1017 =>
Ret P n_kids_Kids_Kind [a0] w1017 fun v1018 w1019 =>
xEq v1016 v1018 fun v1020 =>
J1011 [v1020] w1019) (J1011 [(.bool false)] w1008)) fun vs1012 g1013 w1014 =>
xIf (vs1012.getD 0 undef) (Ret P n_kids_Kids_Len [a0] w1014 fun v1021 w1022 =>
xAdd v1021 (.int .i64 1) fun v1023 =>
Ret P n_kids_KindOf [v1023] w1022 fun v1024 w1025 =>
Ret P n_kids_move_Node [a0, v1024] w1025 fun v1026 w1027 =>
J1003 [v1009, v1010] w1027) (J1003 [v1009, v1010] w1014)) fun vs1004 g1005 w1006 =>
Ret P n_kids_Kids_put [a0, a1, a2] w1006 fun v1028 w1029 =>
K (.int .i64 0) w1029)
theorem W_kids_Kids_Set {a0 a1 a2 : Value} {K : Value → World → Prop} {w : World} (h : S_kids_Kids_Set a0 a1 a2 K w) : Ret P n_kids_Kids_Set [a0, a1, a2] w K :=
  vcF_of mixed Tryz.func211 (show S_kids_Kids_Set a0 a1 a2 K w = vcF P Tryz.f211 [a0, a1, a2] w K from by kernel_rfl) h
/- (*sync.Once).Do -/
abbrev S_sync_Once_Do (a0 : Value) (a1 : Value) (K : Value → World → Prop) (w0 : World) : Prop :=
xAt a0 fun a1000 =>
Ret P n_atomic_Bool_Load [(.pointer (some (a1000.add 0)))] w0 fun v1001 w1002 =>
xNot v1001 fun v1003 =>
xIf v1003 (Ret P n_sync_Once_doSlow [a0, a1] w1002 fun v1004 w1005 =>
K (.tuple #[]) w1005) (K (.tuple #[]) w1002)
theorem W_sync_Once_Do {a0 a1 : Value} {K : Value → World → Prop} {w : World} (h : S_sync_Once_Do a0 a1 K w) : Ret P n_sync_Once_Do [a0, a1] w K :=
  vcF_of mixed Tryz.func212 (show S_sync_Once_Do a0 a1 K w = vcF P Tryz.f212 [a0, a1] w K from by kernel_rfl) h
/- (*spunyarn/meter.Once).Get$1 -/
abbrev S_meter_Once_Get_1 (a0 : Value) (a1 : Value) (K : Value → World → Prop) (w0 : World) : Prop :=
xAt a1 fun a1000 =>
XLd w0.drew a1000 fun v1001 =>
xAt a1 fun a1002 =>
XLd w0.drew a1002 fun v1003 =>
xAt a0 fun a1004 =>
XLd w0.drew a1004 fun v1005 =>
xFunc v1005 [] fun f1006 xs1007 =>
xCall P f1006 xs1007 w0.drew fun v1008 w1009 =>
xKeep1 w1009 a1 v1003 ∧ (xKeep1 w1009 a1 v1001 ∧ (xAt v1001 fun a1010 =>
XSt w1009 (a1010.add 3) v1008 fun w1011 =>
xKeep1 w1011 a1 v1003 ∧ (xAt v1003 fun a1012 =>
XSt w1011 (a1012.add 4) (.bool true) fun w1013 =>
K (.tuple #[]) w1013)))
theorem W_meter_Once_Get_1 {a0 a1 : Value} {K : Value → World → Prop} {w : World} (h : S_meter_Once_Get_1 a0 a1 K w) : Ret P n_meter_Once_Get_1 [a0, a1] w K :=
  vcF_of mixed Tryz.func213 (show S_meter_Once_Get_1 a0 a1 K w = vcF P Tryz.f213 [a0, a1] w K from by kernel_rfl) h
/- spunyarn/canon.Count$1 -/
abbrev S_canon_Count_1 (a0 : Value) (a1 : Value) (a2 : Value) (K : Value → World → Prop) (w0 : World) : Prop :=
Ret P n_node_Node_Val [a1] w0 fun v1000 w1001 =>
xTup v1000 0 fun v1002 =>
xTup v1000 1 fun v1003 =>
xIf v1003 (xAt a2 fun a1004 =>
XLd w1001 a1004 fun v1005 =>
xAdd v1005 (.int .i64 1) fun v1006 =>
xAt a2 fun a1008 =>
XSt w1001 a1008 v1006 fun w1007 =>
K (.tuple #[]) w1007) (K (.tuple #[]) w1001)
theorem W_canon_Count_1 {a0 a1 a2 : Value} {K : Value → World → Prop} {w : World} (h : S_canon_Count_1 a0 a1 a2 K w) : Ret P n_canon_Count_1 [a0, a1, a2] w K :=
  vcF_of mixed Tryz.func214 (show S_canon_Count_1 a0 a1 a2 K w = vcF P Tryz.f214 [a0, a1, a2] w K from by kernel_rfl) h
/- (*sync/atomic.Uint64).Add -/
abbrev S_atomic_Uint64_Add (a0 : Value) (a1 : Value) (K : Value → World → Prop) (w0 : World) : Prop :=
xAt a0 fun a1000 =>
xCall P 266 [(.pointer (some (a1000.add 0))), a1] w0 fun v1001 w1002 =>
K v1001 w1002
theorem W_atomic_Uint64_Add {a0 a1 : Value} {K : Value → World → Prop} {w : World} (h : S_atomic_Uint64_Add a0 a1 K w) : Ret P n_atomic_Uint64_Add [a0, a1] w K :=
  vcF_of mixed Tryz.func215 (show S_atomic_Uint64_Add a0 a1 K w = vcF P Tryz.f215 [a0, a1] w K from by kernel_rfl) h
/- slices.stableCmpFunc[spunyarn/api.Pair] -/
/- S_slices_stableCmpFunc_Pair_l1: 0=slot 8 b 1=slot 7 a -/
def S_slices_stableCmpFunc_Pair_l1 (a0 : Value) (a1 : Value) (a2 : Value) (I1011 : Nat → List Value → World → Prop) (n1012 : Nat) (vs1013 : List Value) (I1018 : Nat → List Value → World → Prop) (n1019 : Nat) (vs1020 : List Value) (g1021 : Nat → Value) (w1022 : World) : Prop :=
xLe (vs1020.getD 0 undef) a1 fun v1023 =>
xIf v1023 (xAdd (vs1020.getD 1 undef) (vs1013.getD 0 undef) fun v1024 =>
Ret P n_slices_symMergeCmpFunc_Pair [a0, (vs1020.getD 1 undef), v1024, (vs1020.getD 0 undef), a2] w1022 fun v1025 w1026 =>
xMul (.int .i64 2) (vs1013.getD 0 undef) fun v1027 =>
xAdd (vs1020.getD 0 undef) v1027 fun v1028 =>
XNext I1018 n1019 [v1028, (vs1020.getD 0 undef)] w1026) (/- 0 m -/ XJ (fun J1029 =>
xAdd (vs1020.getD 1 undef) (vs1013.getD 0 undef) fun v1033 =>
xLt v1033 a1 fun v1034 =>
xIf v1034 (Ret P n_slices_symMergeCmpFunc_Pair [a0, (vs1020.getD 1 undef), v1033, a1, a2] w1022 fun v1035 w1036 =>
J1029 [v1033] w1036) (J1029 [v1033] w1022)) fun vs1030 g1031 w1032 =>
xMul (vs1013.getD 0 undef) (.int .i64 2) fun v1037 =>
XNext I1011 n1012 [v1037, (vs1020.getD 1 undef), (vs1020.getD 0 undef), (vs1030.getD 0 undef)] w1032)
/- S_slices_stableCmpFunc_Pair_l2: 0=slot 6 blockSize 1=slot 7 a 2=slot 8 b 3=slot 9 m -/
def S_slices_stableCmpFunc_Pair_l2 (K : Value → World → Prop) (a0 : Value) (a1 : Value) (a2 : Value) (I1011 : Nat → List Value → World → Prop) (n1012 : Nat) (vs1013 : List Value) (g1014 : Nat → Value) (w1015 : World) : Prop :=
xLt (vs1013.getD 0 undef) a1 fun v1016 =>
xIf v1016 (xMul (.int .i64 2) (vs1013.getD 0 undef) fun v1017 =>
XLoop [v1017, (.int .i64 0)] w1015 (S_slices_stableCmpFunc_Pair_l1 a0 a1 a2 I1011 n1012 vs1013)) (K (.tuple #[]) w1015)
/- S_slices_stableCmpFunc_Pair_l3: 0=slot 8 b 1=slot 7 a -/
def S_slices_stableCmpFunc_Pair_l3 (K : Value → World → Prop) (a0 : Value) (a1 : Value) (a2 : Value) (I1000 : Nat → List Value → World → Prop) (n1001 : Nat) (vs1002 : List Value) (g1003 : Nat → Value) (w1004 : World) : Prop :=
xLe (vs1002.getD 0 undef) a1 fun v1005 =>
xIf v1005 (Ret P n_slices_insertionSortCmpFunc_Pair [a0, (vs1002.getD 1 undef), (vs1002.getD 0 undef), a2] w1004 fun v1006 w1007 =>
xAdd (vs1002.getD 0 undef) (.int .i64 20) fun v1008 =>
XNext I1000 n1001 [v1008, (vs1002.getD 0 undef)] w1007) (Ret P n_slices_insertionSortCmpFunc_Pair [a0, (vs1002.getD 1 undef), a1, a2] w1004 fun v1009 w1010 =>
XLoop [(.int .i64 20), (vs1002.getD 1 undef), (vs1002.getD 0 undef), undef] w1010 (S_slices_stableCmpFunc_Pair_l2 K a0 a1 a2))
abbrev S_slices_stableCmpFunc_Pair (a0 : Value) (a1 : Value) (a2 : Value) (K : Value → World → Prop) (w0 : World) : Prop :=
XLoop [(.int .i64 20), (.int .i64 0)] w0 (S_slices_stableCmpFunc_Pair_l3 K a0 a1 a2)
theorem W_slices_stableCmpFunc_Pair {a0 a1 a2 : Value} {K : Value → World → Prop} {w : World} (h : S_slices_stableCmpFunc_Pair a0 a1 a2 K w) : Ret P n_slices_stableCmpFunc_Pair [a0, a1, a2] w K :=
  vcF_of mixed Tryz.func216 (show S_slices_stableCmpFunc_Pair a0 a1 a2 K w = vcF P Tryz.f216 [a0, a1, a2] w K from by kernel_rfl) h
/- bytes.Compare -/
abbrev S_bytes_Compare (a0 : Value) (a1 : Value) (K : Value → World → Prop) (w0 : World) : Prop :=
xCall P 269 [a0, a1] w0 fun v1000 w1001 =>
K v1000 w1001
theorem W_bytes_Compare {a0 a1 : Value} {K : Value → World → Prop} {w : World} (h : S_bytes_Compare a0 a1 K w) : Ret P n_bytes_Compare [a0, a1] w K :=
  vcF_of mixed Tryz.func217 (show S_bytes_Compare a0 a1 K w = vcF P Tryz.f217 [a0, a1] w K from by kernel_rfl) h
/- bytes.Equal -/
abbrev S_bytes_Equal (a0 : Value) (a1 : Value) (K : Value → World → Prop) (w0 : World) : Prop :=
XRun P (convert 50 9 a0) w0 fun v1000 w1001 =>
XRun P (convert 50 9 a1) w1001 fun v1002 w1003 =>
xSEq v1000 v1002 fun v1004 =>
K v1004 w1003
theorem W_bytes_Equal {a0 a1 : Value} {K : Value → World → Prop} {w : World} (h : S_bytes_Equal a0 a1 K w) : Ret P n_bytes_Equal [a0, a1] w K :=
  vcF_of mixed Tryz.func218 (show S_bytes_Equal a0 a1 K w = vcF P Tryz.f218 [a0, a1] w K from by kernel_rfl) h
/- spunyarn/canon.List$1 -/
abbrev S_canon_List_1 (a0 : Value) (a1 : Value) (a2 : Value) (K : Value → World → Prop) (w0 : World) : Prop :=
Ret P n_node_Node_Val [a1] w0 fun v1000 w1001 =>
xTup v1000 0 fun v1002 =>
xTup v1000 1 fun v1003 =>
xIf v1003 (xAt a2 fun a1004 =>
XLd w1001.drew a1004 fun v1005 =>
Ret P n_bytes_Clone [a0] w1001.drew fun v1006 w1007 =>
xKeep1 w1007 a2 v1005 ∧ (xFill [(.slice none 0 0), (.int .u64 0)] [(0, 1, v1006), (1, 1, v1002)] fun c1008 =>
xFill (repL [(.slice none 0 0), (.int .u64 0)] 1) [(0, 2, (.agg c1008.toArray))] fun c1009 =>
XNew w1007 c1009 102 fun a1010 w1011 =>
xKeep1 w1011 a2 v1005 ∧ (XRun P (Builtin.append_ #[93, 93] 93 #[v1005, (.slice (some a1010) 1 1)]) w1011 fun v1012 w1013 =>
xAt a2 fun a1015 =>
XSt w1013 a1015 v1012 fun w1014 =>
K (.tuple #[]) w1014))) (K (.tuple #[]) w1001)
theorem W_canon_List_1 {a0 a1 a2 : Value} {K : Value → World → Prop} {w : World} (h : S_canon_List_1 a0 a1 a2 K w) : Ret P n_canon_List_1 [a0, a1, a2] w K :=
  vcF_of mixed Tryz.func219 (show S_canon_List_1 a0 a1 a2 K w = vcF P Tryz.f219 [a0, a1, a2] w K from by kernel_rfl) h
/- spunyarn/spunyarnref01.digits -/
abbrev S_ref01_digits (a0 : Value) (K : Value → World → Prop) (w0 : World) : Prop :=
xConv .i64 a0 fun v1000 =>
xQuo v1000 (.int .i64 16) fun v1001 =>
xConv .i64 a0 fun v1002 =>
xRem v1002 (.int .i64 16) fun v1003 =>
xAdd v1001 (.int .i64 1) fun v1004 =>
xCutStr (.string ⟨#[48, 49, 50, 51, 52, 53, 54, 55, 56, 57, 97, 98, 99, 100, 101, 102]⟩) (some v1001) (some v1004) fun v1005 =>
xAdd v1003 (.int .i64 1) fun v1006 =>
xCutStr (.string ⟨#[48, 49, 50, 51, 52, 53, 54, 55, 56, 57, 97, 98, 99, 100, 101, 102]⟩) (some v1003) (some v1006) fun v1007 =>
xSCat v1005 v1007 fun v1008 =>
K v1008 (w0.drew)
theorem W_ref01_digits {a0 : Value} {K : Value → World → Prop} {w : World} (h : S_ref01_digits a0 K w) : Ret P n_ref01_digits [a0] w K :=
  vcF_of mixed Tryz.func220 (show S_ref01_digits a0 K w = vcF P Tryz.f220 [a0] w K from by kernel_rfl) h
/- spunyarn/spunyarnref13.shared -/
/- S_ref13_shared_l1: 0=slot 4 i 1=slot 3 n -/
def S_ref13_shared_l1 (K : Value → World → Prop) (a0 : Value) (I1005 : Nat → List Value → World → Prop) (n1006 : Nat) (vs1007 : List Value) (g1008 : Nat → Value) (w1009 : World) : Prop :=
xLen a0 fun v1010 =>
xLt (vs1007.getD 0 undef) v1010 fun v1011 =>
xIf v1011 (xIxS a0 (.int .i64 0) 2 fun v1012 =>
xFld v1012 0 fun v1013 =>
xAt v1013 fun a1014 =>
XLd w1009.drew a1014 fun v1015 =>
xIxS a0 (vs1007.getD 0 undef) 2 fun v1016 =>
xFld v1016 0 fun v1017 =>
xAt v1017 fun a1018 =>
XLd w1009.drew a1018 fun v1019 =>
Ret P n_ref01_Common [v1015, v1019] w1009.drew fun v1020 w1021 =>
xMin (vs1007.getD 1 undef) v1020 fun v1022 =>
xAdd (vs1007.getD 0 undef) (.int .i64 1) fun v1023 =>
XNext I1005 n1006 [v1023, v1022] w1021) (K (vs1007.getD 1 undef) w1009)
abbrev S_ref13_shared (a0 : Value) (K : Value → World → Prop) (w0 : World) : Prop :=
xIxS a0 (.int .i64 0) 2 fun v1000 =>
xFld v1000 0 fun v1001 =>
xAt v1001 fun a1002 =>
XLd w0 a1002 fun v1003 =>
xLen v1003 fun v1004 =>
XLoop [(.int .i64 1), v1004] w0 (S_ref13_shared_l1 K a0)
theorem W_ref13_shared {a0 : Value} {K : Value → World → Prop} {w : World} (h : S_ref13_shared a0 K w) : Ret P n_ref13_shared [a0] w K :=
  vcF_of mixed Tryz.func221 (show S_ref13_shared a0 K w = vcF P Tryz.f221 [a0] w K from by kernel_rfl) h
/- spunyarn/spunyarnref11.KindOf -/
abbrev S_ref11_KindOf (a0 : Value) (K : Value → World → Prop) (w0 : World) : Prop :=
/- 0 -/ XJ (fun J1000 =>
xLt a0 (.int .i64 0) fun v1004 =>
xIf v1004 (J1000 [(.bool true)] w0) (xGt a0 (.int .i64 256) fun v1005 =>
J1000 [v1005] w0)) fun vs1001 g1002 w1003 =>
xIf (vs1001.getD 0 undef) (K (.int .i64 0) w1003) (xLe a0 (.int .i64 4) fun v1006 =>
xIf v1006 (K (.int .i64 4) w1003) (xLe a0 (.int .i64 16) fun v1007 =>
xIf v1007 (K (.int .i64 16) w1003) (xLe a0 (.int .i64 48) fun v1008 =>
xIf v1008 (K (.int .i64 48) w1003) (K (.int .i64 256) w1003))))
theorem W_ref11_KindOf {a0 : Value} {K : Value → World → Prop} {w : World} (h : S_ref11_KindOf a0 K w) : Ret P n_ref11_KindOf [a0] w K :=
  vcF_of mixed Tryz.func222 (show S_ref11_KindOf a0 K w = vcF P Tryz.f222 [a0] w K from by kernel_rfl) h
/- spunyarn/sub.seek -/
/- S_sub_seek_l1: 0=slot 0 n 1=slot 6 part 2=slot 5 at 3=slot 7 left 4=slot 8 same 5=slot 19 6=slot 30 -/
def S_sub_seek_l1 (K : Value → World → Prop) (a1 : Value) (a1000 : Addr) (I1002 : Nat → List Value → World → Prop) (n1003 : Nat) (vs1004 : List Value) (g1005 : Nat → Value) (w1006 : World) : Prop :=
xPNe P w1006 (vs1004.getD 0 undef) (.pointer none) fun v1007 =>
xIf v1007 (Ret P n_node_Node_Part [(vs1004.getD 0 undef)] w1006 fun v1008 w1009 =>
xCutS 1 a1 (some (vs1004.getD 2 undef)) none none fun v1010 =>
Ret P n_keys_Common [v1008, v1010] w1009 fun v1011 w1012 =>
xLen v1010 fun v1013 =>
xEq v1011 v1013 fun v1014 =>
xIf v1014 (xCutS 1 a1 none (some (vs1004.getD 2 undef)) (some (vs1004.getD 2 undef)) fun v1015 =>
xFill [(.pointer none), (.slice none 0 0)] [(0, 1, (vs1004.getD 0 undef)), (1, 1, v1015)] fun c1016 =>
XDo P (storeVar 287 a1000 (.agg c1016.toArray)) w1012 fun w1017 =>
XLdN w1017 a1000 2 fun v1018 =>
K v1018 w1017) (xLen v1008 fun v1019 =>
xLt v1011 v1019 fun v1020 =>
xIf v1020 (xFill [(.pointer none), (.slice none 0 0)] [] fun c1021 =>
XDo P (storeVar 287 a1000 (.agg c1021.toArray)) w1012 fun w1022 =>
XLdN w1022 a1000 2 fun v1023 =>
K v1023 w1022) (xIxS v1010 v1011 1 fun v1024 =>
xAt v1024 fun a1025 =>
XLd w1012 a1025 fun v1026 =>
Ret P n_node_Node_Kid [(vs1004.getD 0 undef), v1026] w1012 fun v1027 w1028 =>
xAdd v1011 (.int .i64 1) fun v1029 =>
xAdd (vs1004.getD 2 undef) v1029 fun v1030 =>
XNext I1002 n1003 [v1027, v1008, v1030, v1010, v1011, v1014, v1020] w1028))) (xFill [(.pointer none), (.slice none 0 0)] [] fun c1031 =>
XDo P (storeVar 287 a1000 (.agg c1031.toArray)) w1006 fun w1032 =>
XLdN w1032 a1000 2 fun v1033 =>
K v1033 w1032)
abbrev S_sub_seek (a0 : Value) (a1 : Value) (K : Value → World → Prop) (w0 : World) : Prop :=
XNew w0 [(.pointer none), (.slice none 0 0)] 287 fun a1000 w1001 =>
XLoop [a0, undef, (.int .i64 0), undef, undef, undef, undef] w1001 (S_sub_seek_l1 K a1 a1000)
theorem W_sub_seek {a0 a1 : Value} {K : Value → World → Prop} {w : World} (h : S_sub_seek a0 a1 K w) : Ret P n_sub_seek [a0, a1] w K :=
  vcF_of mixed Tryz.func223 (show S_sub_seek a0 a1 K w = vcF P Tryz.f223 [a0, a1] w K from by kernel_rfl) h
/- spunyarn/sub.with -/
abbrev S_sub_with (a0 : Value) (a1 : Value) (a2 : Value) (a3 : Value) (K : Value → World → Prop) (w0 : World) : Prop :=
/- 0 -/ XJ (fun J1000 =>
xPEq P w0 a0 (.pointer none) fun v1004 =>
xIf v1004 (J1000 [(.bool true)] w0) (Ret P n_node_Node_Part [a0] w0 fun v1005 w1006 =>
Ret P n_keys_Same [v1005, a1] w1006 fun v1007 w1008 =>
J1000 [v1007] w1008)) fun vs1001 g1002 w1003 =>
xIf (vs1001.getD 0 undef) (K a0 w1003) (Ret P n_node_Node_Copy [a0, a3, a2] w1003 fun v1009 w1010 =>
Ret P n_node_Node_SetPart [v1009, a2, a1] w1010 fun v1011 w1012 =>
K v1009 w1012)
theorem W_sub_with {a0 a1 a2 a3 : Value} {K : Value → World → Prop} {w : World} (h : S_sub_with a0 a1 a2 a3 K w) : Ret P n_sub_with [a0, a1, a2, a3] w K :=
  vcF_of mixed Tryz.func224 (show S_sub_with a0 a1 a2 a3 K w = vcF P Tryz.f224 [a0, a1, a2, a3] w K from by kernel_rfl) h
end Go.Proofs.YtbleadagnpckbaaGreatDoor
