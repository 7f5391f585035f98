/-  Written by gen.py for this claim: of each function a form without frames, the same as the engine's condition by reckoning.  -/
import Derived.Test.YthnegkjhciakpaaGreatDoorSN
import Derived.Test.YthnegkjhciakpaaGreatDoorProg
namespace Go.Proofs.YthnegkjhciakpaaGreatDoor
open Go X
set_option linter.unusedVariables false
set_option maxRecDepth 100000
/- spunyarn/spunyarnref13.Sort -/
/- S_ref13_Sort_l1: 0=slot 6 k -/
def S_ref13_Sort_l1 (a0 : Value) (vs1002 : List Value) (J1007 : List Value → World → Prop) (vs1013 : List Value) (v1062 : Value) (I1066 : Nat → List Value → World → Prop) (n1067 : Nat) (vs1068 : List Value) (g1069 : Nat → Value) (w1070 : World) : Prop :=
xGt (vs1068.getD 0 undef) (vs1013.getD 0 undef) fun v1071 =>
xIf v1071 (xSub (vs1068.getD 0 undef) (.int .i64 1) fun v1072 =>
xIxS v1062 v1072 2 fun v1073 =>
xAt v1073 fun a1074 =>
XLdN w1070 a1074 2 fun v1075 =>
xIxS v1062 (vs1068.getD 0 undef) 2 fun v1076 =>
xAt v1076 fun a1078 =>
XDo P (storeVar 86 a1078 v1075) w1070 fun w1077 =>
xSub (vs1068.getD 0 undef) (.int .i64 1) fun v1079 =>
XNext I1066 n1067 [v1079] w1077) (xIxS a0 (vs1002.getD 0 undef) 2 fun v1080 =>
xAt v1080 fun a1081 =>
XLdN w1070 a1081 2 fun v1082 =>
xIxS v1062 (vs1013.getD 0 undef) 2 fun v1083 =>
xAt v1083 fun a1085 =>
XDo P (storeVar 86 a1085 v1082) w1070 fun w1084 =>
J1007 [(vs1013.getD 0 undef), v1062, (vs1068.getD 0 undef)] w1084)
/- S_ref13_Sort_l2: 0=slot 5 j -/
def S_ref13_Sort_l2 (a0 : Value) (vs1002 : List Value) (J1007 : List Value → World → Prop) (I1011 : Nat → List Value → World → Prop) (n1012 : Nat) (vs1013 : List Value) (g1014 : Nat → Value) (w1015 : World) : Prop :=
/- 0 -/ XJ (fun J1016 =>
xLen (vs1002.getD 2 undef) fun v1020 =>
xLt (vs1013.getD 0 undef) v1020 fun v1021 =>
xIf v1021 (xIxS (vs1002.getD 2 undef) (vs1013.getD 0 undef) 2 fun v1022 =>
xFld v1022 0 fun v1023 =>
xAt v1023 fun a1024 =>
XLd w1015.drew a1024 fun v1025 =>
xIxS a0 (vs1002.getD 0 undef) 2 fun v1026 =>
xFld v1026 0 fun v1027 =>
xAt v1027 fun a1028 =>
XLd w1015.drew a1028 fun v1029 =>
Ret P n_ref01_Cmp [v1025, v1029] w1015.drew fun v1030 w1031 =>
xLt v1030 (.int .i64 0) fun v1032 =>
J1016 [v1032] w1031) (J1016 [(.bool false)] (w1015.drew))) fun vs1017 g1018 w1019 =>
xIf (vs1017.getD 0 undef) (xAdd (vs1013.getD 0 undef) (.int .i64 1) fun v1033 =>
XNext I1011 n1012 [v1033] w1019) (/- 0 -/ XJ (fun J1034 =>
xLen (vs1002.getD 2 undef) fun v1038 =>
xLt (vs1013.getD 0 undef) v1038 fun v1039 =>
xIf v1039 (xIxS (vs1002.getD 2 undef) (vs1013.getD 0 undef) 2 fun v1040 =>
xFld v1040 0 fun v1041 =>
xAt v1041 fun a1042 =>
XLd w1019.drew a1042 fun v1043 =>
xIxS a0 (vs1002.getD 0 undef) 2 fun v1044 =>
xFld v1044 0 fun v1045 =>
xAt v1045 fun a1046 =>
XLd w1019.drew a1046 fun v1047 =>
Ret P n_ref01_Same [v1043, v1047] w1019.drew fun v1048 w1049 =>
J1034 [v1048] w1049) (J1034 [(.bool false)] (w1019.drew))) fun vs1035 g1036 w1037 =>
xIf (vs1035.getD 0 undef) (xIxS a0 (vs1002.getD 0 undef) 2 fun v1050 =>
xFld v1050 1 fun v1051 =>
xAt v1051 fun a1052 =>
XLd w1037 a1052 fun v1053 =>
xIxS (vs1002.getD 2 undef) (vs1013.getD 0 undef) 2 fun v1054 =>
xFld v1054 1 fun v1055 =>
xAt v1055 fun a1057 =>
XSt w1037 a1057 v1053 fun w1056 =>
J1007 [(vs1013.getD 0 undef), (vs1002.getD 2 undef), (vs1002.getD 3 undef)] w1056) (xFill [(.slice none 0 0), (.int .u64 0)] [] fun c1058 =>
xFill (repL [(.slice none 0 0), (.int .u64 0)] 1) [(0, 2, (.agg c1058.toArray))] fun c1059 =>
XNew w1037 c1059 86 fun a1060 w1061 =>
XRun P (Builtin.append_ #[33, 33] 33 #[(vs1002.getD 2 undef), (.slice (some a1060) 1 1)]) w1061 fun v1062 w1063 =>
xLen v1062 fun v1064 =>
xSub v1064 (.int .i64 1) fun v1065 =>
XLoop [v1065] w1063 (S_ref13_Sort_l1 a0 vs1002 J1007 vs1013 v1062)))
/- S_ref13_Sort_l3: 0=slot 4 i 1=slot 5 j 2=slot 3 out 3=slot 6 k -/
def S_ref13_Sort_l3 (K : Value → World → Prop) (a0 : Value) (I1000 : Nat → List Value → World → Prop) (n1001 : Nat) (vs1002 : List Value) (g1003 : Nat → Value) (w1004 : World) : Prop :=
xLen a0 fun v1005 =>
xLt (vs1002.getD 0 undef) v1005 fun v1006 =>
xIf v1006 (/- 0 j 1 out 2 k -/ XJ (fun J1007 =>
XLoop [(.int .i64 0)] w1004 (S_ref13_Sort_l2 a0 vs1002 J1007)) fun vs1008 g1009 w1010 =>
xAdd (vs1002.getD 0 undef) (.int .i64 1) fun v1086 =>
XNext I1000 n1001 [v1086, (vs1008.getD 0 undef), (vs1008.getD 1 undef), (vs1008.getD 2 undef)] w1010) (K (vs1002.getD 2 undef) w1004)
abbrev S_ref13_Sort (a0 : Value) (K : Value → World → Prop) (w0 : World) : Prop :=
XLoop [(.int .i64 0), undef, (.slice none 0 0), undef] w0 (S_ref13_Sort_l3 K a0)
theorem W_ref13_Sort {a0 : Value} {K : Value → World → Prop} {w : World} (h : S_ref13_Sort a0 K w) : Ret P n_ref13_Sort [a0] w K :=
  vcF_of mixed Tryz.func20 (show S_ref13_Sort a0 K w = vcF P Tryz.f20 [a0] w K from by kernel_rfl) h
/- spunyarn/canon.Shape -/
abbrev S_canon_Shape (a0 : Value) (K : Value → World → Prop) (w0 : World) : Prop :=
XNew w0 [(.pointer none), (.slice none 0 0)] 164 fun a1000 w1001 =>
Ret P n_canon_shape [(.pointer (some a1000)), a0] w1001 fun v1002 w1003 =>
Ret P n_strings_Builder_String [(.pointer (some a1000))] w1003 fun v1004 w1005 =>
K v1004 w1005
theorem W_canon_Shape {a0 : Value} {K : Value → World → Prop} {w : World} (h : S_canon_Shape a0 K w) : Ret P n_canon_Shape [a0] w K :=
  vcF_of mixed Tryz.func21 (show S_canon_Shape a0 K w = vcF P Tryz.f21 [a0] w K from by kernel_rfl) h
/- spunyarn/canon.Fine -/
abbrev S_canon_Fine (a0 : Value) (K : Value → World → Prop) (w0 : World) : Prop :=
XNew w0 [(.bool false)] 4 fun a1000 w1001 =>
XSt w1001 a1000 (.bool true) fun w1002 =>
Ret P n_canon_each [a0, (.func (.func 77) #[] #[(.pointer (some a1000))])] w1002 fun v1003 w1004 =>
XLd w1004 a1000 fun v1005 =>
K v1005 w1004
theorem W_canon_Fine {a0 : Value} {K : Value → World → Prop} {w : World} (h : S_canon_Fine a0 K w) : Ret P n_canon_Fine [a0] w K :=
  vcF_of mixed Tryz.func22 (show S_canon_Fine a0 K w = vcF P Tryz.f22 [a0] w K from by kernel_rfl) h
/- spunyarn/del.Left -/
/- S_del_Left_l1: 0=slot 95 -/
def S_del_Left_l1 (K : Value → World → Prop) (a3 : Value) (a4 : Value) (v1080 : Value) (v1088 : Value) (I1089 : Nat → List Value → World → Prop) (n1090 : Nat) (vs1091 : List Value) (g1092 : Nat → Value) (w1093 : World) : Prop :=
xLt (vs1091.getD 0 undef) v1088 fun v1094 =>
xIf v1094 (xIxS a3 (vs1091.getD 0 undef) 2 fun v1095 =>
xAt v1095 fun a1096 =>
XLdN w1093 a1096 2 fun v1097 =>
XNew w1093 [(.int .u8 0), (.pointer none)] 61 fun a1098 w1099 =>
XDo P (storeVar 61 a1098 v1097) w1099 fun w1100 =>
XLd w1100 (a1098.add 0) fun v1101 =>
XLd w1100 (a1098.add 1) fun v1102 =>
Ret P n_node_Node_SetKid [v1080, a4, v1101, v1102] w1100 fun v1103 w1104 =>
xAdd (vs1091.getD 0 undef) (.int .i64 1) fun v1105 =>
XNext I1089 n1090 [v1105] w1104) (K (.tuple #[v1080, (.int .i64 0)]) w1093)
abbrev S_del_Left (a0 : Value) (a1 : Value) (a2 : Value) (a3 : Value) (a4 : Value) (a5 : Value) (K : Value → World → Prop) (w0 : World) : Prop :=
Ret P n_del_may [a0, a3, a4] w0 fun v1000 w1001 =>
xNe v1000 (.int .i64 0) fun v1002 =>
xIf v1002 (K (.tuple #[(.pointer none), v1000]) w1001) (Ret P n_del_just [a0, a1, a2, a3] w1001 fun v1003 w1004 =>
xIf v1003 (K (.tuple #[a0, (.int .i64 0)]) w1004) (/- 0 -/ XJ (fun J1005 =>
xLen a3 fun v1009 =>
xEq v1009 (.int .i64 0) fun v1010 =>
xIf v1010 (J1005 [a1] w1004) (J1005 [(.bool false)] w1004)) fun vs1006 g1007 w1008 =>
xIf (vs1006.getD 0 undef) (Ret P n_node_Node_Part [a0] w1008 fun v1011 w1012 =>
Ret P n_node_Leaf [a5, a4, v1011, a2] w1012 fun v1013 w1014 =>
K (.tuple #[v1013, (.int .i64 0)]) w1014) (xLen a3 fun v1015 =>
xEq v1015 (.int .i64 0) fun v1016 =>
xIf v1016 (K (.tuple #[(.pointer none), (.int .i64 0)]) w1008) (/- 0 -/ XJ (fun J1017 =>
xLen a3 fun v1021 =>
xEq v1021 (.int .i64 1) fun v1022 =>
xIf v1022 (xNot a1 fun v1023 =>
J1017 [v1023] w1008) (J1017 [(.bool false)] w1008)) fun vs1018 g1019 w1020 =>
xIf (vs1018.getD 0 undef) (xIxS a3 (.int .i64 0) 2 fun v1024 =>
xFld v1024 1 fun v1025 =>
xAt v1025 fun a1026 =>
XLd w1020 a1026 fun v1027 =>
Ret P n_node_Node_Copy [v1027, a5, a4] w1020 fun v1028 w1029 =>
xIxS a3 (.int .i64 0) 2 fun v1030 =>
xFld v1030 0 fun v1031 =>
xAt v1031 fun a1032 =>
XLd w1029.drew a1032 fun v1033 =>
xIxS a3 (.int .i64 0) 2 fun v1034 =>
xFld v1034 1 fun v1035 =>
xAt v1035 fun a1036 =>
XLd w1029.drew a1036 fun v1037 =>
(Ret P n_node_Node_Part [a0] w1029.drew fun v1038 w1039 =>
xKeep1 w1039 v1035 v1037 ∧ (xKeep1 w1039 v1031 v1033 ∧ ((xFill (repL [(.int .u8 0)] 1) [(0, 1, v1033)] fun c1040 =>
XNew w1039 c1040 5 fun a1041 w1042 =>
xKeep1 w1042 v1035 v1037 ∧ (Ret P n_node_Node_Part [v1037] w1042 fun v1043 w1044 =>
xFill (repL [(.slice none 0 0)] 3) [(0, 1, v1038), (1, 1, (.slice (some a1041) 1 1)), (2, 1, v1043)] fun c1045 =>
XNew w1044 c1045 41 fun a1046 w1047 =>
Ret P n_del_join [(.slice (some a1046) 3 3)] w1047 fun v1048 w1049 =>
Ret P n_node_Node_SetPart [v1028, a4, v1048] w1049 fun v1050 w1051 =>
K (.tuple #[v1028, (.int .i64 0)]) w1051)) ∧ (Ret P n_node_Node_Part [v1037] w1039 fun v1052 w1053 =>
xKeep1 w1053 v1031 v1033 ∧ (xFill (repL [(.int .u8 0)] 1) [(0, 1, v1033)] fun c1054 =>
XNew w1053 c1054 5 fun a1055 w1056 =>
xFill (repL [(.slice none 0 0)] 3) [(0, 1, v1038), (1, 1, (.slice (some a1055) 1 1)), (2, 1, v1052)] fun c1057 =>
XNew w1056 c1057 41 fun a1058 w1059 =>
Ret P n_del_join [(.slice (some a1058) 3 3)] w1059 fun v1060 w1061 =>
Ret P n_node_Node_SetPart [v1028, a4, v1060] w1061 fun v1062 w1063 =>
K (.tuple #[v1028, (.int .i64 0)]) w1063))))) ∧ (xFill (repL [(.int .u8 0)] 1) [(0, 1, v1033)] fun c1064 =>
XNew w1029.drew c1064 5 fun a1065 w1066 =>
xKeep1 w1066 v1035 v1037 ∧ (Ret P n_node_Node_Part [a0] w1066 fun v1067 w1068 =>
xKeep1 w1068 v1035 v1037 ∧ (Ret P n_node_Node_Part [v1037] w1068 fun v1069 w1070 =>
xFill (repL [(.slice none 0 0)] 3) [(0, 1, v1067), (1, 1, (.slice (some a1065) 1 1)), (2, 1, v1069)] fun c1071 =>
XNew w1070 c1071 41 fun a1072 w1073 =>
Ret P n_del_join [(.slice (some a1072) 3 3)] w1073 fun v1074 w1075 =>
Ret P n_node_Node_SetPart [v1028, a4, v1074] w1075 fun v1076 w1077 =>
K (.tuple #[v1028, (.int .i64 0)]) w1077)))) (Ret P n_node_Node_Part [a0] w1020 fun v1078 w1079 =>
Ret P n_node_Inner [a5, a4, v1078] w1079 fun v1080 w1081 =>
/-  -/ XJ (fun J1082 =>
xIf a1 (Ret P n_node_Node_SetVal [v1080, a4, a2] w1081 fun v1086 w1087 =>
J1082 [] w1087) (J1082 [] w1081)) fun vs1083 g1084 w1085 =>
xLen a3 fun v1088 =>
XLoop [(.int .i64 0)] w1085 (S_del_Left_l1 K a3 a4 v1080 v1088))))))
theorem W_del_Left {a0 a1 a2 a3 a4 a5 : Value} {K : Value → World → Prop} {w : World} (h : S_del_Left a0 a1 a2 a3 a4 a5 K w) : Ret P n_del_Left [a0, a1, a2, a3, a4, a5] w K :=
  vcF_of mixed Tryz.func27 (show S_del_Left a0 a1 a2 a3 a4 a5 K w = vcF P Tryz.f27 [a0, a1, a2, a3, a4, a5] w K from by kernel_rfl) h
/- spunyarn/spunyarnref16.Left -/
/- S_ref16_Left_l1: 0=slot 14 j 1=slot 13 stays -/
def S_ref16_Left_l1 (a0 : Value) (a3 : Value) (a1002 : Addr) (vs1018 : List Value) (J1023 : List Value → World → Prop) (v1030 : Value) (I1035 : Nat → List Value → World → Prop) (n1036 : Nat) (vs1037 : List Value) (g1038 : Nat → Value) (w1039 : World) : Prop :=
xLen a3 fun v1040 =>
xLt (vs1037.getD 0 undef) v1040 fun v1041 =>
xIf v1041 (/- 0 stays -/ XJ (fun J1042 =>
xIf (vs1037.getD 1 undef) (J1042 [(.bool true)] (w1039.drew)) (xIxS a3 (vs1037.getD 0 undef) 1 fun v1046 =>
xAt v1046 fun a1047 =>
XLd w1039.drew a1047 fun v1048 =>
XLd w1039.drew (a1002.add 1) fun v1049 =>
xLen v1049 fun v1050 =>
xIxS v1030 v1050 1 fun v1051 =>
xAt v1051 fun a1052 =>
XLd w1039.drew a1052 fun v1053 =>
xEq v1048 v1053 fun v1054 =>
J1042 [v1054] (w1039.drew))) fun vs1043 g1044 w1045 =>
xAdd (vs1037.getD 0 undef) (.int .i64 1) fun v1055 =>
XNext I1035 n1036 [v1055, (vs1043.getD 0 undef)] w1045) (xIf (vs1037.getD 1 undef) (xIxS a0 (vs1018.getD 0 undef) 2 fun v1056 =>
xAt v1056 fun a1057 =>
XLdN w1039 a1057 2 fun v1058 =>
xFill (repL [(.slice none 0 0), (.int .u64 0)] 1) [(0, 2, v1058)] fun c1059 =>
XNew w1039 c1059 86 fun a1060 w1061 =>
XRun P (Builtin.append_ #[33, 33] 33 #[(vs1018.getD 4 undef), (.slice (some a1060) 1 1)]) w1061 fun v1062 w1063 =>
J1023 [v1030, (vs1037.getD 1 undef), (vs1037.getD 0 undef), v1062] w1063) (J1023 [v1030, (vs1037.getD 1 undef), (vs1037.getD 0 undef), (vs1018.getD 4 undef)] w1039))
/- S_ref16_Left_l2: 0=slot 11 i 1=slot 12 k 2=slot 13 stays 3=slot 14 j 4=slot 10 out -/
def S_ref16_Left_l2 (K : Value → World → Prop) (a0 : Value) (a3 : Value) (a1002 : Addr) (I1016 : Nat → List Value → World → Prop) (n1017 : Nat) (vs1018 : List Value) (g1019 : Nat → Value) (w1020 : World) : Prop :=
xLen a0 fun v1021 =>
xLt (vs1018.getD 0 undef) v1021 fun v1022 =>
xIf v1022 (/- 0 k 1 stays 2 j 3 out -/ XJ (fun J1023 =>
xIxS a0 (vs1018.getD 0 undef) 2 fun v1027 =>
xFld v1027 0 fun v1028 =>
xAt v1028 fun a1029 =>
XLd w1020 a1029 fun v1030 =>
xLen v1030 fun v1031 =>
XLd w1020 (a1002.add 1) fun v1032 =>
xLen v1032 fun v1033 =>
xEq v1031 v1033 fun v1034 =>
xIf v1034 (J1023 [v1030, (vs1018.getD 2 undef), (vs1018.getD 3 undef), (vs1018.getD 4 undef)] w1020) (XLoop [(.int .i64 0), (.bool false)] w1020 (S_ref16_Left_l1 a0 a3 a1002 vs1018 J1023 v1030))) fun vs1024 g1025 w1026 =>
xAdd (vs1018.getD 0 undef) (.int .i64 1) fun v1064 =>
XNext I1016 n1017 [v1064, (vs1024.getD 0 undef), (vs1024.getD 1 undef), (vs1024.getD 2 undef), (vs1024.getD 3 undef)] w1026) (K (vs1018.getD 4 undef) w1020)
abbrev S_ref16_Left (a0 : Value) (a1 : Value) (a2 : Value) (a3 : Value) (K : Value → World → Prop) (w0 : World) : Prop :=
Ret P n_ref13_Build [a0] w0 fun v1000 w1001 =>
XNew w1001 [(.int .i64 0), (.slice none 0 0), (.bool false), (.int .u64 0), (.slice none 0 0), (.slice none 0 0)] 94 fun a1002 w1003 =>
XDo P (storeVar 94 a1002 v1000) w1003 fun w1004 =>
/- 0 out -/ XJ (fun J1005 =>
xIf a1 (XLd w1004 (a1002.add 1) fun v1009 =>
xFill [(.slice none 0 0), (.int .u64 0)] [(0, 1, v1009), (1, 1, a2)] fun c1010 =>
xFill (repL [(.slice none 0 0), (.int .u64 0)] 1) [(0, 2, (.agg c1010.toArray))] fun c1011 =>
XNew w1004 c1011 86 fun a1012 w1013 =>
XRun P (Builtin.append_ #[33, 33] 33 #[(.slice none 0 0), (.slice (some a1012) 1 1)]) w1013 fun v1014 w1015 =>
J1005 [v1014] w1015) (J1005 [(.slice none 0 0)] w1004)) fun vs1006 g1007 w1008 =>
XLoop [(.int .i64 0), undef, undef, undef, (vs1006.getD 0 undef)] w1008 (S_ref16_Left_l2 K a0 a3 a1002)
theorem W_ref16_Left {a0 a1 a2 a3 : Value} {K : Value → World → Prop} {w : World} (h : S_ref16_Left a0 a1 a2 a3 K w) : Ret P n_ref16_Left [a0, a1, a2, a3] w K :=
  vcF_of mixed Tryz.func28 (show S_ref16_Left a0 a1 a2 a3 K w = vcF P Tryz.f28 [a0, a1, a2, a3] w K from by kernel_rfl) h
/- (*spunyarn/meter.Meter).Count -/
abbrev S_meter_Meter_Count (a0 : Value) (K : Value → World → Prop) (w0 : World) : Prop :=
xPEq P w0 a0 (.pointer none) fun v1000 =>
xIf v1000 (K (.int .i64 0) w0) (xAt a0 fun a1001 =>
Ret P n_atomic_Int64_Load [(.pointer (some (a1001.add 0)))] w0 fun v1002 w1003 =>
K v1002 w1003)
theorem W_meter_Meter_Count {a0 : Value} {K : Value → World → Prop} {w : World} (h : S_meter_Meter_Count a0 K w) : Ret P n_meter_Meter_Count [a0] w K :=
  vcF_of mixed Tryz.func30 (show S_meter_Meter_Count a0 K w = vcF P Tryz.f30 [a0] w K from by kernel_rfl) h
/- spunyarn/spunyarnref19.Same -/
/- S_ref19_Same_l1: 0=slot 5 i 1=slot 4 -/
def S_ref19_Same_l1 (K : Value → World → Prop) (a0 : Value) (a1 : Value) (I1003 : Nat → List Value → World → Prop) (n1004 : Nat) (vs1005 : List Value) (g1006 : Nat → Value) (w1007 : World) : Prop :=
xLen a0 fun v1008 =>
xLt (vs1005.getD 0 undef) v1008 fun v1009 =>
xIf v1009 (/- 0 -/ XJ (fun J1010 =>
xIxS a0 (vs1005.getD 0 undef) 2 fun v1014 =>
xFld v1014 1 fun v1015 =>
xAt v1015 fun a1016 =>
XLd w1007.drew a1016 fun v1017 =>
xIxS a1 (vs1005.getD 0 undef) 2 fun v1018 =>
xFld v1018 1 fun v1019 =>
xAt v1019 fun a1020 =>
XLd w1007.drew a1020 fun v1021 =>
xNe v1017 v1021 fun v1022 =>
xIf v1022 (J1010 [(.bool true)] (w1007.drew)) (xIxS a0 (vs1005.getD 0 undef) 2 fun v1023 =>
xFld v1023 0 fun v1024 =>
xAt v1024 fun a1025 =>
XLd w1007.drew a1025 fun v1026 =>
xIxS a1 (vs1005.getD 0 undef) 2 fun v1027 =>
xFld v1027 0 fun v1028 =>
xAt v1028 fun a1029 =>
XLd w1007.drew a1029 fun v1030 =>
Ret P n_ref01_Same [v1026, v1030] w1007.drew fun v1031 w1032 =>
xNot v1031 fun v1033 =>
J1010 [v1033] w1032)) fun vs1011 g1012 w1013 =>
xIf (vs1011.getD 0 undef) (K (.bool false) w1013) (xAdd (vs1005.getD 0 undef) (.int .i64 1) fun v1034 =>
XNext I1003 n1004 [v1034, (vs1005.getD 1 undef)] w1013)) (K (.bool true) w1007)
abbrev S_ref19_Same (a0 : Value) (a1 : Value) (K : Value → World → Prop) (w0 : World) : Prop :=
xLen a0 fun v1000 =>
xLen a1 fun v1001 =>
xNe v1000 v1001 fun v1002 =>
xIf v1002 (K (.bool false) w0) (XLoop [(.int .i64 0), (.bool false)] w0 (S_ref19_Same_l1 K a0 a1))
theorem W_ref19_Same {a0 a1 : Value} {K : Value → World → Prop} {w : World} (h : S_ref19_Same a0 a1 K w) : Ret P n_ref19_Same [a0, a1] w K :=
  vcF_of mixed Tryz.func36 (show S_ref19_Same a0 a1 K w = vcF P Tryz.f36 [a0, a1] w K from by kernel_rfl) h
/- spunyarn/spunyarnref13.Made -/
/- S_ref13_Made_l1: 0=slot 4 i 1=slot 3 many -/
def S_ref13_Made_l1 (K : Value → World → Prop) (a1000 : Addr) (I1004 : Nat → List Value → World → Prop) (n1005 : Nat) (vs1006 : List Value) (g1007 : Nat → Value) (w1008 : World) : Prop :=
XLd w1008 (a1000.add 5) fun v1009 =>
xLen v1009 fun v1010 =>
xLt (vs1006.getD 0 undef) v1010 fun v1011 =>
xIf v1011 (XLd w1008 (a1000.add 5) fun v1012 =>
xIxS v1012 (vs1006.getD 0 undef) 6 fun v1013 =>
xAt v1013 fun a1014 =>
XLdN w1008 a1014 6 fun v1015 =>
Ret P n_ref13_Made [v1015] w1008 fun v1016 w1017 =>
xAdd (vs1006.getD 1 undef) v1016 fun v1018 =>
xAdd (vs1006.getD 0 undef) (.int .i64 1) fun v1019 =>
XNext I1004 n1005 [v1019, v1018] w1017) (K (vs1006.getD 1 undef) w1008)
abbrev S_ref13_Made (a0 : Value) (K : Value → World → Prop) (w0 : World) : Prop :=
XNew w0 (cellsV a0) 94 fun a1000 w1001 =>
XLd w1001 (a1000.add 0) fun v1002 =>
xEq v1002 (.int .i64 0) fun v1003 =>
xIf v1003 (K (.int .i64 0) w1001) (XLoop [(.int .i64 0), (.int .i64 1)] w1001 (S_ref13_Made_l1 K a1000))
theorem W_ref13_Made {a0 : Value} {K : Value → World → Prop} {w : World} (h : S_ref13_Made a0 K w) : Ret P n_ref13_Made [a0] w K :=
  vcF_of mixed Tryz.func49 (show S_ref13_Made a0 K w = vcF P Tryz.f49 [a0] w K from by kernel_rfl) h
/- spunyarn/spunyarnref13.Build -/
abbrev S_ref13_Build (a0 : Value) (K : Value → World → Prop) (w0 : World) : Prop :=
XNew w0 [(.int .i64 0), (.slice none 0 0), (.bool false), (.int .u64 0), (.slice none 0 0), (.slice none 0 0)] 94 fun a1000 w1001 =>
Ret P n_ref13_build [a0, (.int .i64 0)] w1001 fun v1002 w1003 =>
XDo P (storeVar 94 a1000 v1002) w1003 fun w1004 =>
XLdN w1004 a1000 6 fun v1005 =>
K v1005 w1004
theorem W_ref13_Build {a0 : Value} {K : Value → World → Prop} {w : World} (h : S_ref13_Build a0 K w) : Ret P n_ref13_Build [a0] w K :=
  vcF_of mixed Tryz.func50 (show S_ref13_Build a0 K w = vcF P Tryz.f50 [a0] w K from by kernel_rfl) h
/- spunyarn/spunyarnref13.Shape -/
/- S_ref13_Shape_l1: 0=slot 4 i 1=slot 3 s -/
def S_ref13_Shape_l1 (K : Value → World → Prop) (a1000 : Addr) (I1034 : Nat → List Value → World → Prop) (n1035 : Nat) (vs1036 : List Value) (g1037 : Nat → Value) (w1038 : World) : Prop :=
XLd w1038 (a1000.add 5) fun v1039 =>
xLen v1039 fun v1040 =>
xLt (vs1036.getD 0 undef) v1040 fun v1041 =>
xIf v1041 (XLd w1038.drew (a1000.add 4) fun v1042 =>
xIxS v1042 (vs1036.getD 0 undef) 1 fun v1043 =>
xAt v1043 fun a1044 =>
XLd w1038.drew a1044 fun v1045 =>
XLd w1038.drew (a1000.add 5) fun v1046 =>
xIxS v1046 (vs1036.getD 0 undef) 6 fun v1047 =>
xAt v1047 fun a1048 =>
XLdN w1038.drew a1048 6 fun v1049 =>
xFill (repL [(.int .u8 0)] 1) [(0, 1, v1045)] fun c1050 =>
XNew w1038.drew c1050 5 fun a1051 w1052 =>
xKeepN w1052 v1047 v1049 ∧ (xKeep1 w1052 (.pointer (some (a1000.add 5))) v1046 ∧ (Ret P n_ref01_Text [(.slice (some a1051) 1 1)] w1052 fun v1053 w1054 =>
xKeepN w1054 v1047 v1049 ∧ (xKeep1 w1054 (.pointer (some (a1000.add 5))) v1046 ∧ (xSCat (.string ⟨#[58]⟩) v1053 fun v1055 =>
Ret P n_ref13_Shape [v1049] w1054 fun v1056 w1057 =>
xSCat v1055 v1056 fun v1058 =>
xSCat (vs1036.getD 1 undef) v1058 fun v1059 =>
xAdd (vs1036.getD 0 undef) (.int .i64 1) fun v1060 =>
XNext I1034 n1035 [v1060, v1059] w1057))))) (xSCat (vs1036.getD 1 undef) (.string ⟨#[62]⟩) fun v1061 =>
K v1061 w1038)
abbrev S_ref13_Shape (a0 : Value) (K : Value → World → Prop) (w0 : World) : Prop :=
XNew w0 (cellsV a0) 94 fun a1000 w1001 =>
XLd w1001 (a1000.add 0) fun v1002 =>
xEq v1002 (.int .i64 0) fun v1003 =>
xIf v1003 (K (.string ⟨#[46]⟩) w1001) (XLd w1001 (a1000.add 0) fun v1004 =>
xEq v1004 (.int .i64 1) fun v1005 =>
xIf v1005 (XLd w1001.drew (a1000.add 1) fun v1006 =>
XLd w1001.drew (a1000.add 3) fun v1007 =>
Ret P n_ref01_Text [v1006] w1001.drew fun v1008 w1009 =>
xKeep1 w1009 (.pointer (some (a1000.add 3))) v1007 ∧ (xSCat (.string ⟨#[76]⟩) v1008 fun v1010 =>
xSCat v1010 (.string ⟨#[61]⟩) fun v1011 =>
Ret P n_ref13_Digits [v1007] w1009 fun v1012 w1013 =>
xSCat v1011 v1012 fun v1014 =>
K v1014 w1013)) (XLd w1001.drew (a1000.add 0) fun v1015 =>
xConv .u64 v1015 fun v1016 =>
XLd w1001.drew (a1000.add 1) fun v1017 =>
Ret P n_ref13_Digits [v1016] w1001.drew fun v1018 w1019 =>
xKeep1 w1019 (.pointer (some (a1000.add 1))) v1017 ∧ (xSCat v1018 (.string ⟨#[60]⟩) fun v1020 =>
Ret P n_ref01_Text [v1017] w1019 fun v1021 w1022 =>
xSCat v1020 v1021 fun v1023 =>
/- 0 s -/ XJ (fun J1024 =>
XLd w1022 (a1000.add 2) fun v1028 =>
xIf v1028 (XLd w1022 (a1000.add 3) fun v1029 =>
Ret P n_ref13_Digits [v1029] w1022 fun v1030 w1031 =>
xSCat (.string ⟨#[61]⟩) v1030 fun v1032 =>
xSCat v1023 v1032 fun v1033 =>
J1024 [v1033] w1031) (J1024 [v1023] w1022)) fun vs1025 g1026 w1027 =>
XLoop [(.int .i64 0), (vs1025.getD 0 undef)] w1027 (S_ref13_Shape_l1 K a1000))))
theorem W_ref13_Shape {a0 : Value} {K : Value → World → Prop} {w : World} (h : S_ref13_Shape a0 K w) : Ret P n_ref13_Shape [a0] w K :=
  vcF_of mixed Tryz.func62 (show S_ref13_Shape a0 K w = vcF P Tryz.f62 [a0] w K from by kernel_rfl) h
/- spunyarn/spunyarnref19.After -/
abbrev S_ref19_After (a0 : Value) (a1 : Value) (K : Value → World → Prop) (w0 : World) : Prop :=
XNew w0 (cellsV a1) 144 fun a1000 w1001 =>
XLd w1001 (a1000.add 0) fun v1002 =>
xRem v1002 (.int .u8 6) fun v1003 =>
xEq v1003 (.int .u8 0) fun v1004 =>
xIf v1004 (XLd w1001 (a1000.add 4) fun v1005 =>
Ret P n_ref13_Check [v1005] w1001 fun v1006 w1007 =>
xNe v1006 (.int .i64 0) fun v1008 =>
xIf v1008 (K (.tuple #[(.slice none 0 0), v1006]) w1007) (XLd w1007 (a1000.add 4) fun v1009 =>
K (.tuple #[v1009, (.int .i64 0)]) w1007)) (XLd w1001 (a1000.add 0) fun v1010 =>
xRem v1010 (.int .u8 6) fun v1011 =>
xEq v1011 (.int .u8 1) fun v1012 =>
xIf v1012 (XLd w1001 (a1000.add 2) fun v1013 =>
XLd w1001 (a1000.add 3) fun v1014 =>
Ret P n_ref15_Put [a0, v1013, v1014] w1001 fun v1015 w1016 =>
K (.tuple #[v1015, (.int .i64 0)]) w1016) (xEq v1011 (.int .u8 2) fun v1017 =>
xIf v1017 (XLd w1001 (a1000.add 2) fun v1018 =>
Ret P n_ref16_Del [a0, v1018] w1001 fun v1019 w1020 =>
xTup v1019 0 fun v1021 =>
xTup v1019 1 fun v1022 =>
K (.tuple #[v1021, (.int .i64 0)]) w1020) (xEq v1011 (.int .u8 3) fun v1023 =>
xIf v1023 (XLd w1001 (a1000.add 2) fun v1024 =>
Ret P n_ref18_Sub [a0, v1024] w1001 fun v1025 w1026 =>
K (.tuple #[v1025, (.int .i64 0)]) w1026) (xEq v1011 (.int .u8 4) fun v1027 =>
xIf v1027 (XLd w1001 (a1000.add 2) fun v1028 =>
Ret P n_ref18_Strip [a0, v1028] w1001 fun v1029 w1030 =>
K (.tuple #[v1029, (.int .i64 0)]) w1030) (XLd w1001 (a1000.add 2) fun v1031 =>
Ret P n_ref18_Under [a0, v1031] w1001 fun v1032 w1033 =>
xTup v1032 0 fun v1034 =>
xTup v1032 1 fun v1035 =>
K (.tuple #[v1034, v1035]) w1033)))))
theorem W_ref19_After {a0 a1 : Value} {K : Value → World → Prop} {w : World} (h : S_ref19_After a0 a1 K w) : Ret P n_ref19_After [a0, a1] w K :=
  vcF_of mixed Tryz.func67 (show S_ref19_After a0 a1 K w = vcF P Tryz.f67 [a0, a1] w K from by kernel_rfl) h
/- spunyarn/canon.Build -/
abbrev S_canon_Build (a0 : Value) (a1 : Value) (a2 : Value) (K : Value → World → Prop) (w0 : World) : Prop :=
Ret P n_canon_check [a2] w0 fun v1000 w1001 =>
xNe v1000 (.int .i64 0) fun v1002 =>
xIf v1002 (K (.tuple #[(.pointer none), v1000]) w1001) (xFill [(.pointer none), (.int .u64 0)] [(0, 1, a0), (1, 1, a1)] fun c1003 =>
Ret P n_canon_maker_tree [(.agg c1003.toArray), a2, (.int .i64 0)] w1001 fun v1004 w1005 =>
K (.tuple #[v1004, (.int .i64 0)]) w1005)
theorem W_canon_Build {a0 a1 a2 : Value} {K : Value → World → Prop} {w : World} (h : S_canon_Build a0 a1 a2 K w) : Ret P n_canon_Build [a0, a1, a2] w K :=
  vcF_of mixed Tryz.func71 (show S_canon_Build a0 a1 a2 K w = vcF P Tryz.f71 [a0, a1, a2] w K from by kernel_rfl) h
/- spunyarn/spunyarnref01.Cmp -/
abbrev S_ref01_Cmp (a0 : Value) (a1 : Value) (K : Value → World → Prop) (w0 : World) : Prop :=
Ret P n_ref01_Common [a0, a1] w0 fun v1000 w1001 =>
/- 0 -/ XJ (fun J1002 =>
xLen a0 fun v1006 =>
xEq v1000 v1006 fun v1007 =>
xIf v1007 (xLen a1 fun v1008 =>
xEq v1000 v1008 fun v1009 =>
J1002 [v1009] w1001) (J1002 [(.bool false)] w1001)) fun vs1003 g1004 w1005 =>
xIf (vs1003.getD 0 undef) (K (.int .i64 0) w1005) (xLen a0 fun v1010 =>
xEq v1000 v1010 fun v1011 =>
xIf v1011 (K (.int .i64 (-1)) w1005) (xLen a1 fun v1012 =>
xEq v1000 v1012 fun v1013 =>
xIf v1013 (K (.int .i64 1) w1005) (xIxS a0 v1000 1 fun v1014 =>
xAt v1014 fun a1015 =>
XLd w1005.drew a1015 fun v1016 =>
xIxS a1 v1000 1 fun v1017 =>
xAt v1017 fun a1018 =>
XLd w1005.drew a1018 fun v1019 =>
xLt v1016 v1019 fun v1020 =>
xIf v1020 (K (.int .i64 (-1)) (w1005.drew)) (K (.int .i64 1) (w1005.drew)))))
theorem W_ref01_Cmp {a0 a1 : Value} {K : Value → World → Prop} {w : World} (h : S_ref01_Cmp a0 a1 K w) : Ret P n_ref01_Cmp [a0, a1] w K :=
  vcF_of mixed Tryz.func72 (show S_ref01_Cmp a0 a1 K w = vcF P Tryz.f72 [a0, a1] w K from by kernel_rfl) h
/- spunyarn/spunyarnref01.Same -/
abbrev S_ref01_Same (a0 : Value) (a1 : Value) (K : Value → World → Prop) (w0 : World) : Prop :=
Ret P n_ref01_Cmp [a0, a1] w0 fun v1000 w1001 =>
xEq v1000 (.int .i64 0) fun v1002 =>
K v1002 w1001
theorem W_ref01_Same {a0 a1 : Value} {K : Value → World → Prop} {w : World} (h : S_ref01_Same a0 a1 K w) : Ret P n_ref01_Same [a0, a1] w K :=
  vcF_of mixed Tryz.func73 (show S_ref01_Same a0 a1 K w = vcF P Tryz.f73 [a0, a1] w K from by kernel_rfl) h
/- spunyarn/canon.shape -/
/- S_canon_shape_l1: 0=slot 7 k 1=slot 6 b -/
def S_canon_shape_l1 (K : Value → World → Prop) (a0 : Value) (a1 : Value) (I1045 : Nat → List Value → World → Prop) (n1046 : Nat) (vs1047 : List Value) (g1048 : Nat → Value) (w1049 : World) : Prop :=
xPNe P w1049 (vs1047.getD 0 undef) (.pointer none) fun v1050 =>
xIf v1050 (xFill (repL [(.int .u8 0)] 1) [(0, 1, (vs1047.getD 1 undef))] fun c1051 =>
XNew w1049 c1051 5 fun a1052 w1053 =>
Ret P n_keys_Text [(.slice (some a1052) 1 1)] w1053 fun v1054 w1055 =>
xSCat (.string ⟨#[58]⟩) v1054 fun v1056 =>
Ret P n_strings_Builder_WriteString [a0, v1056] w1055 fun v1057 w1058 =>
Ret P n_canon_shape [a0, (vs1047.getD 0 undef)] w1058 fun v1059 w1060 =>
xConv .i64 (vs1047.getD 1 undef) fun v1061 =>
xAdd v1061 (.int .i64 1) fun v1062 =>
Ret P n_node_Node_Next [a1, v1062] w1060 fun v1063 w1064 =>
xTup v1063 0 fun v1065 =>
xTup v1063 1 fun v1066 =>
XNext I1045 n1046 [v1066, v1065] w1064) (Ret P n_strings_Builder_WriteString [a0, (.string ⟨#[62]⟩)] w1049 fun v1067 w1068 =>
K (.tuple #[]) w1068)
abbrev S_canon_shape (a0 : Value) (a1 : Value) (K : Value → World → Prop) (w0 : World) : Prop :=
xPEq P w0 a1 (.pointer none) fun v1000 =>
xIf v1000 (Ret P n_strings_Builder_WriteString [a0, (.string ⟨#[46]⟩)] w0 fun v1001 w1002 =>
K (.tuple #[]) w1002) (Ret P n_node_Node_Val [a1] w0 fun v1003 w1004 =>
xTup v1003 0 fun v1005 =>
xTup v1003 1 fun v1006 =>
/-  -/ XJ (fun J1007 =>
Ret P n_node_Node_Kind [a1] w1004 fun v1011 w1012 =>
xEq v1011 (.int .i64 1) fun v1013 =>
xIf v1013 (Ret P n_strings_Builder_WriteString [a0, (.string ⟨#[76]⟩)] w1012 fun v1014 w1015 =>
J1007 [] w1015) (Ret P n_node_Node_Kind [a1] w1012 fun v1016 w1017 =>
Ret P n_strconv_Itoa [v1016] w1017 fun v1018 w1019 =>
xSCat v1018 (.string ⟨#[60]⟩) fun v1020 =>
Ret P n_strings_Builder_WriteString [a0, v1020] w1019 fun v1021 w1022 =>
J1007 [] w1022)) fun vs1008 g1009 w1010 =>
Ret P n_node_Node_Part [a1] w1010 fun v1023 w1024 =>
Ret P n_keys_Text [v1023] w1024 fun v1025 w1026 =>
Ret P n_strings_Builder_WriteString [a0, v1025] w1026 fun v1027 w1028 =>
/-  -/ XJ (fun J1029 =>
xIf v1006 (Ret P n_strconv_FormatUint [v1005, (.int .i64 10)] w1028 fun v1033 w1034 =>
xSCat (.string ⟨#[61]⟩) v1033 fun v1035 =>
Ret P n_strings_Builder_WriteString [a0, v1035] w1034 fun v1036 w1037 =>
J1029 [] w1037) (J1029 [] w1028)) fun vs1030 g1031 w1032 =>
Ret P n_node_Node_Kind [a1] w1032 fun v1038 w1039 =>
xEq v1038 (.int .i64 1) fun v1040 =>
xIf v1040 (K (.tuple #[]) w1039) (Ret P n_node_Node_Next [a1, (.int .i64 0)] w1039 fun v1041 w1042 =>
xTup v1041 0 fun v1043 =>
xTup v1041 1 fun v1044 =>
XLoop [v1044, v1043] w1042 (S_canon_shape_l1 K a0 a1)))
theorem W_canon_shape {a0 a1 : Value} {K : Value → World → Prop} {w : World} (h : S_canon_shape a0 a1 K w) : Ret P n_canon_shape [a0, a1] w K :=
  vcF_of mixed Tryz.func74 (show S_canon_shape a0 a1 K w = vcF P Tryz.f74 [a0, a1] w K from by kernel_rfl) h
/- (*strings.Builder).String -/
abbrev S_strings_Builder_String (a0 : Value) (K : Value → World → Prop) (w0 : World) : Prop :=
xAt a0 fun a1000 =>
XLd w0.drew (a1000.add 1) fun v1001 =>
xAt a0 fun a1002 =>
XLd w0.drew (a1002.add 1) fun v1003 =>
xLen v1003 fun v1004 =>
XRun P (Builtin.unsafeSliceData_ #[41] 235 #[v1001]) w0.drew fun v1005 w1006 =>
xKeep1 w1006 (.pointer (some (a1002.add 1))) v1003 ∧ (XRun P (Builtin.unsafeString_ #[235, 3] 9 #[v1005, v1004]) w1006 fun v1007 w1008 =>
K v1007 w1008)
theorem W_strings_Builder_String {a0 : Value} {K : Value → World → Prop} {w : World} (h : S_strings_Builder_String a0 K w) : Ret P n_strings_Builder_String [a0] w K :=
  vcF_of mixed Tryz.func75 (show S_strings_Builder_String a0 K w = vcF P Tryz.f75 [a0] w K from by kernel_rfl) h
/- spunyarn/canon.each -/
abbrev S_canon_each (a0 : Value) (a1 : Value) (K : Value → World → Prop) (w0 : World) : Prop :=
XNew w0 (cellsV a1) 170 fun a1000 w1001 =>
XNew w1001 [.nilFunc] 170 fun a1002 w1003 =>
XSt w1003 a1002 (.func (.func 150) #[] #[(.pointer (some a1000)), (.pointer (some a1002))]) fun w1004 =>
XLd w1004 a1002 fun v1005 =>
xFunc v1005 [(.slice none 0 0), a0] fun f1006 xs1007 =>
xCall P f1006 xs1007 w1004 fun v1008 w1009 =>
K (.tuple #[]) w1009
theorem W_canon_each {a0 a1 : Value} {K : Value → World → Prop} {w : World} (h : S_canon_each a0 a1 K w) : Ret P n_canon_each [a0, a1] w K :=
  vcF_of mixed Tryz.func76 (show S_canon_each a0 a1 K w = vcF P Tryz.f76 [a0, a1] w K from by kernel_rfl) h
/- spunyarn/canon.Fine$1 -/
abbrev S_canon_Fine_1 (a0 : Value) (a1 : Value) (a2 : Value) (K : Value → World → Prop) (w0 : World) : Prop :=
Ret P n_node_Node_Val [a1] w0 fun v1000 w1001 =>
xTup v1000 0 fun v1002 =>
xTup v1000 1 fun v1003 =>
/- 0 -/ XJ (fun J1004 =>
Ret P n_node_Node_Kind [a1] w1001 fun v1008 w1009 =>
xNe v1008 (.int .i64 1) fun v1010 =>
xIf v1010 (Ret P n_node_Node_Occupants [a1] w1009 fun v1011 w1012 =>
xLt v1011 (.int .i64 2) fun v1013 =>
xIf v1013 (J1004 [(.bool true)] w1012) (xIf v1003 (Ret P n_keys_May [a0] w1012 fun v1014 w1015 =>
xNe v1014 (.int .i64 0) fun v1016 =>
J1004 [v1016] w1015) (J1004 [(.bool false)] w1012))) (xIf v1003 (Ret P n_keys_May [a0] w1009 fun v1017 w1018 =>
xNe v1017 (.int .i64 0) fun v1019 =>
J1004 [v1019] w1018) (J1004 [(.bool false)] w1009))) fun vs1005 g1006 w1007 =>
xIf (vs1005.getD 0 undef) (xAt a2 fun a1021 =>
XSt w1007 a1021 (.bool false) fun w1020 =>
K (.tuple #[]) w1020) (K (.tuple #[]) w1007)
theorem W_canon_Fine_1 {a0 a1 a2 : Value} {K : Value → World → Prop} {w : World} (h : S_canon_Fine_1 a0 a1 a2 K w) : Ret P n_canon_Fine_1 [a0, a1, a2] w K :=
  vcF_of mixed Tryz.func77 (show S_canon_Fine_1 a0 a1 a2 K w = vcF P Tryz.f77 [a0, a1, a2] w K from by kernel_rfl) h
/- (*spunyarn/node.Node).Val -/
abbrev S_node_Node_Val (a0 : Value) (K : Value → World → Prop) (w0 : World) : Prop :=
/- 0 -/ XJ (fun J1000 =>
xPEq P w0 a0 (.pointer none) fun v1004 =>
xIf v1004 (J1000 [(.bool true)] w0) (xAt a0 fun a1005 =>
XLd w0 (a1005.add 3) fun v1006 =>
xNot v1006 fun v1007 =>
J1000 [v1007] w0)) fun vs1001 g1002 w1003 =>
xIf (vs1001.getD 0 undef) (K (.tuple #[(.int .u64 0), (.bool false)]) w1003) (xAt a0 fun a1008 =>
XLd w1003 (a1008.add 2) fun v1009 =>
K (.tuple #[v1009, (.bool true)]) w1003)
theorem W_node_Node_Val {a0 : Value} {K : Value → World → Prop} {w : World} (h : S_node_Node_Val a0 K w) : Ret P n_node_Node_Val [a0] w K :=
  vcF_of mixed Tryz.func78 (show S_node_Node_Val a0 K w = vcF P Tryz.f78 [a0] w K from by kernel_rfl) h
/- (*spunyarn/node.Node).Kind -/
abbrev S_node_Node_Kind (a0 : Value) (K : Value → World → Prop) (w0 : World) : Prop :=
xPEq P w0 a0 (.pointer none) fun v1000 =>
xIf v1000 (K (.int .i64 0) w0) (Ret P n_node_Node_isLeaf [a0] w0 fun v1001 w1002 =>
xIf v1001 (K (.int .i64 1) w1002) (xAt a0 fun a1003 =>
XLd w1002 (a1003.add 4) fun v1004 =>
Ret P n_kids_Kids_Kind [v1004] w1002 fun v1005 w1006 =>
K v1005 w1006))
theorem W_node_Node_Kind {a0 : Value} {K : Value → World → Prop} {w : World} (h : S_node_Node_Kind a0 K w) : Ret P n_node_Node_Kind [a0] w K :=
  vcF_of mixed Tryz.func79 (show S_node_Node_Kind a0 K w = vcF P Tryz.f79 [a0] w K from by kernel_rfl) h
/- (*spunyarn/node.Node).Occupants -/
abbrev S_node_Node_Occupants (a0 : Value) (K : Value → World → Prop) (w0 : World) : Prop :=
/- 0 -/ XJ (fun J1000 =>
xPNe P w0 a0 (.pointer none) fun v1004 =>
xIf v1004 (xAt a0 fun a1005 =>
XLd w0 (a1005.add 3) fun v1006 =>
J1000 [v1006] w0) (J1000 [(.bool false)] w0)) fun vs1001 g1002 w1003 =>
xIf (vs1001.getD 0 undef) (xAt a0 fun a1007 =>
XLd w1003 (a1007.add 4) fun v1008 =>
Ret P n_kids_Kids_Len [v1008] w1003 fun v1009 w1010 =>
xAdd v1009 (.int .i64 1) fun v1011 =>
K v1011 w1010) (Ret P n_node_Node_Len [a0] w1003 fun v1012 w1013 =>
K v1012 w1013)
theorem W_node_Node_Occupants {a0 : Value} {K : Value → World → Prop} {w : World} (h : S_node_Node_Occupants a0 K w) : Ret P n_node_Node_Occupants [a0] w K :=
  vcF_of mixed Tryz.func80 (show S_node_Node_Occupants a0 K w = vcF P Tryz.f80 [a0] w K from by kernel_rfl) h
/- spunyarn/keys.May -/
abbrev S_keys_May (a0 : Value) (K : Value → World → Prop) (w0 : World) : Prop :=
xLen a0 fun v1000 =>
xGt v1000 (.int .i64 65535) fun v1001 =>
xIf v1001 (K (.int .i64 8) w0) (K (.int .i64 0) w0)
theorem W_keys_May {a0 : Value} {K : Value → World → Prop} {w : World} (h : S_keys_May a0 K w) : Ret P n_keys_May [a0] w K :=
  vcF_of mixed Tryz.func81 (show S_keys_May a0 K w = vcF P Tryz.f81 [a0] w K from by kernel_rfl) h
/- spunyarn/del.Del -/
abbrev S_del_Del (a0 : Value) (a1 : Value) (a2 : Value) (a3 : Value) (K : Value → World → Prop) (w0 : World) : Prop :=
xEq a2 (.int .u64 0) fun v1000 =>
xIf v1000 (K (.tuple #[(.pointer none), (.bool false), (.int .i64 1)]) w0) (Ret P n_keys_May [a1] w0 fun v1001 w1002 =>
xNe v1001 (.int .i64 0) fun v1003 =>
xIf v1003 (K (.tuple #[(.pointer none), (.bool false), v1001]) w1002) (Ret P n_find_Has [a0, a1] w1002 fun v1004 w1005 =>
xNot v1004 fun v1006 =>
xIf v1006 (K (.tuple #[a0, (.bool false), (.int .i64 0)]) w1005) (xFill [(.int .u64 0), (.pointer none)] [(0, 1, a2), (1, 1, a3)] fun c1007 =>
Ret P n_del_taker_out [(.agg c1007.toArray), a0, a1] w1005 fun v1008 w1009 =>
K (.tuple #[v1008, (.bool true), (.int .i64 0)]) w1009)))
theorem W_del_Del {a0 a1 a2 a3 : Value} {K : Value → World → Prop} {w : World} (h : S_del_Del a0 a1 a2 a3 K w) : Ret P n_del_Del [a0, a1, a2, a3] w K :=
  vcF_of mixed Tryz.func82 (show S_del_Del a0 a1 a2 a3 K w = vcF P Tryz.f82 [a0, a1, a2, a3] w K from by kernel_rfl) h
/- (*spunyarn/node.Node).Kid -/
abbrev S_node_Node_Kid (a0 : Value) (a1 : Value) (K : Value → World → Prop) (w0 : World) : Prop :=
xPEq P w0 a0 (.pointer none) fun v1000 =>
xIf v1000 (K (.pointer none) w0) (xAt a0 fun a1001 =>
XLd w0 (a1001.add 4) fun v1002 =>
Ret P n_kids_Kids_Get [v1002, a1] w0 fun v1003 w1004 =>
xTup v1003 0 fun v1005 =>
xTup v1003 1 fun v1006 =>
K v1005 w1004)
theorem W_node_Node_Kid {a0 a1 : Value} {K : Value → World → Prop} {w : World} (h : S_node_Node_Kid a0 a1 K w) : Ret P n_node_Node_Kid [a0, a1] w K :=
  vcF_of mixed Tryz.func83 (show S_node_Node_Kid a0 a1 K w = vcF P Tryz.f83 [a0, a1] w K from by kernel_rfl) h
/- spunyarn/del.may -/
abbrev S_del_may (a0 : Value) (a1 : Value) (a2 : Value) (K : Value → World → Prop) (w0 : World) : Prop :=
Ret P n_del_check [a1] w0 fun v1000 w1001 =>
/- 0 -/ XJ (fun J1002 =>
xEq a2 (.int .u64 0) fun v1006 =>
xIf v1006 (J1002 [(.bool true)] w1001) (xEq v1000 (.int .i64 1) fun v1007 =>
J1002 [v1007] w1001)) fun vs1003 g1004 w1005 =>
xIf (vs1003.getD 0 undef) (K (.int .i64 1) w1005) (xPEq P w1005 a0 (.pointer none) fun v1008 =>
xIf v1008 (K (.int .i64 2) w1005) (Ret P n_node_Node_Kind [a0] w1005 fun v1009 w1010 =>
xEq v1009 (.int .i64 1) fun v1011 =>
xIf v1011 (K (.int .i64 9) w1010) (K v1000 w1010)))
theorem W_del_may {a0 a1 a2 : Value} {K : Value → World → Prop} {w : World} (h : S_del_may a0 a1 a2 K w) : Ret P n_del_may [a0, a1, a2] w K :=
  vcF_of mixed Tryz.func84 (show S_del_may a0 a1 a2 K w = vcF P Tryz.f84 [a0, a1, a2] w K from by kernel_rfl) h
/- spunyarn/del.just -/
/- S_del_just_l1: 0=slot 38 1=slot 8 -/
def S_del_just_l1 (K : Value → World → Prop) (a0 : Value) (a3 : Value) (v1018 : Value) (I1019 : Nat → List Value → World → Prop) (n1020 : Nat) (vs1021 : List Value) (g1022 : Nat → Value) (w1023 : World) : Prop :=
xLt (vs1021.getD 0 undef) v1018 fun v1024 =>
xIf v1024 (xIxS a3 (vs1021.getD 0 undef) 2 fun v1025 =>
xAt v1025 fun a1026 =>
XLdN w1023 a1026 2 fun v1027 =>
XNew w1023 [(.int .u8 0), (.pointer none)] 61 fun a1028 w1029 =>
XDo P (storeVar 61 a1028 v1027) w1029 fun w1030 =>
XLd w1030.drew (a1028.add 0) fun v1031 =>
XLd w1030.drew (a1028.add 1) fun v1032 =>
Ret P n_node_Node_Kid [a0, v1031] w1030.drew fun v1033 w1034 =>
xKeep1 w1034 (.pointer (some (a1028.add 1))) v1032 ∧ (xPNe P w1034 v1033 v1032 fun v1035 =>
xIf v1035 (K (.bool false) w1034) (xAdd (vs1021.getD 0 undef) (.int .i64 1) fun v1036 =>
XNext I1019 n1020 [v1036, (vs1021.getD 1 undef)] w1034))) (K (.bool true) w1023)
abbrev S_del_just (a0 : Value) (a1 : Value) (a2 : Value) (a3 : Value) (K : Value → World → Prop) (w0 : World) : Prop :=
Ret P n_node_Node_Val [a0] w0 fun v1000 w1001 =>
xTup v1000 0 fun v1002 =>
xTup v1000 1 fun v1003 =>
/- 0 -/ XJ (fun J1004 =>
xBNe v1003 a1 fun v1008 =>
xIf v1008 (J1004 [(.bool true)] w1001) (xIf v1003 (xNe v1002 a2 fun v1009 =>
xIf v1009 (J1004 [(.bool true)] w1001) (Ret P n_node_Node_Len [a0] w1001 fun v1010 w1011 =>
xLen a3 fun v1012 =>
xNe v1010 v1012 fun v1013 =>
J1004 [v1013] w1011)) (Ret P n_node_Node_Len [a0] w1001 fun v1014 w1015 =>
xLen a3 fun v1016 =>
xNe v1014 v1016 fun v1017 =>
J1004 [v1017] w1015))) fun vs1005 g1006 w1007 =>
xIf (vs1005.getD 0 undef) (K (.bool false) w1007) (xLen a3 fun v1018 =>
XLoop [(.int .i64 0), (.bool false)] w1007 (S_del_just_l1 K a0 a3 v1018))
theorem W_del_just {a0 a1 a2 a3 : Value} {K : Value → World → Prop} {w : World} (h : S_del_just a0 a1 a2 a3 K w) : Ret P n_del_just [a0, a1, a2, a3] w K :=
  vcF_of mixed Tryz.func85 (show S_del_just a0 a1 a2 a3 K w = vcF P Tryz.f85 [a0, a1, a2, a3] w K from by kernel_rfl) h
/- spunyarn/node.Leaf -/
abbrev S_node_Leaf (a0 : Value) (a1 : Value) (a2 : Value) (a3 : Value) (K : Value → World → Prop) (w0 : World) : Prop :=
Ret P n_meter_Meter_Made [a0, (.int .i64 1)] w0 fun v1000 w1001 =>
Ret P n_bytes_Clone [a2] w1001 fun v1002 w1003 =>
xFill [(.int .u64 0), (.slice none 0 0), (.int .u64 0), (.bool false), (.pointer none)] [(0, 1, a1), (1, 1, v1002), (2, 1, a3), (3, 1, (.bool true))] fun c1004 =>
XNew w1003 (cellsV (.agg c1004.toArray)) 238 fun a1005 w1006 =>
K (.pointer (some a1005)) w1006
theorem W_node_Leaf {a0 a1 a2 a3 : Value} {K : Value → World → Prop} {w : World} (h : S_node_Leaf a0 a1 a2 a3 K w) : Ret P n_node_Leaf [a0, a1, a2, a3] w K :=
  vcF_of mixed Tryz.func86 (show S_node_Leaf a0 a1 a2 a3 K w = vcF P Tryz.f86 [a0, a1, a2, a3] w K from by kernel_rfl) h
/- (*spunyarn/node.Node).Part -/
abbrev S_node_Node_Part (a0 : Value) (K : Value → World → Prop) (w0 : World) : Prop :=
xPEq P w0 a0 (.pointer none) fun v1000 =>
xIf v1000 (K (.slice none 0 0) w0) (xAt a0 fun a1001 =>
XLd w0 (a1001.add 1) fun v1002 =>
xLen v1002 fun v1003 =>
XRun P (Instr.makeSlice 41 v1003 v1003) w0 fun v1004 w1005 =>
xAt a0 fun a1006 =>
XLd w1005 (a1006.add 1) fun v1007 =>
XRun P (Builtin.copy_ #[41, 41] 3 #[v1004, v1007]) w1005 fun v1008 w1009 =>
K v1004 w1009)
theorem W_node_Node_Part {a0 : Value} {K : Value → World → Prop} {w : World} (h : S_node_Node_Part a0 K w) : Ret P n_node_Node_Part [a0] w K :=
  vcF_of mixed Tryz.func87 (show S_node_Node_Part a0 K w = vcF P Tryz.f87 [a0] w K from by kernel_rfl) h
/- (*spunyarn/node.Node).Copy -/
abbrev S_node_Node_Copy (a0 : Value) (a1 : Value) (a2 : Value) (K : Value → World → Prop) (w0 : World) : Prop :=
xPEq P w0 a0 (.pointer none) fun v1000 =>
xIf v1000 (K (.pointer none) w0) (Ret P n_meter_Meter_Made [a1, (.int .i64 1)] w0 fun v1001 w1002 =>
xAt a0 fun a1003 =>
XLdN w1002 a1003 5 fun v1004 =>
XNew w1002 [(.int .u64 0), (.slice none 0 0), (.int .u64 0), (.bool false), (.pointer none)] 238 fun a1005 w1006 =>
XDo P (storeVar 238 a1005 v1004) w1006 fun w1007 =>
XSt w1007 (a1005.add 0) a2 fun w1008 =>
xAt a0 fun a1009 =>
XLd w1008 (a1009.add 4) fun v1010 =>
Ret P n_kids_Kids_Copy [v1010] w1008 fun v1011 w1012 =>
XSt w1012 (a1005.add 4) v1011 fun w1013 =>
K (.pointer (some a1005)) w1013)
theorem W_node_Node_Copy {a0 a1 a2 : Value} {K : Value → World → Prop} {w : World} (h : S_node_Node_Copy a0 a1 a2 K w) : Ret P n_node_Node_Copy [a0, a1, a2] w K :=
  vcF_of mixed Tryz.func88 (show S_node_Node_Copy a0 a1 a2 K w = vcF P Tryz.f88 [a0, a1, a2] w K from by kernel_rfl) h
/- (*spunyarn/node.Node).SetPart -/
abbrev S_node_Node_SetPart (a0 : Value) (a1 : Value) (a2 : Value) (K : Value → World → Prop) (w0 : World) : Prop :=
Ret P n_node_Node_may [a0, a1] w0 fun v1000 w1001 =>
/-  -/ XJ (fun J1002 =>
xEq v1000 (.int .i64 0) fun v1006 =>
xIf v1006 (Ret P n_bytes_Clone [a2] w1001 fun v1007 w1008 =>
xAt a0 fun a1009 =>
XSt w1008 (a1009.add 1) v1007 fun w1010 =>
J1002 [] w1010) (J1002 [] w1001)) fun vs1003 g1004 w1005 =>
K v1000 w1005
theorem W_node_Node_SetPart {a0 a1 a2 : Value} {K : Value → World → Prop} {w : World} (h : S_node_Node_SetPart a0 a1 a2 K w) : Ret P n_node_Node_SetPart [a0, a1, a2] w K :=
  vcF_of mixed Tryz.func89 (show S_node_Node_SetPart a0 a1 a2 K w = vcF P Tryz.f89 [a0, a1, a2] w K from by kernel_rfl) h
/- spunyarn/del.join -/
abbrev S_del_join (a0 : Value) (K : Value → World → Prop) (w0 : World) : Prop :=
Ret P n_slices_Concat_byte [a0] w0 fun v1000 w1001 =>
K v1000 w1001
theorem W_del_join {a0 : Value} {K : Value → World → Prop} {w : World} (h : S_del_join a0 K w) : Ret P n_del_join [a0] w K :=
  vcF_of mixed Tryz.func90 (show S_del_join a0 K w = vcF P Tryz.f90 [a0] w K from by kernel_rfl) h
/- spunyarn/node.Inner -/
abbrev S_node_Inner (a0 : Value) (a1 : Value) (a2 : Value) (K : Value → World → Prop) (w0 : World) : Prop :=
Ret P n_meter_Meter_Made [a0, (.int .i64 1)] w0 fun v1000 w1001 =>
Ret P n_bytes_Clone [a2] w1001 fun v1002 w1003 =>
Ret P n_kids_New_Node [] w1003 fun v1004 w1005 =>
xFill [(.int .u64 0), (.slice none 0 0), (.int .u64 0), (.bool false), (.pointer none)] [(0, 1, a1), (1, 1, v1002), (4, 1, v1004)] fun c1006 =>
XNew w1005 (cellsV (.agg c1006.toArray)) 238 fun a1007 w1008 =>
K (.pointer (some a1007)) w1008
theorem W_node_Inner {a0 a1 a2 : Value} {K : Value → World → Prop} {w : World} (h : S_node_Inner a0 a1 a2 K w) : Ret P n_node_Inner [a0, a1, a2] w K :=
  vcF_of mixed Tryz.func91 (show S_node_Inner a0 a1 a2 K w = vcF P Tryz.f91 [a0, a1, a2] w K from by kernel_rfl) h
/- (*spunyarn/node.Node).SetVal -/
abbrev S_node_Node_SetVal (a0 : Value) (a1 : Value) (a2 : Value) (K : Value → World → Prop) (w0 : World) : Prop :=
Ret P n_node_Node_may [a0, a1] w0 fun v1000 w1001 =>
/-  -/ XJ (fun J1002 =>
xEq v1000 (.int .i64 0) fun v1006 =>
xIf v1006 (xAt a0 fun a1007 =>
XSt w1001 (a1007.add 2) a2 fun w1008 =>
xAt a0 fun a1009 =>
XSt w1008 (a1009.add 3) (.bool true) fun w1010 =>
J1002 [] w1010) (J1002 [] w1001)) fun vs1003 g1004 w1005 =>
K v1000 w1005
theorem W_node_Node_SetVal {a0 a1 a2 : Value} {K : Value → World → Prop} {w : World} (h : S_node_Node_SetVal a0 a1 a2 K w) : Ret P n_node_Node_SetVal [a0, a1, a2] w K :=
  vcF_of mixed Tryz.func92 (show S_node_Node_SetVal a0 a1 a2 K w = vcF P Tryz.f92 [a0, a1, a2] w K from by kernel_rfl) h
/- (*spunyarn/node.Node).SetKid -/
abbrev S_node_Node_SetKid (a0 : Value) (a1 : Value) (a2 : Value) (a3 : Value) (K : Value → World → Prop) (w0 : World) : Prop :=
Ret P n_node_Node_inner [a0, a1] w0 fun v1000 w1001 =>
xNe v1000 (.int .i64 0) fun v1002 =>
xIf v1002 (K v1000 w1001) (xPEq P w1001 a3 (.pointer none) fun v1003 =>
xIf v1003 (K (.int .i64 1) w1001) (xAt a0 fun a1004 =>
XLd w1001 (a1004.add 4) fun v1005 =>
Ret P n_kids_Kids_Set [v1005, a2, a3] w1001 fun v1006 w1007 =>
K v1006 w1007))
theorem W_node_Node_SetKid {a0 a1 a2 a3 : Value} {K : Value → World → Prop} {w : World} (h : S_node_Node_SetKid a0 a1 a2 a3 K w) : Ret P n_node_Node_SetKid [a0, a1, a2, a3] w K :=
  vcF_of mixed Tryz.func93 (show S_node_Node_SetKid a0 a1 a2 a3 K w = vcF P Tryz.f93 [a0, a1, a2, a3] w K from by kernel_rfl) h
/- (*sync/atomic.Int64).Load -/
abbrev S_atomic_Int64_Load (a0 : Value) (K : Value → World → Prop) (w0 : World) : Prop :=
xAt a0 fun a1000 =>
xCall P 166 [(.pointer (some (a1000.add 0)))] w0 fun v1001 w1002 =>
K v1001 w1002
theorem W_atomic_Int64_Load {a0 : Value} {K : Value → World → Prop} {w : World} (h : S_atomic_Int64_Load a0 K w) : Ret P n_atomic_Int64_Load [a0] w K :=
  vcF_of mixed Tryz.func94 (show S_atomic_Int64_Load a0 K w = vcF P Tryz.f94 [a0] w K from by kernel_rfl) h
/- spunyarn/put.Put -/
abbrev S_put_Put (a0 : Value) (a1 : Value) (a2 : Value) (a3 : Value) (a4 : Value) (K : Value → World → Prop) (w0 : World) : Prop :=
xEq a3 (.int .u64 0) fun v1000 =>
xIf v1000 (K (.tuple #[(.pointer none), (.int .i64 1)]) w0) (Ret P n_keys_May [a1] w0 fun v1001 w1002 =>
xNe v1001 (.int .i64 0) fun v1003 =>
xIf v1003 (K (.tuple #[(.pointer none), v1001]) w1002) (Ret P n_find_Get [a0, a1] w1002 fun v1004 w1005 =>
xTup v1004 0 fun v1006 =>
xTup v1004 1 fun v1007 =>
/- 0 -/ XJ (fun J1008 =>
xIf v1007 (xEq v1006 a2 fun v1012 =>
J1008 [v1012] w1005) (J1008 [(.bool false)] w1005)) fun vs1009 g1010 w1011 =>
xIf (vs1009.getD 0 undef) (K (.tuple #[a0, (.int .i64 0)]) w1011) (xFill [(.int .u64 0), (.int .u64 0), (.pointer none)] [(0, 1, a2), (1, 1, a3), (2, 1, a4)] fun c1013 =>
Ret P n_put_putter_into [(.agg c1013.toArray), a0, a1] w1011 fun v1014 w1015 =>
K (.tuple #[v1014, (.int .i64 0)]) w1015)))
theorem W_put_Put {a0 a1 a2 a3 a4 : Value} {K : Value → World → Prop} {w : World} (h : S_put_Put a0 a1 a2 a3 a4 K w) : Ret P n_put_Put [a0, a1, a2, a3, a4] w K :=
  vcF_of mixed Tryz.func95 (show S_put_Put a0 a1 a2 a3 a4 K w = vcF P Tryz.f95 [a0, a1, a2, a3, a4] w K from by kernel_rfl) h
/- spunyarn/spunyarnref15.Put -/
abbrev S_ref15_Put (a0 : Value) (a1 : Value) (a2 : Value) (K : Value → World → Prop) (w0 : World) : Prop :=
XRun P (Builtin.append_ #[33, 33] 33 #[(.slice none 0 0), a0]) w0 fun v1000 w1001 =>
xFill [(.slice none 0 0), (.int .u64 0)] [(0, 1, a1), (1, 1, a2)] fun c1002 =>
xFill (repL [(.slice none 0 0), (.int .u64 0)] 1) [(0, 2, (.agg c1002.toArray))] fun c1003 =>
XNew w1001 c1003 86 fun a1004 w1005 =>
XRun P (Builtin.append_ #[33, 33] 33 #[v1000, (.slice (some a1004) 1 1)]) w1005 fun v1006 w1007 =>
Ret P n_ref13_Sort [v1006] w1007 fun v1008 w1009 =>
K v1008 w1009
theorem W_ref15_Put {a0 a1 a2 : Value} {K : Value → World → Prop} {w : World} (h : S_ref15_Put a0 a1 a2 K w) : Ret P n_ref15_Put [a0, a1, a2] w K :=
  vcF_of mixed Tryz.func96 (show S_ref15_Put a0 a1 a2 K w = vcF P Tryz.f96 [a0, a1, a2] w K from by kernel_rfl) h
/- spunyarn/spunyarnref16.Del -/
/- S_ref16_Del_l1: 0=slot 8 i 1=slot 7 was 2=slot 6 out -/
def S_ref16_Del_l1 (K : Value → World → Prop) (a0 : Value) (a1 : Value) (I1000 : Nat → List Value → World → Prop) (n1001 : Nat) (vs1002 : List Value) (g1003 : Nat → Value) (w1004 : World) : Prop :=
xLen a0 fun v1005 =>
xLt (vs1002.getD 0 undef) v1005 fun v1006 =>
xIf v1006 (/- 0 was 1 out -/ XJ (fun J1007 =>
xIxS a0 (vs1002.getD 0 undef) 2 fun v1011 =>
xFld v1011 0 fun v1012 =>
xAt v1012 fun a1013 =>
XLd w1004 a1013 fun v1014 =>
Ret P n_ref01_Same [v1014, a1] w1004 fun v1015 w1016 =>
xIf v1015 (J1007 [(.bool true), (vs1002.getD 2 undef)] w1016) (xIxS a0 (vs1002.getD 0 undef) 2 fun v1017 =>
xAt v1017 fun a1018 =>
XLdN w1016 a1018 2 fun v1019 =>
xFill (repL [(.slice none 0 0), (.int .u64 0)] 1) [(0, 2, v1019)] fun c1020 =>
XNew w1016 c1020 86 fun a1021 w1022 =>
XRun P (Builtin.append_ #[33, 33] 33 #[(vs1002.getD 2 undef), (.slice (some a1021) 1 1)]) w1022 fun v1023 w1024 =>
J1007 [(vs1002.getD 1 undef), v1023] w1024)) fun vs1008 g1009 w1010 =>
xAdd (vs1002.getD 0 undef) (.int .i64 1) fun v1025 =>
XNext I1000 n1001 [v1025, (vs1008.getD 0 undef), (vs1008.getD 1 undef)] w1010) (K (.tuple #[(vs1002.getD 2 undef), (vs1002.getD 1 undef)]) w1004)
abbrev S_ref16_Del (a0 : Value) (a1 : Value) (K : Value → World → Prop) (w0 : World) : Prop :=
XLoop [(.int .i64 0), (.bool false), (.slice none 0 0)] w0 (S_ref16_Del_l1 K a0 a1)
theorem W_ref16_Del {a0 a1 : Value} {K : Value → World → Prop} {w : World} (h : S_ref16_Del a0 a1 K w) : Ret P n_ref16_Del [a0, a1] w K :=
  vcF_of mixed Tryz.func97 (show S_ref16_Del a0 a1 K w = vcF P Tryz.f97 [a0, a1] w K from by kernel_rfl) h
/- spunyarn/spunyarnref14.Get -/
/- S_ref14_Get_l1: 0=slot 6 i 1=slot 4 2=slot 5 -/
def S_ref14_Get_l1 (K : Value → World → Prop) (a0 : Value) (a1 : Value) (I1000 : Nat → List Value → World → Prop) (n1001 : Nat) (vs1002 : List Value) (g1003 : Nat → Value) (w1004 : World) : Prop :=
xLen a0 fun v1005 =>
xLt (vs1002.getD 0 undef) v1005 fun v1006 =>
xIf v1006 (xIxS a0 (vs1002.getD 0 undef) 2 fun v1007 =>
xFld v1007 0 fun v1008 =>
xAt v1008 fun a1009 =>
XLd w1004 a1009 fun v1010 =>
Ret P n_ref01_Same [v1010, a1] w1004 fun v1011 w1012 =>
xIf v1011 (xIxS a0 (vs1002.getD 0 undef) 2 fun v1013 =>
xFld v1013 1 fun v1014 =>
xAt v1014 fun a1015 =>
XLd w1012 a1015 fun v1016 =>
K (.tuple #[v1016, (.bool true)]) w1012) (xAdd (vs1002.getD 0 undef) (.int .i64 1) fun v1017 =>
XNext I1000 n1001 [v1017, (vs1002.getD 1 undef), (vs1002.getD 2 undef)] w1012)) (K (.tuple #[(.int .u64 0), (.bool false)]) w1004)
abbrev S_ref14_Get (a0 : Value) (a1 : Value) (K : Value → World → Prop) (w0 : World) : Prop :=
XLoop [(.int .i64 0), (.int .u64 0), (.bool false)] w0 (S_ref14_Get_l1 K a0 a1)
theorem W_ref14_Get {a0 a1 : Value} {K : Value → World → Prop} {w : World} (h : S_ref14_Get a0 a1 K w) : Ret P n_ref14_Get [a0, a1] w K :=
  vcF_of mixed Tryz.func98 (show S_ref14_Get a0 a1 K w = vcF P Tryz.f98 [a0, a1] w K from by kernel_rfl) h
/- spunyarn/find.Has -/
abbrev S_find_Has (a0 : Value) (a1 : Value) (K : Value → World → Prop) (w0 : World) : Prop :=
Ret P n_find_Get [a0, a1] w0 fun v1000 w1001 =>
xTup v1000 0 fun v1002 =>
xTup v1000 1 fun v1003 =>
K v1003 w1001
theorem W_find_Has {a0 a1 : Value} {K : Value → World → Prop} {w : World} (h : S_find_Has a0 a1 K w) : Ret P n_find_Has [a0, a1] w K :=
  vcF_of mixed Tryz.func104 (show S_find_Has a0 a1 K w = vcF P Tryz.f104 [a0, a1] w K from by kernel_rfl) h
/- spunyarn/spunyarnref13.build -/
/- S_ref13_build_l1: 0=slot 8 j -/
def S_ref13_build_l1 (a0 : Value) (v1021 : Value) (a1029 : Addr) (I1048 : Nat → List Value → World → Prop) (n1049 : Nat) (vs1050 : List Value) (I1055 : Nat → List Value → World → Prop) (n1056 : Nat) (vs1057 : List Value) (g1058 : Nat → Value) (w1059 : World) : Prop :=
/- 0 -/ XJ (fun J1060 =>
xLen a0 fun v1064 =>
xLt (vs1057.getD 0 undef) v1064 fun v1065 =>
xIf v1065 (xIxS a0 (vs1057.getD 0 undef) 2 fun v1066 =>
xFld v1066 0 fun v1067 =>
xAt v1067 fun a1068 =>
XLd w1059.drew a1068 fun v1069 =>
xIxS v1069 v1021 1 fun v1070 =>
xAt v1070 fun a1071 =>
XLd w1059.drew a1071 fun v1072 =>
xIxS a0 (vs1050.getD 0 undef) 2 fun v1073 =>
xFld v1073 0 fun v1074 =>
xAt v1074 fun a1075 =>
XLd w1059.drew a1075 fun v1076 =>
xIxS v1076 v1021 1 fun v1077 =>
xAt v1077 fun a1078 =>
XLd w1059.drew a1078 fun v1079 =>
xEq v1072 v1079 fun v1080 =>
J1060 [v1080] (w1059.drew)) (J1060 [(.bool false)] (w1059.drew))) fun vs1061 g1062 w1063 =>
xIf (vs1061.getD 0 undef) (xAdd (vs1057.getD 0 undef) (.int .i64 1) fun v1081 =>
XNext I1055 n1056 [v1081] w1063) (XLd w1063.drew (a1029.add 4) fun v1082 =>
xIxS a0 (vs1050.getD 0 undef) 2 fun v1083 =>
xFld v1083 0 fun v1084 =>
xAt v1084 fun a1085 =>
XLd w1063.drew a1085 fun v1086 =>
xIxS v1086 v1021 1 fun v1087 =>
xAt v1087 fun a1088 =>
XLd w1063.drew a1088 fun v1089 =>
xFill (repL [(.int .u8 0)] 1) [(0, 1, v1089)] fun c1090 =>
XNew w1063.drew c1090 5 fun a1091 w1092 =>
xKeep1 w1092 (.pointer (some (a1029.add 4))) v1082 ∧ (XRun P (Builtin.append_ #[41, 41] 41 #[v1082, (.slice (some a1091) 1 1)]) w1092 fun v1093 w1094 =>
XSt w1094 (a1029.add 4) v1093 fun w1095 =>
XLd w1095.drew (a1029.add 5) fun v1096 =>
xCutS 2 a0 (some (vs1050.getD 0 undef)) (some (vs1057.getD 0 undef)) none fun v1097 =>
xAdd v1021 (.int .i64 1) fun v1098 =>
Ret P n_ref13_build [v1097, v1098] w1095.drew fun v1099 w1100 =>
xKeep1 w1100 (.pointer (some (a1029.add 5))) v1096 ∧ (xFill (repL [(.int .i64 0), (.slice none 0 0), (.bool false), (.int .u64 0), (.slice none 0 0), (.slice none 0 0)] 1) [(0, 6, v1099)] fun c1101 =>
XNew w1100 c1101 94 fun a1102 w1103 =>
xKeep1 w1103 (.pointer (some (a1029.add 5))) v1096 ∧ (XRun P (Builtin.append_ #[92, 92] 92 #[v1096, (.slice (some a1102) 1 1)]) w1103 fun v1104 w1105 =>
XSt w1105 (a1029.add 5) v1104 fun w1106 =>
XNext I1048 n1049 [(vs1057.getD 0 undef), (vs1057.getD 0 undef)] w1106))))
/- S_ref13_build_l2: 0=slot 7 i 1=slot 8 j -/
def S_ref13_build_l2 (K : Value → World → Prop) (a0 : Value) (a1000 : Addr) (v1021 : Value) (a1029 : Addr) (I1048 : Nat → List Value → World → Prop) (n1049 : Nat) (vs1050 : List Value) (g1051 : Nat → Value) (w1052 : World) : Prop :=
xLen a0 fun v1053 =>
xLt (vs1050.getD 0 undef) v1053 fun v1054 =>
xIf v1054 (XLoop [(vs1050.getD 0 undef)] w1052 (S_ref13_build_l1 a0 v1021 a1029 I1048 n1049 vs1050)) (XLd w1052 (a1029.add 5) fun v1107 =>
xLen v1107 fun v1108 =>
Ret P n_ref11_KindOf [v1108] w1052 fun v1109 w1110 =>
XSt w1110 (a1029.add 0) v1109 fun w1111 =>
XLdN w1111 a1029 6 fun v1112 =>
XDo P (storeVar 94 a1000 v1112) w1111 fun w1113 =>
XLdN w1113 a1000 6 fun v1114 =>
K v1114 w1113)
abbrev S_ref13_build (a0 : Value) (a1 : Value) (K : Value → World → Prop) (w0 : World) : Prop :=
XNew w0 [(.int .i64 0), (.slice none 0 0), (.bool false), (.int .u64 0), (.slice none 0 0), (.slice none 0 0)] 94 fun a1000 w1001 =>
xLen a0 fun v1002 =>
xEq v1002 (.int .i64 0) fun v1003 =>
xIf v1003 (xFill [(.int .i64 0), (.slice none 0 0), (.bool false), (.int .u64 0), (.slice none 0 0), (.slice none 0 0)] [] fun c1004 =>
XDo P (storeVar 94 a1000 (.agg c1004.toArray)) w1001 fun w1005 =>
XLdN w1005 a1000 6 fun v1006 =>
K v1006 w1005) (xLen a0 fun v1007 =>
xEq v1007 (.int .i64 1) fun v1008 =>
xIf v1008 (xIxS a0 (.int .i64 0) 2 fun v1009 =>
xFld v1009 0 fun v1010 =>
xAt v1010 fun a1011 =>
XLd w1001.drew a1011 fun v1012 =>
xCutS 1 v1012 (some a1) none none fun v1013 =>
xIxS a0 (.int .i64 0) 2 fun v1014 =>
xFld v1014 1 fun v1015 =>
xAt v1015 fun a1016 =>
XLd w1001.drew a1016 fun v1017 =>
xFill [(.int .i64 0), (.slice none 0 0), (.bool false), (.int .u64 0), (.slice none 0 0), (.slice none 0 0)] [(0, 1, (.int .i64 1)), (1, 1, v1013), (2, 1, (.bool true)), (3, 1, v1017)] fun c1018 =>
XDo P (storeVar 94 a1000 (.agg c1018.toArray)) w1001.drew fun w1019 =>
XLdN w1019 a1000 6 fun v1020 =>
K v1020 w1019) (Ret P n_ref13_shared [a0] w1001 fun v1021 w1022 =>
xIxS a0 (.int .i64 0) 2 fun v1023 =>
xFld v1023 0 fun v1024 =>
xAt v1024 fun a1025 =>
XLd w1022 a1025 fun v1026 =>
xCutS 1 v1026 (some a1) (some v1021) none fun v1027 =>
xFill [(.int .i64 0), (.slice none 0 0), (.bool false), (.int .u64 0), (.slice none 0 0), (.slice none 0 0)] [(1, 1, v1027)] fun c1028 =>
XNew w1022 [(.int .i64 0), (.slice none 0 0), (.bool false), (.int .u64 0), (.slice none 0 0), (.slice none 0 0)] 94 fun a1029 w1030 =>
XDo P (storeVar 94 a1029 (.agg c1028.toArray)) w1030 fun w1031 =>
/- 0 i -/ XJ (fun J1032 =>
xIxS a0 (.int .i64 0) 2 fun v1036 =>
xFld v1036 0 fun v1037 =>
xAt v1037 fun a1038 =>
XLd w1031 a1038 fun v1039 =>
xLen v1039 fun v1040 =>
xEq v1040 v1021 fun v1041 =>
xIf v1041 (xIxS a0 (.int .i64 0) 2 fun v1042 =>
xFld v1042 1 fun v1043 =>
xAt v1043 fun a1044 =>
XLd w1031.drew a1044 fun v1045 =>
XSt w1031.drew (a1029.add 2) (.bool true) fun w1046 =>
xKeep1 w1046 v1043 v1045 ∧ (XSt w1046 (a1029.add 3) v1045 fun w1047 =>
J1032 [(.int .i64 1)] w1047)) (J1032 [(.int .i64 0)] w1031)) fun vs1033 g1034 w1035 =>
XLoop [(vs1033.getD 0 undef), undef] w1035 (S_ref13_build_l2 K a0 a1000 v1021 a1029)))
theorem W_ref13_build {a0 a1 : Value} {K : Value → World → Prop} {w : World} (h : S_ref13_build a0 a1 K w) : Ret P n_ref13_build [a0, a1] w K :=
  vcF_of mixed Tryz.func106 (show S_ref13_build a0 a1 K w = vcF P Tryz.f106 [a0, a1] w K from by kernel_rfl) h
/- spunyarn/find.Get -/
/- S_find_Get_l1: 0=slot 4 1=slot 5 -/
def S_find_Get_l1 (K : Value → World → Prop) (a1001 : Addr) (I1003 : Nat → List Value → World → Prop) (n1004 : Nat) (vs1005 : List Value) (g1006 : Nat → Value) (w1007 : World) : Prop :=
Ret P n_find_walk_into [(.pointer (some a1001))] w1007 fun v1008 w1009 =>
xIf v1008 (Ret P n_find_walk_ends [(.pointer (some a1001))] w1009 fun v1010 w1011 =>
xIf v1010 (XLd w1011 (a1001.add 0) fun v1012 =>
Ret P n_node_Node_Val [v1012] w1011 fun v1013 w1014 =>
xTup v1013 0 fun v1015 =>
xTup v1013 1 fun v1016 =>
K (.tuple #[v1015, v1016]) w1014) (Ret P n_find_walk_down [(.pointer (some a1001))] w1011 fun v1017 w1018 =>
XNext I1003 n1004 [(vs1005.getD 0 undef), (vs1005.getD 1 undef)] w1018)) (K (.tuple #[(.int .u64 0), (.bool false)]) w1009)
abbrev S_find_Get (a0 : Value) (a1 : Value) (K : Value → World → Prop) (w0 : World) : Prop :=
xFill [(.pointer none), (.slice none 0 0), (.int .i64 0), (.int .i64 0)] [(0, 1, a0), (1, 1, a1)] fun c1000 =>
XNew w0 (cellsV (.agg c1000.toArray)) 258 fun a1001 w1002 =>
XLoop [(.int .u64 0), (.bool false)] w1002 (S_find_Get_l1 K a1001)
theorem W_find_Get {a0 a1 : Value} {K : Value → World → Prop} {w : World} (h : S_find_Get a0 a1 K w) : Ret P n_find_Get [a0, a1] w K :=
  vcF_of mixed Tryz.func109 (show S_find_Get a0 a1 K w = vcF P Tryz.f109 [a0, a1] w K from by kernel_rfl) h
/- spunyarn/canon.Count -/
abbrev S_canon_Count (a0 : Value) (K : Value → World → Prop) (w0 : World) : Prop :=
XNew w0 [(.int .i64 0)] 3 fun a1000 w1001 =>
XSt w1001 a1000 (.int .i64 0) fun w1002 =>
Ret P n_canon_each [a0, (.func (.func 176) #[] #[(.pointer (some a1000))])] w1002 fun v1003 w1004 =>
XLd w1004 a1000 fun v1005 =>
K v1005 w1004
theorem W_canon_Count {a0 : Value} {K : Value → World → Prop} {w : World} (h : S_canon_Count a0 K w) : Ret P n_canon_Count [a0] w K :=
  vcF_of mixed Tryz.func112 (show S_canon_Count a0 K w = vcF P Tryz.f112 [a0] w K from by kernel_rfl) h
/- spunyarn/canon.List -/
abbrev S_canon_List (a0 : Value) (K : Value → World → Prop) (w0 : World) : Prop :=
XNew w0 [(.slice none 0 0)] 76 fun a1000 w1001 =>
Ret P n_canon_each [a0, (.func (.func 177) #[] #[(.pointer (some a1000))])] w1001 fun v1002 w1003 =>
XLd w1003 a1000 fun v1004 =>
K v1004 w1003
theorem W_canon_List {a0 : Value} {K : Value → World → Prop} {w : World} (h : S_canon_List a0 K w) : Ret P n_canon_List [a0] w K :=
  vcF_of mixed Tryz.func113 (show S_canon_List a0 K w = vcF P Tryz.f113 [a0] w K from by kernel_rfl) h
end Go.Proofs.YthnegkjhciakpaaGreatDoor
