/-  Written by gen.py for this claim: of each function a form without frames, the same as the engine's condition by reckoning.  -/
import Derived.Test.YtbleadagnpckbaaGreatDoorSN
import Derived.Test.YtbleadagnpckbaaGreatDoorProg
namespace Go.Proofs.YtbleadagnpckbaaGreatDoor
open Go X
set_option linter.unusedVariables false
set_option maxRecDepth 100000
/- (*spunyarn/node.Node).Copy -/
abbrev S_node_Node_Copy (a0 : Value) (a1 : Value) (a2 : Value) (K : Value → World → Prop) (w0 : World) : Prop :=
xPEq P w0 a0 (.pointer none) fun v1000 =>
xIf v1000 (K (.pointer none) w0) (Ret P n_meter_Meter_Made [a1, (.int .i64 1)] w0 fun v1001 w1002 =>
xAt a0 fun a1003 =>
XLdN w1002 a1003 5 fun v1004 =>
XNew w1002 [(.int .u64 0), (.slice none 0 0), (.int .u64 0), (.bool false), (.pointer none)] 231 fun a1005 w1006 =>
XDo P (storeVar 231 a1005 v1004) w1006 fun w1007 =>
XSt w1007 (a1005.add 0) a2 fun w1008 =>
xAt a0 fun a1009 =>
XLd w1008 (a1009.add 4) fun v1010 =>
Ret P n_kids_Kids_Copy [v1010] w1008 fun v1011 w1012 =>
XSt w1012 (a1005.add 4) v1011 fun w1013 =>
K (.pointer (some a1005)) w1013)
theorem W_node_Node_Copy {a0 a1 a2 : Value} {K : Value → World → Prop} {w : World} (h : S_node_Node_Copy a0 a1 a2 K w) : Ret P n_node_Node_Copy [a0, a1, a2] w K :=
  vcF_of mixed Tryz.func133 (show S_node_Node_Copy a0 a1 a2 K w = vcF P Tryz.f133 [a0, a1, a2] w K from by kernel_rfl) h
/- (*spunyarn/node.Node).SetPart -/
abbrev S_node_Node_SetPart (a0 : Value) (a1 : Value) (a2 : Value) (K : Value → World → Prop) (w0 : World) : Prop :=
Ret P n_node_Node_may [a0, a1] w0 fun v1000 w1001 =>
/-  -/ XJ (fun J1002 =>
xEq v1000 (.int .i64 0) fun v1006 =>
xIf v1006 (Ret P n_bytes_Clone [a2] w1001 fun v1007 w1008 =>
xAt a0 fun a1009 =>
XSt w1008 (a1009.add 1) v1007 fun w1010 =>
J1002 [] w1010) (J1002 [] w1001)) fun vs1003 g1004 w1005 =>
K v1000 w1005
theorem W_node_Node_SetPart {a0 a1 a2 : Value} {K : Value → World → Prop} {w : World} (h : S_node_Node_SetPart a0 a1 a2 K w) : Ret P n_node_Node_SetPart [a0, a1, a2] w K :=
  vcF_of mixed Tryz.func134 (show S_node_Node_SetPart a0 a1 a2 K w = vcF P Tryz.f134 [a0, a1, a2] w K from by kernel_rfl) h
/- spunyarn/del.join -/
abbrev S_del_join (a0 : Value) (K : Value → World → Prop) (w0 : World) : Prop :=
Ret P n_slices_Concat_byte [a0] w0 fun v1000 w1001 =>
K v1000 w1001
theorem W_del_join {a0 : Value} {K : Value → World → Prop} {w : World} (h : S_del_join a0 K w) : Ret P n_del_join [a0] w K :=
  vcF_of mixed Tryz.func135 (show S_del_join a0 K w = vcF P Tryz.f135 [a0] w K from by kernel_rfl) h
/- spunyarn/node.Inner -/
abbrev S_node_Inner (a0 : Value) (a1 : Value) (a2 : Value) (K : Value → World → Prop) (w0 : World) : Prop :=
Ret P n_meter_Meter_Made [a0, (.int .i64 1)] w0 fun v1000 w1001 =>
Ret P n_bytes_Clone [a2] w1001 fun v1002 w1003 =>
Ret P n_kids_New_Node [] w1003 fun v1004 w1005 =>
xFill [(.int .u64 0), (.slice none 0 0), (.int .u64 0), (.bool false), (.pointer none)] [(0, 1, a1), (1, 1, v1002), (4, 1, v1004)] fun c1006 =>
XNew w1005 (cellsV (.agg c1006.toArray)) 231 fun a1007 w1008 =>
K (.pointer (some a1007)) w1008
theorem W_node_Inner {a0 a1 a2 : Value} {K : Value → World → Prop} {w : World} (h : S_node_Inner a0 a1 a2 K w) : Ret P n_node_Inner [a0, a1, a2] w K :=
  vcF_of mixed Tryz.func136 (show S_node_Inner a0 a1 a2 K w = vcF P Tryz.f136 [a0, a1, a2] w K from by kernel_rfl) h
/- (*spunyarn/node.Node).SetVal -/
abbrev S_node_Node_SetVal (a0 : Value) (a1 : Value) (a2 : Value) (K : Value → World → Prop) (w0 : World) : Prop :=
Ret P n_node_Node_may [a0, a1] w0 fun v1000 w1001 =>
/-  -/ XJ (fun J1002 =>
xEq v1000 (.int .i64 0) fun v1006 =>
xIf v1006 (xAt a0 fun a1007 =>
XSt w1001 (a1007.add 2) a2 fun w1008 =>
xAt a0 fun a1009 =>
XSt w1008 (a1009.add 3) (.bool true) fun w1010 =>
J1002 [] w1010) (J1002 [] w1001)) fun vs1003 g1004 w1005 =>
K v1000 w1005
theorem W_node_Node_SetVal {a0 a1 a2 : Value} {K : Value → World → Prop} {w : World} (h : S_node_Node_SetVal a0 a1 a2 K w) : Ret P n_node_Node_SetVal [a0, a1, a2] w K :=
  vcF_of mixed Tryz.func137 (show S_node_Node_SetVal a0 a1 a2 K w = vcF P Tryz.f137 [a0, a1, a2] w K from by kernel_rfl) h
/- (*spunyarn/node.Node).SetKid -/
abbrev S_node_Node_SetKid (a0 : Value) (a1 : Value) (a2 : Value) (a3 : Value) (K : Value → World → Prop) (w0 : World) : Prop :=
Ret P n_node_Node_inner [a0, a1] w0 fun v1000 w1001 =>
xNe v1000 (.int .i64 0) fun v1002 =>
xIf v1002 (K v1000 w1001) (xPEq P w1001 a3 (.pointer none) fun v1003 =>
xIf v1003 (K (.int .i64 1) w1001) (xAt a0 fun a1004 =>
XLd w1001 (a1004.add 4) fun v1005 =>
Ret P n_kids_Kids_Set [v1005, a2, a3] w1001 fun v1006 w1007 =>
K v1006 w1007))
theorem W_node_Node_SetKid {a0 a1 a2 a3 : Value} {K : Value → World → Prop} {w : World} (h : S_node_Node_SetKid a0 a1 a2 a3 K w) : Ret P n_node_Node_SetKid [a0, a1, a2, a3] w K :=
  vcF_of mixed Tryz.func138 (show S_node_Node_SetKid a0 a1 a2 a3 K w = vcF P Tryz.f138 [a0, a1, a2, a3] w K from by kernel_rfl) h
/- spunyarn/spunyarnref15.Put -/
abbrev S_ref15_Put (a0 : Value) (a1 : Value) (a2 : Value) (K : Value → World → Prop) (w0 : World) : Prop :=
XRun P (Builtin.append_ #[33, 33] 33 #[(.slice none 0 0), a0]) w0 fun v1000 w1001 =>
xFill [(.slice none 0 0), (.int .u64 0)] [(0, 1, a1), (1, 1, a2)] fun c1002 =>
xFill (repL [(.slice none 0 0), (.int .u64 0)] 1) [(0, 2, (.agg c1002.toArray))] fun c1003 =>
XNew w1001 c1003 52 fun a1004 w1005 =>
XRun P (Builtin.append_ #[33, 33] 33 #[v1000, (.slice (some a1004) 1 1)]) w1005 fun v1006 w1007 =>
Ret P n_ref13_Sort [v1006] w1007 fun v1008 w1009 =>
K v1008 w1009
theorem W_ref15_Put {a0 a1 a2 : Value} {K : Value → World → Prop} {w : World} (h : S_ref15_Put a0 a1 a2 K w) : Ret P n_ref15_Put [a0, a1, a2] w K :=
  vcF_of mixed Tryz.func139 (show S_ref15_Put a0 a1 a2 K w = vcF P Tryz.f139 [a0, a1, a2] w K from by kernel_rfl) h
/- spunyarn/canon.Count -/
abbrev S_canon_Count (a0 : Value) (K : Value → World → Prop) (w0 : World) : Prop :=
XNew w0 [(.int .i64 0)] 3 fun a1000 w1001 =>
XSt w1001 a1000 (.int .i64 0) fun w1002 =>
Ret P n_canon_each [a0, (.func (.func 214) #[] #[(.pointer (some a1000))])] w1002 fun v1003 w1004 =>
XLd w1004 a1000 fun v1005 =>
K v1005 w1004
theorem W_canon_Count {a0 : Value} {K : Value → World → Prop} {w : World} (h : S_canon_Count a0 K w) : Ret P n_canon_Count [a0] w K :=
  vcF_of mixed Tryz.func143 (show S_canon_Count a0 K w = vcF P Tryz.f143 [a0] w K from by kernel_rfl) h
/- spunyarn/keys.Cmp -/
abbrev S_keys_Cmp (a0 : Value) (a1 : Value) (K : Value → World → Prop) (w0 : World) : Prop :=
Ret P n_bytes_Compare [a0, a1] w0 fun v1000 w1001 =>
K v1000 w1001
theorem W_keys_Cmp {a0 a1 : Value} {K : Value → World → Prop} {w : World} (h : S_keys_Cmp a0 a1 K w) : Ret P n_keys_Cmp [a0, a1] w K :=
  vcF_of mixed Tryz.func152 (show S_keys_Cmp a0 a1 K w = vcF P Tryz.f152 [a0, a1] w K from by kernel_rfl) h
/- spunyarn/keys.Same -/
abbrev S_keys_Same (a0 : Value) (a1 : Value) (K : Value → World → Prop) (w0 : World) : Prop :=
Ret P n_bytes_Equal [a0, a1] w0 fun v1000 w1001 =>
K v1000 w1001
theorem W_keys_Same {a0 a1 : Value} {K : Value → World → Prop} {w : World} (h : S_keys_Same a0 a1 K w) : Ret P n_keys_Same [a0, a1] w K :=
  vcF_of mixed Tryz.func153 (show S_keys_Same a0 a1 K w = vcF P Tryz.f153 [a0, a1] w K from by kernel_rfl) h
/- bytes.Clone -/
abbrev S_bytes_Clone (a0 : Value) (K : Value → World → Prop) (w0 : World) : Prop :=
xLEq a0 (.slice none 0 0) fun v1000 =>
xIf v1000 (K (.slice none 0 0) w0) (xFill (repL [(.int .u8 0)] 0) [] fun c1001 =>
XNew w0 c1001 5 fun a1002 w1003 =>
XRun P (Builtin.append_ #[50, 50] 50 #[(.slice (some a1002) 0 0), a0]) w1003 fun v1004 w1005 =>
K v1004 w1005)
theorem W_bytes_Clone {a0 : Value} {K : Value → World → Prop} {w : World} (h : S_bytes_Clone a0 K w) : Ret P n_bytes_Clone [a0] w K :=
  vcF_of mixed Tryz.func154 (show S_bytes_Clone a0 K w = vcF P Tryz.f154 [a0] w K from by kernel_rfl) h
/- spunyarn/canon.List -/
abbrev S_canon_List (a0 : Value) (K : Value → World → Prop) (w0 : World) : Prop :=
XNew w0 [(.slice none 0 0)] 93 fun a1000 w1001 =>
Ret P n_canon_each [a0, (.func (.func 219) #[] #[(.pointer (some a1000))])] w1001 fun v1002 w1003 =>
XLd w1003 a1000 fun v1004 =>
K v1004 w1003
theorem W_canon_List {a0 : Value} {K : Value → World → Prop} {w : World} (h : S_canon_List a0 K w) : Ret P n_canon_List [a0] w K :=
  vcF_of mixed Tryz.func155 (show S_canon_List a0 K w = vcF P Tryz.f155 [a0] w K from by kernel_rfl) h
/- spunyarn/spunyarnref01.Text -/
/- S_ref01_Text_l1: 0=slot 4 i 1=slot 3 s -/
def S_ref01_Text_l1 (K : Value → World → Prop) (a0 : Value) (I1000 : Nat → List Value → World → Prop) (n1001 : Nat) (vs1002 : List Value) (g1003 : Nat → Value) (w1004 : World) : Prop :=
xLen a0 fun v1005 =>
xLt (vs1002.getD 0 undef) v1005 fun v1006 =>
xIf v1006 (xIxS a0 (vs1002.getD 0 undef) 1 fun v1007 =>
xAt v1007 fun a1008 =>
XLd w1004 a1008 fun v1009 =>
Ret P n_ref01_digits [v1009] w1004 fun v1010 w1011 =>
xSCat (vs1002.getD 1 undef) v1010 fun v1012 =>
xAdd (vs1002.getD 0 undef) (.int .i64 1) fun v1013 =>
XNext I1000 n1001 [v1013, v1012] w1011) (K (vs1002.getD 1 undef) w1004)
abbrev S_ref01_Text (a0 : Value) (K : Value → World → Prop) (w0 : World) : Prop :=
XLoop [(.int .i64 0), (.string ⟨#[]⟩)] w0 (S_ref01_Text_l1 K a0)
theorem W_ref01_Text {a0 : Value} {K : Value → World → Prop} {w : World} (h : S_ref01_Text a0 K w) : Ret P n_ref01_Text [a0] w K :=
  vcF_of mixed Tryz.func156 (show S_ref01_Text a0 K w = vcF P Tryz.f156 [a0] w K from by kernel_rfl) h
/- spunyarn/spunyarnref13.Digits -/
/- S_ref13_Digits_l1: 0=slot 0 n 1=slot 4 d 2=slot 3 s 3=slot 2 -/
def S_ref13_Digits_l1 (K : Value → World → Prop) (I1000 : Nat → List Value → World → Prop) (n1001 : Nat) (vs1002 : List Value) (g1003 : Nat → Value) (w1004 : World) : Prop :=
xRem (vs1002.getD 0 undef) (.int .u64 10) fun v1005 =>
xConv .i64 v1005 fun v1006 =>
xAdd v1006 (.int .i64 1) fun v1007 =>
xCutStr (.string ⟨#[48, 49, 50, 51, 52, 53, 54, 55, 56, 57]⟩) (some v1006) (some v1007) fun v1008 =>
xSCat v1008 (vs1002.getD 2 undef) fun v1009 =>
xQuo (vs1002.getD 0 undef) (.int .u64 10) fun v1010 =>
xEq v1010 (.int .u64 0) fun v1011 =>
xIf v1011 (K v1009 w1004) (XNext I1000 n1001 [v1010, v1006, v1009, (vs1002.getD 3 undef)] w1004)
abbrev S_ref13_Digits (a0 : Value) (K : Value → World → Prop) (w0 : World) : Prop :=
XLoop [a0, undef, (.string ⟨#[]⟩), (.string ⟨#[]⟩)] w0 (S_ref13_Digits_l1 K)
theorem W_ref13_Digits {a0 : Value} {K : Value → World → Prop} {w : World} (h : S_ref13_Digits a0 K w) : Ret P n_ref13_Digits [a0] w K :=
  vcF_of mixed Tryz.func157 (show S_ref13_Digits a0 K w = vcF P Tryz.f157 [a0] w K from by kernel_rfl) h
/- spunyarn/spunyarnref13.build -/
/- S_ref13_build_l1: 0=slot 8 j -/
def S_ref13_build_l1 (a0 : Value) (v1021 : Value) (a1029 : Addr) (I1048 : Nat → List Value → World → Prop) (n1049 : Nat) (vs1050 : List Value) (I1055 : Nat → List Value → World → Prop) (n1056 : Nat) (vs1057 : List Value) (g1058 : Nat → Value) (w1059 : World) : Prop :=
/- 0 -/ XJ (fun J1060 =>
xLen a0 fun v1064 =>
xLt (vs1057.getD 0 undef) v1064 fun v1065 =>
xIf v1065 (xIxS a0 (vs1057.getD 0 undef) 2 fun v1066 =>
xFld v1066 0 fun v1067 =>
xAt v1067 fun a1068 =>
XLd w1059.drew a1068 fun v1069 =>
xIxS v1069 v1021 1 fun v1070 =>
xAt v1070 fun a1071 =>
XLd w1059.drew a1071 fun v1072 =>
xIxS a0 (vs1050.getD 0 undef) 2 fun v1073 =>
xFld v1073 0 fun v1074 =>
xAt v1074 fun a1075 =>
XLd w1059.drew a1075 fun v1076 =>
xIxS v1076 v1021 1 fun v1077 =>
xAt v1077 fun a1078 =>
XLd w1059.drew a1078 fun v1079 =>
xEq v1072 v1079 fun v1080 =>
J1060 [v1080] (w1059.drew)) (J1060 [(.bool false)] (w1059.drew))) fun vs1061 g1062 w1063 =>
xIf (vs1061.getD 0 undef) (xAdd (vs1057.getD 0 undef) (.int .i64 1) fun v1081 =>
XNext I1055 n1056 [v1081] w1063) (XLd w1063.drew (a1029.add 4) fun v1082 =>
xIxS a0 (vs1050.getD 0 undef) 2 fun v1083 =>
xFld v1083 0 fun v1084 =>
xAt v1084 fun a1085 =>
XLd w1063.drew a1085 fun v1086 =>
xIxS v1086 v1021 1 fun v1087 =>
xAt v1087 fun a1088 =>
XLd w1063.drew a1088 fun v1089 =>
xFill (repL [(.int .u8 0)] 1) [(0, 1, v1089)] fun c1090 =>
XNew w1063.drew c1090 5 fun a1091 w1092 =>
xKeep1 w1092 (.pointer (some (a1029.add 4))) v1082 ∧ (XRun P (Builtin.append_ #[50, 50] 50 #[v1082, (.slice (some a1091) 1 1)]) w1092 fun v1093 w1094 =>
XSt w1094 (a1029.add 4) v1093 fun w1095 =>
XLd w1095.drew (a1029.add 5) fun v1096 =>
xCutS 2 a0 (some (vs1050.getD 0 undef)) (some (vs1057.getD 0 undef)) none fun v1097 =>
xAdd v1021 (.int .i64 1) fun v1098 =>
Ret P n_ref13_build [v1097, v1098] w1095.drew fun v1099 w1100 =>
xKeep1 w1100 (.pointer (some (a1029.add 5))) v1096 ∧ (xFill (repL [(.int .i64 0), (.slice none 0 0), (.bool false), (.int .u64 0), (.slice none 0 0), (.slice none 0 0)] 1) [(0, 6, v1099)] fun c1101 =>
XNew w1100 c1101 120 fun a1102 w1103 =>
xKeep1 w1103 (.pointer (some (a1029.add 5))) v1096 ∧ (XRun P (Builtin.append_ #[118, 118] 118 #[v1096, (.slice (some a1102) 1 1)]) w1103 fun v1104 w1105 =>
XSt w1105 (a1029.add 5) v1104 fun w1106 =>
XNext I1048 n1049 [(vs1057.getD 0 undef), (vs1057.getD 0 undef)] w1106))))
/- S_ref13_build_l2: 0=slot 7 i 1=slot 8 j -/
def S_ref13_build_l2 (K : Value → World → Prop) (a0 : Value) (a1000 : Addr) (v1021 : Value) (a1029 : Addr) (I1048 : Nat → List Value → World → Prop) (n1049 : Nat) (vs1050 : List Value) (g1051 : Nat → Value) (w1052 : World) : Prop :=
xLen a0 fun v1053 =>
xLt (vs1050.getD 0 undef) v1053 fun v1054 =>
xIf v1054 (XLoop [(vs1050.getD 0 undef)] w1052 (S_ref13_build_l1 a0 v1021 a1029 I1048 n1049 vs1050)) (XLd w1052 (a1029.add 5) fun v1107 =>
xLen v1107 fun v1108 =>
Ret P n_ref11_KindOf [v1108] w1052 fun v1109 w1110 =>
XSt w1110 (a1029.add 0) v1109 fun w1111 =>
XLdN w1111 a1029 6 fun v1112 =>
XDo P (storeVar 120 a1000 v1112) w1111 fun w1113 =>
XLdN w1113 a1000 6 fun v1114 =>
K v1114 w1113)
abbrev S_ref13_build (a0 : Value) (a1 : Value) (K : Value → World → Prop) (w0 : World) : Prop :=
XNew w0 [(.int .i64 0), (.slice none 0 0), (.bool false), (.int .u64 0), (.slice none 0 0), (.slice none 0 0)] 120 fun a1000 w1001 =>
xLen a0 fun v1002 =>
xEq v1002 (.int .i64 0) fun v1003 =>
xIf v1003 (xFill [(.int .i64 0), (.slice none 0 0), (.bool false), (.int .u64 0), (.slice none 0 0), (.slice none 0 0)] [] fun c1004 =>
XDo P (storeVar 120 a1000 (.agg c1004.toArray)) w1001 fun w1005 =>
XLdN w1005 a1000 6 fun v1006 =>
K v1006 w1005) (xLen a0 fun v1007 =>
xEq v1007 (.int .i64 1) fun v1008 =>
xIf v1008 (xIxS a0 (.int .i64 0) 2 fun v1009 =>
xFld v1009 0 fun v1010 =>
xAt v1010 fun a1011 =>
XLd w1001.drew a1011 fun v1012 =>
xCutS 1 v1012 (some a1) none none fun v1013 =>
xIxS a0 (.int .i64 0) 2 fun v1014 =>
xFld v1014 1 fun v1015 =>
xAt v1015 fun a1016 =>
XLd w1001.drew a1016 fun v1017 =>
xFill [(.int .i64 0), (.slice none 0 0), (.bool false), (.int .u64 0), (.slice none 0 0), (.slice none 0 0)] [(0, 1, (.int .i64 1)), (1, 1, v1013), (2, 1, (.bool true)), (3, 1, v1017)] fun c1018 =>
XDo P (storeVar 120 a1000 (.agg c1018.toArray)) w1001.drew fun w1019 =>
XLdN w1019 a1000 6 fun v1020 =>
K v1020 w1019) (Ret P n_ref13_shared [a0] w1001 fun v1021 w1022 =>
xIxS a0 (.int .i64 0) 2 fun v1023 =>
xFld v1023 0 fun v1024 =>
xAt v1024 fun a1025 =>
XLd w1022 a1025 fun v1026 =>
xCutS 1 v1026 (some a1) (some v1021) none fun v1027 =>
xFill [(.int .i64 0), (.slice none 0 0), (.bool false), (.int .u64 0), (.slice none 0 0), (.slice none 0 0)] [(1, 1, v1027)] fun c1028 =>
XNew w1022 [(.int .i64 0), (.slice none 0 0), (.bool false), (.int .u64 0), (.slice none 0 0), (.slice none 0 0)] 120 fun a1029 w1030 =>
XDo P (storeVar 120 a1029 (.agg c1028.toArray)) w1030 fun w1031 =>
/- 0 i -/ XJ (fun J1032 =>
xIxS a0 (.int .i64 0) 2 fun v1036 =>
xFld v1036 0 fun v1037 =>
xAt v1037 fun a1038 =>
XLd w1031 a1038 fun v1039 =>
xLen v1039 fun v1040 =>
xEq v1040 v1021 fun v1041 =>
xIf v1041 (xIxS a0 (.int .i64 0) 2 fun v1042 =>
xFld v1042 1 fun v1043 =>
xAt v1043 fun a1044 =>
XLd w1031.drew a1044 fun v1045 =>
XSt w1031.drew (a1029.add 2) (.bool true) fun w1046 =>
xKeep1 w1046 v1043 v1045 ∧ (XSt w1046 (a1029.add 3) v1045 fun w1047 =>
J1032 [(.int .i64 1)] w1047)) (J1032 [(.int .i64 0)] w1031)) fun vs1033 g1034 w1035 =>
XLoop [(vs1033.getD 0 undef), undef] w1035 (S_ref13_build_l2 K a0 a1000 v1021 a1029)))
theorem W_ref13_build {a0 a1 : Value} {K : Value → World → Prop} {w : World} (h : S_ref13_build a0 a1 K w) : Ret P n_ref13_build [a0, a1] w K :=
  vcF_of mixed Tryz.func158 (show S_ref13_build a0 a1 K w = vcF P Tryz.f158 [a0, a1] w K from by kernel_rfl) h
/- spunyarn/sub.Sub -/
abbrev S_sub_Sub (a0 : Value) (a1 : Value) (a2 : Value) (a3 : Value) (K : Value → World → Prop) (w0 : World) : Prop :=
xEq a2 (.int .u64 0) fun v1000 =>
xIf v1000 (K (.tuple #[(.pointer none), (.int .i64 1)]) w0) (Ret P n_sub_seek [a0, a1] w0 fun v1001 w1002 =>
XNew w1002 [(.pointer none), (.slice none 0 0)] 287 fun a1003 w1004 =>
XDo P (storeVar 287 a1003 v1001) w1004 fun w1005 =>
XLd w1005.drew (a1003.add 0) fun v1006 =>
XLd w1005.drew (a1003.add 1) fun v1007 =>
XLd w1005.drew (a1003.add 0) fun v1008 =>
Ret P n_node_Node_Part [v1008] w1005.drew fun v1009 w1010 =>
xKeep1 w1010 (.pointer (some (a1003.add 1))) v1007 ∧ (xKeep1 w1010 (.pointer (some (a1003.add 0))) v1006 ∧ (XRun P (Builtin.append_ #[50, 50] 50 #[v1007, v1009]) w1010 fun v1011 w1012 =>
xKeep1 w1012 (.pointer (some (a1003.add 0))) v1006 ∧ (Ret P n_sub_with [v1006, v1011, a2, a3] w1012 fun v1013 w1014 =>
K (.tuple #[v1013, (.int .i64 0)]) w1014))))
theorem W_sub_Sub {a0 a1 a2 a3 : Value} {K : Value → World → Prop} {w : World} (h : S_sub_Sub a0 a1 a2 a3 K w) : Ret P n_sub_Sub [a0, a1, a2, a3] w K :=
  vcF_of mixed Tryz.func159 (show S_sub_Sub a0 a1 a2 a3 K w = vcF P Tryz.f159 [a0, a1, a2, a3] w K from by kernel_rfl) h
/- spunyarn/sub.Strip -/
abbrev S_sub_Strip (a0 : Value) (a1 : Value) (a2 : Value) (a3 : Value) (K : Value → World → Prop) (w0 : World) : Prop :=
xEq a2 (.int .u64 0) fun v1000 =>
xIf v1000 (K (.tuple #[(.pointer none), (.int .i64 1)]) w0) (Ret P n_sub_seek [a0, a1] w0 fun v1001 w1002 =>
XNew w1002 [(.pointer none), (.slice none 0 0)] 287 fun a1003 w1004 =>
XDo P (storeVar 287 a1003 v1001) w1004 fun w1005 =>
XLd w1005 (a1003.add 0) fun v1006 =>
xPEq P w1005 v1006 (.pointer none) fun v1007 =>
xIf v1007 (K (.tuple #[(.pointer none), (.int .i64 0)]) w1005) (XLd w1005.drew (a1003.add 0) fun v1008 =>
XLd w1005.drew (a1003.add 0) fun v1009 =>
xLen a1 fun v1010 =>
XLd w1005.drew (a1003.add 1) fun v1011 =>
xLen v1011 fun v1012 =>
xSub v1010 v1012 fun v1013 =>
Ret P n_node_Node_Part [v1009] w1005.drew fun v1014 w1015 =>
xKeep1 w1015 (.pointer (some (a1003.add 1))) v1011 ∧ (xKeep1 w1015 (.pointer (some (a1003.add 0))) v1008 ∧ (xCutS 1 v1014 (some v1013) none none fun v1016 =>
Ret P n_sub_with [v1008, v1016, a2, a3] w1015 fun v1017 w1018 =>
K (.tuple #[v1017, (.int .i64 0)]) w1018))))
theorem W_sub_Strip {a0 a1 a2 a3 : Value} {K : Value → World → Prop} {w : World} (h : S_sub_Strip a0 a1 a2 a3 K w) : Ret P n_sub_Strip [a0, a1, a2, a3] w K :=
  vcF_of mixed Tryz.func164 (show S_sub_Strip a0 a1 a2 a3 K w = vcF P Tryz.f164 [a0, a1, a2, a3] w K from by kernel_rfl) h
/- spunyarn/sub.Under -/
abbrev S_sub_Under (a0 : Value) (a1 : Value) (a2 : Value) (a3 : Value) (K : Value → World → Prop) (w0 : World) : Prop :=
xEq a2 (.int .u64 0) fun v1000 =>
xIf v1000 (K (.tuple #[(.pointer none), (.int .i64 1)]) w0) (xPEq P w0 a0 (.pointer none) fun v1001 =>
xIf v1001 (K (.tuple #[(.pointer none), (.int .i64 0)]) w0) (xLen a1 fun v1002 =>
Ret P n_sub_Longest [a0] w0 fun v1003 w1004 =>
xSub (.int .i64 65535) v1003 fun v1005 =>
xGt v1002 v1005 fun v1006 =>
xIf v1006 (K (.tuple #[(.pointer none), (.int .i64 8)]) w1004) (xLen a1 fun v1007 =>
xLen a1 fun v1008 =>
xCutS 1 a1 none (some v1007) (some v1008) fun v1009 =>
Ret P n_node_Node_Part [a0] w1004.drew fun v1010 w1011 =>
XRun P (Builtin.append_ #[50, 50] 50 #[v1009, v1010]) w1011 fun v1012 w1013 =>
Ret P n_sub_with [a0, v1012, a2, a3] w1013 fun v1014 w1015 =>
K (.tuple #[v1014, (.int .i64 0)]) w1015)))
theorem W_sub_Under {a0 a1 a2 a3 : Value} {K : Value → World → Prop} {w : World} (h : S_sub_Under a0 a1 a2 a3 K w) : Ret P n_sub_Under [a0, a1, a2, a3] w K :=
  vcF_of mixed Tryz.func165 (show S_sub_Under a0 a1 a2 a3 K w = vcF P Tryz.f165 [a0, a1, a2, a3] w K from by kernel_rfl) h
/- spunyarn/spunyarnref13.Check -/
/- S_ref13_Check_l1: 0=slot 3 i 1=slot 2 -/
def S_ref13_Check_l1 (K : Value → World → Prop) (a0 : Value) (I1000 : Nat → List Value → World → Prop) (n1001 : Nat) (vs1002 : List Value) (g1003 : Nat → Value) (w1004 : World) : Prop :=
xLen a0 fun v1005 =>
xLt (vs1002.getD 0 undef) v1005 fun v1006 =>
xIf v1006 (xIxS a0 (vs1002.getD 0 undef) 2 fun v1007 =>
xFld v1007 0 fun v1008 =>
xAt v1008 fun a1009 =>
XLd w1004 a1009 fun v1010 =>
xLen v1010 fun v1011 =>
xGt v1011 (.int .i64 65535) fun v1012 =>
xIf v1012 (K (.int .i64 8) w1004) (xAdd (vs1002.getD 0 undef) (.int .i64 1) fun v1013 =>
XNext I1000 n1001 [v1013, (vs1002.getD 1 undef)] w1004)) (Ret P n_ref01_Sorted [a0] w1004 fun v1014 w1015 =>
xNot v1014 fun v1016 =>
xIf v1016 (K (.int .i64 12) w1015) (K (.int .i64 0) w1015))
abbrev S_ref13_Check (a0 : Value) (K : Value → World → Prop) (w0 : World) : Prop :=
XLoop [(.int .i64 0), (.int .i64 0)] w0 (S_ref13_Check_l1 K a0)
theorem W_ref13_Check {a0 : Value} {K : Value → World → Prop} {w : World} (h : S_ref13_Check a0 K w) : Ret P n_ref13_Check [a0] w K :=
  vcF_of mixed Tryz.func166 (show S_ref13_Check a0 K w = vcF P Tryz.f166 [a0] w K from by kernel_rfl) h
/- spunyarn/keys.Common -/
/- S_keys_Common_l1: 0=slot 11 1=slot 5 i 2=slot 4 -/
def S_keys_Common_l1 (K : Value → World → Prop) (a0 : Value) (a1 : Value) (v1002 : Value) (I1003 : Nat → List Value → World → Prop) (n1004 : Nat) (vs1005 : List Value) (g1006 : Nat → Value) (w1007 : World) : Prop :=
xLt (vs1005.getD 0 undef) v1002 fun v1008 =>
xIf v1008 (xIxS a0 (vs1005.getD 0 undef) 1 fun v1009 =>
xAt v1009 fun a1010 =>
XLd w1007.drew a1010 fun v1011 =>
xIxS a1 (vs1005.getD 0 undef) 1 fun v1012 =>
xAt v1012 fun a1013 =>
XLd w1007.drew a1013 fun v1014 =>
xNe v1011 v1014 fun v1015 =>
xIf v1015 (K (vs1005.getD 0 undef) (w1007.drew)) (xAdd (vs1005.getD 0 undef) (.int .i64 1) fun v1016 =>
XNext I1003 n1004 [v1016, (vs1005.getD 0 undef), (vs1005.getD 2 undef)] (w1007.drew))) (xLen a0 fun v1017 =>
xLen a1 fun v1018 =>
xMin v1017 v1018 fun v1019 =>
K v1019 w1007)
abbrev S_keys_Common (a0 : Value) (a1 : Value) (K : Value → World → Prop) (w0 : World) : Prop :=
xLen a0 fun v1000 =>
xLen a1 fun v1001 =>
xMin v1000 v1001 fun v1002 =>
XLoop [(.int .i64 0), undef, (.int .i64 0)] w0 (S_keys_Common_l1 K a0 a1 v1002)
theorem W_keys_Common {a0 a1 : Value} {K : Value → World → Prop} {w : World} (h : S_keys_Common a0 a1 K w) : Ret P n_keys_Common [a0, a1] w K :=
  vcF_of mixed Tryz.func177 (show S_keys_Common a0 a1 K w = vcF P Tryz.f177 [a0, a1] w K from by kernel_rfl) h
/- spunyarn/canon.check -/
/- S_canon_check_l1: 0=slot 8 1=slot 5 e 2=slot 2 -/
def S_canon_check_l1 (K : Value → World → Prop) (a0 : Value) (v1000 : Value) (I1001 : Nat → List Value → World → Prop) (n1002 : Nat) (vs1003 : List Value) (g1004 : Nat → Value) (w1005 : World) : Prop :=
xLt (vs1003.getD 0 undef) v1000 fun v1006 =>
xIf v1006 (xIxS a0 (vs1003.getD 0 undef) 2 fun v1007 =>
xAt v1007 fun a1008 =>
XLdN w1005 a1008 2 fun v1009 =>
XNew w1005 [(.slice none 0 0), (.int .u64 0)] 102 fun a1010 w1011 =>
XDo P (storeVar 102 a1010 v1009) w1011 fun w1012 =>
XLd w1012 (a1010.add 0) fun v1013 =>
Ret P n_keys_May [v1013] w1012 fun v1014 w1015 =>
xNe v1014 (.int .i64 0) fun v1016 =>
xIf v1016 (K v1014 w1015) (xAdd (vs1003.getD 0 undef) (.int .i64 1) fun v1017 =>
XNext I1001 n1002 [v1017, v1014, (vs1003.getD 2 undef)] w1015)) (Ret P n_keys_Sorted [a0] w1005 fun v1018 w1019 =>
xNot v1018 fun v1020 =>
xIf v1020 (K (.int .i64 12) w1019) (K (.int .i64 0) w1019))
abbrev S_canon_check (a0 : Value) (K : Value → World → Prop) (w0 : World) : Prop :=
xLen a0 fun v1000 =>
XLoop [(.int .i64 0), undef, (.int .i64 0)] w0 (S_canon_check_l1 K a0 v1000)
theorem W_canon_check {a0 : Value} {K : Value → World → Prop} {w : World} (h : S_canon_check a0 K w) : Ret P n_canon_check [a0] w K :=
  vcF_of mixed Tryz.func182 (show S_canon_check a0 K w = vcF P Tryz.f182 [a0] w K from by kernel_rfl) h
/- (spunyarn/canon.maker).tree -/
/- S_canon_maker_tree_l1: 0=slot 11 many -/
def S_canon_maker_tree_l1 (a1000 : Addr) (v1028 : Value) (v1033 : Value) (I1049 : Nat → List Value → World → Prop) (n1050 : Nat) (vs1051 : List Value) (v1062 : Value) (I1063 : Nat → List Value → World → Prop) (n1064 : Nat) (vs1065 : List Value) (g1066 : Nat → Value) (w1067 : World) : Prop :=
/- 0 -/ XJ (fun J1068 =>
xLen (vs1051.getD 0 undef) fun v1072 =>
xLt (vs1065.getD 0 undef) v1072 fun v1073 =>
xIf v1073 (xIxS (vs1051.getD 0 undef) (vs1065.getD 0 undef) 2 fun v1074 =>
xFld v1074 0 fun v1075 =>
xAt v1075 fun a1076 =>
XLd w1067 a1076 fun v1077 =>
xIxS v1077 v1028 1 fun v1078 =>
xAt v1078 fun a1079 =>
XLd w1067 a1079 fun v1080 =>
xEq v1080 v1062 fun v1081 =>
J1068 [v1081] w1067) (J1068 [(.bool false)] w1067)) fun vs1069 g1070 w1071 =>
xIf (vs1069.getD 0 undef) (xAdd (vs1065.getD 0 undef) (.int .i64 1) fun v1082 =>
XNext I1063 n1064 [v1082] w1071) (XLd w1071.drew (a1000.add 1) fun v1083 =>
XLdN w1071.drew a1000 2 fun v1084 =>
xCutS 2 (vs1051.getD 0 undef) none (some (vs1065.getD 0 undef)) none fun v1085 =>
xAdd v1028 (.int .i64 1) fun v1086 =>
Ret P n_canon_maker_tree [v1084, v1085, v1086] w1071.drew fun v1087 w1088 =>
xKeep1 w1088 (.pointer (some (a1000.add 1))) v1083 ∧ (Ret P n_node_Node_SetKid [v1033, v1083, v1062, v1087] w1088 fun v1089 w1090 =>
xCutS 2 (vs1051.getD 0 undef) (some (vs1065.getD 0 undef)) none none fun v1091 =>
XNext I1049 n1050 [v1091, v1062, (vs1065.getD 0 undef)] w1090))
/- S_canon_maker_tree_l2: 0=slot 1 l 1=slot 10 b 2=slot 11 many -/
def S_canon_maker_tree_l2 (K : Value → World → Prop) (a1000 : Addr) (v1028 : Value) (v1033 : Value) (I1049 : Nat → List Value → World → Prop) (n1050 : Nat) (vs1051 : List Value) (g1052 : Nat → Value) (w1053 : World) : Prop :=
xLen (vs1051.getD 0 undef) fun v1054 =>
xGt v1054 (.int .i64 0) fun v1055 =>
xIf v1055 (xIxS (vs1051.getD 0 undef) (.int .i64 0) 2 fun v1056 =>
xFld v1056 0 fun v1057 =>
xAt v1057 fun a1058 =>
XLd w1053 a1058 fun v1059 =>
xIxS v1059 v1028 1 fun v1060 =>
xAt v1060 fun a1061 =>
XLd w1053 a1061 fun v1062 =>
XLoop [(.int .i64 1)] w1053 (S_canon_maker_tree_l1 a1000 v1028 v1033 I1049 n1050 vs1051 v1062)) (K v1033 w1053)
abbrev S_canon_maker_tree (a0 : Value) (a1 : Value) (a2 : Value) (K : Value → World → Prop) (w0 : World) : Prop :=
XNew w0 (cellsV a0) 255 fun a1000 w1001 =>
xLen a1 fun v1002 =>
xEq v1002 (.int .i64 0) fun v1003 =>
xIf v1003 (K (.pointer none) w1001) (xEq v1002 (.int .i64 1) fun v1004 =>
xIf v1004 (XLd w1001.drew (a1000.add 0) fun v1005 =>
XLd w1001.drew (a1000.add 1) fun v1006 =>
xIxS a1 (.int .i64 0) 2 fun v1007 =>
xFld v1007 0 fun v1008 =>
xAt v1008 fun a1009 =>
XLd w1001.drew a1009 fun v1010 =>
xCutS 1 v1010 (some a2) none none fun v1011 =>
xIxS a1 (.int .i64 0) 2 fun v1012 =>
xFld v1012 1 fun v1013 =>
xAt v1013 fun a1014 =>
XLd w1001.drew a1014 fun v1015 =>
Ret P n_node_Leaf [v1005, v1006, v1011, v1015] w1001.drew fun v1016 w1017 =>
K v1016 w1017) (xIxS a1 (.int .i64 0) 2 fun v1018 =>
xFld v1018 0 fun v1019 =>
xAt v1019 fun a1020 =>
XLd w1001 a1020 fun v1021 =>
xLen a1 fun v1022 =>
xSub v1022 (.int .i64 1) fun v1023 =>
xIxS a1 v1023 2 fun v1024 =>
xFld v1024 0 fun v1025 =>
xAt v1025 fun a1026 =>
XLd w1001 a1026 fun v1027 =>
Ret P n_keys_Common [v1021, v1027] w1001 fun v1028 w1029 =>
XLd w1029.drew (a1000.add 0) fun v1030 =>
XLd w1029.drew (a1000.add 1) fun v1031 =>
xCutS 1 v1021 (some a2) (some v1028) none fun v1032 =>
Ret P n_node_Inner [v1030, v1031, v1032] w1029.drew fun v1033 w1034 =>
/- 0 l -/ XJ (fun J1035 =>
xLen v1021 fun v1039 =>
xEq v1039 v1028 fun v1040 =>
xIf v1040 (XLd w1034.drew (a1000.add 1) fun v1041 =>
xIxS a1 (.int .i64 0) 2 fun v1042 =>
xFld v1042 1 fun v1043 =>
xAt v1043 fun a1044 =>
XLd w1034.drew a1044 fun v1045 =>
Ret P n_node_Node_SetVal [v1033, v1041, v1045] w1034.drew fun v1046 w1047 =>
xCutS 2 a1 (some (.int .i64 1)) none none fun v1048 =>
J1035 [v1048] w1047) (J1035 [a1] w1034)) fun vs1036 g1037 w1038 =>
XLoop [(vs1036.getD 0 undef), undef, undef] w1038 (S_canon_maker_tree_l2 K a1000 v1028 v1033)))
theorem W_canon_maker_tree {a0 a1 a2 : Value} {K : Value → World → Prop} {w : World} (h : S_canon_maker_tree a0 a1 a2 K w) : Ret P n_canon_maker_tree [a0, a1, a2] w K :=
  vcF_of mixed Tryz.func183 (show S_canon_maker_tree a0 a1 a2 K w = vcF P Tryz.f183 [a0, a1, a2] w K from by kernel_rfl) h
/- spunyarn/spunyarnref01.Common -/
/- S_ref01_Common_l1: 0=slot 5 n -/
def S_ref01_Common_l1 (K : Value → World → Prop) (a0 : Value) (a1 : Value) (I1000 : Nat → List Value → World → Prop) (n1001 : Nat) (vs1002 : List Value) (g1003 : Nat → Value) (w1004 : World) : Prop :=
/- 0 -/ XJ (fun J1005 =>
xLen a0 fun v1009 =>
xLt (vs1002.getD 0 undef) v1009 fun v1010 =>
xIf v1010 (xLen a1 fun v1011 =>
xLt (vs1002.getD 0 undef) v1011 fun v1012 =>
xIf v1012 (xIxS a0 (vs1002.getD 0 undef) 1 fun v1013 =>
xAt v1013 fun a1014 =>
XLd w1004.drew a1014 fun v1015 =>
xIxS a1 (vs1002.getD 0 undef) 1 fun v1016 =>
xAt v1016 fun a1017 =>
XLd w1004.drew a1017 fun v1018 =>
xEq v1015 v1018 fun v1019 =>
J1005 [v1019] (w1004.drew)) (J1005 [(.bool false)] (w1004.drew))) (J1005 [(.bool false)] (w1004.drew))) fun vs1006 g1007 w1008 =>
xIf (vs1006.getD 0 undef) (xAdd (vs1002.getD 0 undef) (.int .i64 1) fun v1020 =>
XNext I1000 n1001 [v1020] w1008) (K (vs1002.getD 0 undef) w1008)
abbrev S_ref01_Common (a0 : Value) (a1 : Value) (K : Value → World → Prop) (w0 : World) : Prop :=
XLoop [(.int .i64 0)] w0 (S_ref01_Common_l1 K a0 a1)
theorem W_ref01_Common {a0 a1 : Value} {K : Value → World → Prop} {w : World} (h : S_ref01_Common a0 a1 K w) : Ret P n_ref01_Common [a0, a1] w K :=
  vcF_of mixed Tryz.func184 (show S_ref01_Common a0 a1 K w = vcF P Tryz.f184 [a0, a1] w K from by kernel_rfl) h
/- (*strings.Builder).WriteString -/
abbrev S_strings_Builder_WriteString (a0 : Value) (a1 : Value) (K : Value → World → Prop) (w0 : World) : Prop :=
Ret P n_strings_Builder_copyCheck [a0] w0 fun v1000 w1001 =>
xAt a0 fun a1002 =>
XLd w1001 (a1002.add 1) fun v1003 =>
XRun P (Builtin.append_ #[50, 9] 50 #[v1003, a1]) w1001 fun v1004 w1005 =>
xAt a0 fun a1006 =>
XSt w1005 (a1006.add 1) v1004 fun w1007 =>
xLenS a1 fun v1008 =>
K (.tuple #[v1008, .nilIface]) w1007
theorem W_strings_Builder_WriteString {a0 a1 : Value} {K : Value → World → Prop} {w : World} (h : S_strings_Builder_WriteString a0 a1 K w) : Ret P n_strings_Builder_WriteString [a0, a1] w K :=
  vcF_of mixed Tryz.func185 (show S_strings_Builder_WriteString a0 a1 K w = vcF P Tryz.f185 [a0, a1] w K from by kernel_rfl) h
/- strconv.Itoa -/
abbrev S_strconv_Itoa (a0 : Value) (K : Value → World → Prop) (w0 : World) : Prop :=
Ret P n_istrconv_Itoa [a0] w0 fun v1000 w1001 =>
K v1000 w1001
theorem W_strconv_Itoa {a0 : Value} {K : Value → World → Prop} {w : World} (h : S_strconv_Itoa a0 K w) : Ret P n_strconv_Itoa [a0] w K :=
  vcF_of mixed Tryz.func186 (show S_strconv_Itoa a0 K w = vcF P Tryz.f186 [a0] w K from by kernel_rfl) h
/- spunyarn/keys.Text -/
/- S_keys_Text_l1: 0=slot 12 1=slot 5 c 2=slot 3 b -/
def S_keys_Text_l1 (K : Value → World → Prop) (a0 : Value) (v1004 : Value) (I1005 : Nat → List Value → World → Prop) (n1006 : Nat) (vs1007 : List Value) (g1008 : Nat → Value) (w1009 : World) : Prop :=
xLt (vs1007.getD 0 undef) v1004 fun v1010 =>
xIf v1010 (xIxS a0 (vs1007.getD 0 undef) 1 fun v1011 =>
xAt v1011 fun a1012 =>
XLd w1009 a1012 fun v1013 =>
xShr v1013 (.int .u64 4) fun v1014 =>
xIxStr (.string ⟨#[48, 49, 50, 51, 52, 53, 54, 55, 56, 57, 97, 98, 99, 100, 101, 102]⟩) v1014 fun v1015 =>
xAnd v1013 (.int .u8 15) fun v1016 =>
xIxStr (.string ⟨#[48, 49, 50, 51, 52, 53, 54, 55, 56, 57, 97, 98, 99, 100, 101, 102]⟩) v1016 fun v1017 =>
xFill (repL [(.int .u8 0)] 2) [(0, 1, v1015), (1, 1, v1017)] fun c1018 =>
XNew w1009.drew c1018 5 fun a1019 w1020 =>
XRun P (Builtin.append_ #[50, 50] 50 #[(vs1007.getD 2 undef), (.slice (some a1019) 2 2)]) w1020 fun v1021 w1022 =>
xAdd (vs1007.getD 0 undef) (.int .i64 1) fun v1023 =>
XNext I1005 n1006 [v1023, v1013, v1021] w1022) (XRun P (convert 50 9 (vs1007.getD 2 undef)) w1009 fun v1024 w1025 =>
K v1024 w1025)
abbrev S_keys_Text (a0 : Value) (K : Value → World → Prop) (w0 : World) : Prop :=
xLen a0 fun v1000 =>
xMul (.int .i64 2) v1000 fun v1001 =>
XRun P (Instr.makeSlice 50 (.int .i64 0) v1001) w0 fun v1002 w1003 =>
xLen a0 fun v1004 =>
XLoop [(.int .i64 0), undef, v1002] w1003 (S_keys_Text_l1 K a0 v1004)
theorem W_keys_Text {a0 : Value} {K : Value → World → Prop} {w : World} (h : S_keys_Text a0 K w) : Ret P n_keys_Text [a0] w K :=
  vcF_of mixed Tryz.func187 (show S_keys_Text a0 K w = vcF P Tryz.f187 [a0] w K from by kernel_rfl) h
/- strconv.FormatUint -/
abbrev S_strconv_FormatUint (a0 : Value) (a1 : Value) (K : Value → World → Prop) (w0 : World) : Prop :=
Ret P n_istrconv_FormatUint [a0, a1] w0 fun v1000 w1001 =>
K v1000 w1001
theorem W_strconv_FormatUint {a0 a1 : Value} {K : Value → World → Prop} {w : World} (h : S_strconv_FormatUint a0 a1 K w) : Ret P n_strconv_FormatUint [a0, a1] w K :=
  vcF_of mixed Tryz.func188 (show S_strconv_FormatUint a0 a1 K w = vcF P Tryz.f188 [a0, a1] w K from by kernel_rfl) h
/- spunyarn/canon.each$1 -/
/- S_canon_each_1_l1: 0=slot 7 k 1=slot 6 b -/
def S_canon_each_1_l1 (K : Value → World → Prop) (a1 : Value) (a3 : Value) (v1003 : Value) (I1015 : Nat → List Value → World → Prop) (n1016 : Nat) (vs1017 : List Value) (g1018 : Nat → Value) (w1019 : World) : Prop :=
xPNe P w1019 (vs1017.getD 0 undef) (.pointer none) fun v1020 =>
xIf v1020 (xAt a3 fun a1021 =>
XLd w1019.drew a1021 fun v1022 =>
xFill (repL [(.int .u8 0)] 1) [(0, 1, (vs1017.getD 1 undef))] fun c1023 =>
XNew w1019.drew c1023 5 fun a1024 w1025 =>
xKeep1 w1025 a3 v1022 ∧ (XRun P (Builtin.append_ #[50, 50] 50 #[v1003, (.slice (some a1024) 1 1)]) w1025 fun v1026 w1027 =>
xKeep1 w1027 a3 v1022 ∧ (xFunc v1022 [v1026, (vs1017.getD 0 undef)] fun f1028 xs1029 =>
xCall P f1028 xs1029 w1027 fun v1030 w1031 =>
xConv .i64 (vs1017.getD 1 undef) fun v1032 =>
xAdd v1032 (.int .i64 1) fun v1033 =>
Ret P n_node_Node_Next [a1, v1033] w1031 fun v1034 w1035 =>
xTup v1034 0 fun v1036 =>
xTup v1034 1 fun v1037 =>
XNext I1015 n1016 [v1037, v1036] w1035))) (K (.tuple #[]) w1019)
abbrev S_canon_each_1 (a0 : Value) (a1 : Value) (a2 : Value) (a3 : Value) (K : Value → World → Prop) (w0 : World) : Prop :=
xPEq P w0 a1 (.pointer none) fun v1000 =>
xIf v1000 (K (.tuple #[]) w0) (Ret P n_node_Node_Part [a1] w0 fun v1001 w1002 =>
XRun P (Builtin.append_ #[50, 50] 50 #[a0, v1001]) w1002 fun v1003 w1004 =>
xAt a2 fun a1005 =>
XLd w1004 a1005 fun v1006 =>
xFunc v1006 [v1003, a1] fun f1007 xs1008 =>
xCall P f1007 xs1008 w1004 fun v1009 w1010 =>
Ret P n_node_Node_Next [a1, (.int .i64 0)] w1010 fun v1011 w1012 =>
xTup v1011 0 fun v1013 =>
xTup v1011 1 fun v1014 =>
XLoop [v1014, v1013] w1012 (S_canon_each_1_l1 K a1 a3 v1003))
theorem W_canon_each_1 {a0 a1 a2 a3 : Value} {K : Value → World → Prop} {w : World} (h : S_canon_each_1 a0 a1 a2 a3 K w) : Ret P n_canon_each_1 [a0, a1, a2, a3] w K :=
  vcF_of mixed Tryz.func189 (show S_canon_each_1 a0 a1 a2 a3 K w = vcF P Tryz.f189 [a0, a1, a2, a3] w K from by kernel_rfl) h
/- (*spunyarn/node.Node).isLeaf -/
abbrev S_node_Node_isLeaf (a0 : Value) (K : Value → World → Prop) (w0 : World) : Prop :=
xAt a0 fun a1000 =>
XLd w0 (a1000.add 4) fun v1001 =>
xPEq P w0 v1001 (.pointer none) fun v1002 =>
K v1002 w0
theorem W_node_Node_isLeaf {a0 : Value} {K : Value → World → Prop} {w : World} (h : S_node_Node_isLeaf a0 K w) : Ret P n_node_Node_isLeaf [a0] w K :=
  vcF_of mixed Tryz.func190 (show S_node_Node_isLeaf a0 K w = vcF P Tryz.f190 [a0] w K from by kernel_rfl) h
/- (*spunyarn/kids.Kids[*spunyarn/node.Node]).Kind -/
abbrev S_kids_Kids_Kind (a0 : Value) (K : Value → World → Prop) (w0 : World) : Prop :=
Ret P n_kids_Kids_ok [a0] w0 fun v1000 w1001 =>
xNot v1000 fun v1002 =>
xIf v1002 (K (.int .i64 0) w1001) (xAt a0 fun a1003 =>
XLd w1001 (a1003.add 0) fun v1004 =>
xPNe P w1001 v1004 (.pointer none) fun v1005 =>
xIf v1005 (xAt a0 fun a1006 =>
XLd w1001 (a1006.add 0) fun v1007 =>
Ret P n_small_Row_Room [v1007] w1001 fun v1008 w1009 =>
K v1008 w1009) (xAt a0 fun a1010 =>
XLd w1001 (a1010.add 1) fun v1011 =>
Ret P n_wide_Board_Room [v1011] w1001 fun v1012 w1013 =>
K v1012 w1013))
theorem W_kids_Kids_Kind {a0 : Value} {K : Value → World → Prop} {w : World} (h : S_kids_Kids_Kind a0 K w) : Ret P n_kids_Kids_Kind [a0] w K :=
  vcF_of mixed Tryz.func191 (show S_kids_Kids_Kind a0 K w = vcF P Tryz.f191 [a0] w K from by kernel_rfl) h
/- (*spunyarn/kids.Kids[*spunyarn/node.Node]).Len -/
abbrev S_kids_Kids_Len (a0 : Value) (K : Value → World → Prop) (w0 : World) : Prop :=
Ret P n_kids_Kids_ok [a0] w0 fun v1000 w1001 =>
xNot v1000 fun v1002 =>
xIf v1002 (K (.int .i64 0) w1001) (xAt a0 fun a1003 =>
XLd w1001 (a1003.add 0) fun v1004 =>
xPNe P w1001 v1004 (.pointer none) fun v1005 =>
xIf v1005 (xAt a0 fun a1006 =>
XLd w1001 (a1006.add 0) fun v1007 =>
Ret P n_small_Row_Len [v1007] w1001 fun v1008 w1009 =>
K v1008 w1009) (xAt a0 fun a1010 =>
XLd w1001 (a1010.add 1) fun v1011 =>
Ret P n_wide_Board_Len [v1011] w1001 fun v1012 w1013 =>
K v1012 w1013))
theorem W_kids_Kids_Len {a0 : Value} {K : Value → World → Prop} {w : World} (h : S_kids_Kids_Len a0 K w) : Ret P n_kids_Kids_Len [a0] w K :=
  vcF_of mixed Tryz.func192 (show S_kids_Kids_Len a0 K w = vcF P Tryz.f192 [a0] w K from by kernel_rfl) h
/- (*spunyarn/node.Node).Len -/
abbrev S_node_Node_Len (a0 : Value) (K : Value → World → Prop) (w0 : World) : Prop :=
xPEq P w0 a0 (.pointer none) fun v1000 =>
xIf v1000 (K (.int .i64 0) w0) (xAt a0 fun a1001 =>
XLd w0 (a1001.add 4) fun v1002 =>
Ret P n_kids_Kids_Len [v1002] w0 fun v1003 w1004 =>
K v1003 w1004)
theorem W_node_Node_Len {a0 : Value} {K : Value → World → Prop} {w : World} (h : S_node_Node_Len a0 K w) : Ret P n_node_Node_Len [a0] w K :=
  vcF_of mixed Tryz.func193 (show S_node_Node_Len a0 K w = vcF P Tryz.f193 [a0] w K from by kernel_rfl) h
/- (spunyarn/del.taker).here -/
abbrev S_del_taker_here (a0 : Value) (a1 : Value) (K : Value → World → Prop) (w0 : World) : Prop :=
XNew w0 (cellsV a0) 198 fun a1000 w1001 =>
Ret P n_node_Node_Len [a1] w1001 fun v1002 w1003 =>
xEq v1002 (.int .i64 0) fun v1004 =>
xIf v1004 (K (.pointer none) w1003) (xEq v1002 (.int .i64 1) fun v1005 =>
xIf v1005 (Ret P n_node_Node_Next [a1, (.int .i64 0)] w1003 fun v1006 w1007 =>
xTup v1006 0 fun v1008 =>
xTup v1006 1 fun v1009 =>
XLdN w1007 a1000 2 fun v1010 =>
Ret P n_del_taker_lift [v1010, a1, v1008, v1009] w1007 fun v1011 w1012 =>
K v1011 w1012) (XLd w1003 (a1000.add 1) fun v1013 =>
XLd w1003 (a1000.add 0) fun v1014 =>
Ret P n_node_Node_Own [a1, v1013, v1014] w1003 fun v1015 w1016 =>
XLd w1016 (a1000.add 0) fun v1017 =>
Ret P n_node_Node_DropVal [v1015, v1017] w1016 fun v1018 w1019 =>
K v1015 w1019))
theorem W_del_taker_here {a0 a1 : Value} {K : Value → World → Prop} {w : World} (h : S_del_taker_here a0 a1 K w) : Ret P n_del_taker_here [a0, a1] w K :=
  vcF_of mixed Tryz.func195 (show S_del_taker_here a0 a1 K w = vcF P Tryz.f195 [a0, a1] w K from by kernel_rfl) h
/- (*spunyarn/node.Node).Own -/
abbrev S_node_Node_Own (a0 : Value) (a1 : Value) (a2 : Value) (K : Value → World → Prop) (w0 : World) : Prop :=
Ret P n_node_Node_may [a0, a2] w0 fun v1000 w1001 =>
xEq v1000 (.int .i64 0) fun v1002 =>
xIf v1002 (K a0 w1001) (Ret P n_node_Node_Copy [a0, a1, a2] w1001 fun v1003 w1004 =>
K v1003 w1004)
theorem W_node_Node_Own {a0 a1 a2 : Value} {K : Value → World → Prop} {w : World} (h : S_node_Node_Own a0 a1 a2 K w) : Ret P n_node_Node_Own [a0, a1, a2] w K :=
  vcF_of mixed Tryz.func196 (show S_node_Node_Own a0 a1 a2 K w = vcF P Tryz.f196 [a0, a1, a2] w K from by kernel_rfl) h
/- (spunyarn/del.taker).without -/
abbrev S_del_taker_without (a0 : Value) (a1 : Value) (a2 : Value) (K : Value → World → Prop) (w0 : World) : Prop :=
XNew w0 (cellsV a0) 198 fun a1000 w1001 =>
Ret P n_node_Node_Val [a1] w1001 fun v1002 w1003 =>
xTup v1002 0 fun v1004 =>
xTup v1002 1 fun v1005 =>
Ret P n_node_Node_Occupants [a1] w1003 fun v1006 w1007 =>
xGt v1006 (.int .i64 2) fun v1008 =>
xIf v1008 (XLd w1007 (a1000.add 1) fun v1009 =>
XLd w1007 (a1000.add 0) fun v1010 =>
Ret P n_node_Node_Own [a1, v1009, v1010] w1007 fun v1011 w1012 =>
XLd w1012 (a1000.add 0) fun v1013 =>
Ret P n_node_Node_DropKid [v1011, v1013, a2] w1012 fun v1014 w1015 =>
K v1011 w1015) (xIf v1005 (XLd w1007.drew (a1000.add 1) fun v1016 =>
XLd w1007.drew (a1000.add 0) fun v1017 =>
Ret P n_node_Node_Part [a1] w1007.drew fun v1018 w1019 =>
xKeep1 w1019 (.pointer (some (a1000.add 0))) v1017 ∧ (xKeep1 w1019 (.pointer (some (a1000.add 1))) v1016 ∧ (Ret P n_node_Leaf [v1016, v1017, v1018, v1004] w1019 fun v1020 w1021 =>
K v1020 w1021))) (Ret P n_node_Node_Next [a1, (.int .i64 0)] w1007 fun v1022 w1023 =>
xTup v1022 0 fun v1024 =>
xTup v1022 1 fun v1025 =>
/- 0 c 1 kid -/ XJ (fun J1026 =>
xEq v1024 a2 fun v1030 =>
xIf v1030 (xConv .i64 a2 fun v1031 =>
xAdd v1031 (.int .i64 1) fun v1032 =>
Ret P n_node_Node_Next [a1, v1032] w1023 fun v1033 w1034 =>
xTup v1033 0 fun v1035 =>
xTup v1033 1 fun v1036 =>
J1026 [v1035, v1036] w1034) (J1026 [v1024, v1025] w1023)) fun vs1027 g1028 w1029 =>
XLdN w1029 a1000 2 fun v1037 =>
Ret P n_del_taker_lift [v1037, a1, (vs1027.getD 0 undef), (vs1027.getD 1 undef)] w1029 fun v1038 w1039 =>
K v1038 w1039))
theorem W_del_taker_without {a0 a1 a2 : Value} {K : Value → World → Prop} {w : World} (h : S_del_taker_without a0 a1 a2 K w) : Ret P n_del_taker_without [a0, a1, a2] w K :=
  vcF_of mixed Tryz.func197 (show S_del_taker_without a0 a1 a2 K w = vcF P Tryz.f197 [a0, a1, a2] w K from by kernel_rfl) h
/- (*spunyarn/kids.Kids[*spunyarn/node.Node]).Next -/
abbrev S_kids_Kids_Next (a0 : Value) (a1 : Value) (K : Value → World → Prop) (w0 : World) : Prop :=
Ret P n_kids_Kids_ok [a0] w0 fun v1000 w1001 =>
xNot v1000 fun v1002 =>
xIf v1002 (K (.tuple #[(.int .u8 0), (.pointer none), (.bool false)]) w1001) (xAt a0 fun a1003 =>
XLd w1001 (a1003.add 0) fun v1004 =>
xPNe P w1001 v1004 (.pointer none) fun v1005 =>
xIf v1005 (xAt a0 fun a1006 =>
XLd w1001 (a1006.add 0) fun v1007 =>
Ret P n_small_Row_Next [v1007, a1] w1001 fun v1008 w1009 =>
xTup v1008 0 fun v1010 =>
xTup v1008 1 fun v1011 =>
xTup v1008 2 fun v1012 =>
K (.tuple #[v1010, v1011, v1012]) w1009) (xAt a0 fun a1013 =>
XLd w1001 (a1013.add 1) fun v1014 =>
Ret P n_wide_Board_Next [v1014, a1] w1001 fun v1015 w1016 =>
xTup v1015 0 fun v1017 =>
xTup v1015 1 fun v1018 =>
xTup v1015 2 fun v1019 =>
K (.tuple #[v1017, v1018, v1019]) w1016))
theorem W_kids_Kids_Next {a0 a1 : Value} {K : Value → World → Prop} {w : World} (h : S_kids_Kids_Next a0 a1 K w) : Ret P n_kids_Kids_Next [a0, a1] w K :=
  vcF_of mixed Tryz.func198 (show S_kids_Kids_Next a0 a1 K w = vcF P Tryz.f198 [a0, a1] w K from by kernel_rfl) h
/- bytes.HasPrefix -/
abbrev S_bytes_HasPrefix (a0 : Value) (a1 : Value) (K : Value → World → Prop) (w0 : World) : Prop :=
/- 0 -/ XJ (fun J1000 =>
xLen a0 fun v1004 =>
xLen a1 fun v1005 =>
xGe v1004 v1005 fun v1006 =>
xIf v1006 (xLen a1 fun v1007 =>
xCutS 1 a0 none (some v1007) none fun v1008 =>
Ret P n_bytes_Equal [v1008, a1] w0 fun v1009 w1010 =>
J1000 [v1009] w1010) (J1000 [(.bool false)] w0)) fun vs1001 g1002 w1003 =>
K (vs1001.getD 0 undef) w1003
theorem W_bytes_HasPrefix {a0 a1 : Value} {K : Value → World → Prop} {w : World} (h : S_bytes_HasPrefix a0 a1 K w) : Ret P n_bytes_HasPrefix [a0, a1] w K :=
  vcF_of mixed Tryz.func199 (show S_bytes_HasPrefix a0 a1 K w = vcF P Tryz.f199 [a0, a1] w K from by kernel_rfl) h
/- (spunyarn/put.putter).here -/
abbrev S_put_putter_here (a0 : Value) (a1 : Value) (K : Value → World → Prop) (w0 : World) : Prop :=
XNew w0 (cellsV a0) 208 fun a1000 w1001 =>
XLd w1001 (a1000.add 2) fun v1002 =>
XLd w1001 (a1000.add 1) fun v1003 =>
Ret P n_node_Node_Own [a1, v1002, v1003] w1001 fun v1004 w1005 =>
XLd w1005 (a1000.add 1) fun v1006 =>
XLd w1005 (a1000.add 0) fun v1007 =>
Ret P n_node_Node_SetVal [v1004, v1006, v1007] w1005 fun v1008 w1009 =>
K v1004 w1009
theorem W_put_putter_here {a0 a1 : Value} {K : Value → World → Prop} {w : World} (h : S_put_putter_here a0 a1 K w) : Ret P n_put_putter_here [a0, a1] w K :=
  vcF_of mixed Tryz.func200 (show S_put_putter_here a0 a1 K w = vcF P Tryz.f200 [a0, a1] w K from by kernel_rfl) h
/- (spunyarn/put.putter).split -/
abbrev S_put_putter_split (a0 : Value) (a1 : Value) (a2 : Value) (a3 : Value) (a4 : Value) (K : Value → World → Prop) (w0 : World) : Prop :=
XNew w0 (cellsV a0) 208 fun a1000 w1001 =>
XLd w1001.drew (a1000.add 2) fun v1002 =>
XLd w1001.drew (a1000.add 1) fun v1003 =>
xCutS 1 a2 none (some a4) none fun v1004 =>
Ret P n_node_Inner [v1002, v1003, v1004] w1001.drew fun v1005 w1006 =>
/- 0 v 1 _ 2 kid -/ XJ (fun J1007 =>
xLen a2 fun v1011 =>
xEq a4 v1011 fun v1012 =>
xIf v1012 (Ret P n_node_Node_Val [a1] w1006 fun v1013 w1014 =>
xTup v1013 0 fun v1015 =>
xTup v1013 1 fun v1016 =>
XLd w1014 (a1000.add 1) fun v1017 =>
Ret P n_node_Node_SetVal [v1005, v1017, v1015] w1014 fun v1018 w1019 =>
J1007 [v1015, v1016, undef] w1019) (XLd w1006 (a1000.add 2) fun v1020 =>
XLd w1006 (a1000.add 1) fun v1021 =>
Ret P n_node_Node_Own [a1, v1020, v1021] w1006 fun v1022 w1023 =>
XLd w1023.drew (a1000.add 1) fun v1024 =>
xAdd a4 (.int .i64 1) fun v1025 =>
xCutS 1 a2 (some v1025) none none fun v1026 =>
Ret P n_node_Node_SetPart [v1022, v1024, v1026] w1023.drew fun v1027 w1028 =>
XLd w1028.drew (a1000.add 1) fun v1029 =>
xIxS a2 a4 1 fun v1030 =>
xAt v1030 fun a1031 =>
XLd w1028.drew a1031 fun v1032 =>
Ret P n_node_Node_SetKid [v1005, v1029, v1032, v1022] w1028.drew fun v1033 w1034 =>
J1007 [undef, undef, v1022] w1034)) fun vs1008 g1009 w1010 =>
/-  -/ XJ (fun J1035 =>
xLen a3 fun v1039 =>
xEq a4 v1039 fun v1040 =>
xIf v1040 (XLd w1010 (a1000.add 1) fun v1041 =>
XLd w1010 (a1000.add 0) fun v1042 =>
Ret P n_node_Node_SetVal [v1005, v1041, v1042] w1010 fun v1043 w1044 =>
J1035 [] w1044) (XLd w1010.drew (a1000.add 1) fun v1045 =>
xIxS a3 a4 1 fun v1046 =>
xAt v1046 fun a1047 =>
XLd w1010.drew a1047 fun v1048 =>
XLd w1010.drew (a1000.add 2) fun v1049 =>
XLd w1010.drew (a1000.add 1) fun v1050 =>
xAdd a4 (.int .i64 1) fun v1051 =>
xCutS 1 a3 (some v1051) none none fun v1052 =>
XLd w1010.drew (a1000.add 0) fun v1053 =>
Ret P n_node_Leaf [v1049, v1050, v1052, v1053] w1010.drew fun v1054 w1055 =>
xKeep1 w1055 v1046 v1048 ∧ (xKeep1 w1055 (.pointer (some (a1000.add 1))) v1045 ∧ (Ret P n_node_Node_SetKid [v1005, v1045, v1048, v1054] w1055 fun v1056 w1057 =>
J1035 [] w1057)))) fun vs1036 g1037 w1038 =>
K v1005 w1038
theorem W_put_putter_split {a0 a1 a2 a3 a4 : Value} {K : Value → World → Prop} {w : World} (h : S_put_putter_split a0 a1 a2 a3 a4 K w) : Ret P n_put_putter_split [a0, a1, a2, a3, a4] w K :=
  vcF_of mixed Tryz.func201 (show S_put_putter_split a0 a1 a2 a3 a4 K w = vcF P Tryz.f201 [a0, a1, a2, a3, a4] w K from by kernel_rfl) h
/- (spunyarn/put.putter).below -/
abbrev S_put_putter_below (a0 : Value) (a1 : Value) (a2 : Value) (K : Value → World → Prop) (w0 : World) : Prop :=
XNew w0 (cellsV a0) 208 fun a1000 w1001 =>
xIxS a2 (.int .i64 0) 1 fun v1002 =>
xAt v1002 fun a1003 =>
XLd w1001 a1003 fun v1004 =>
Ret P n_node_Node_Kid [a1, v1004] w1001 fun v1005 w1006 =>
XLdN w1006.drew a1000 3 fun v1007 =>
xCutS 1 a2 (some (.int .i64 1)) none none fun v1008 =>
Ret P n_put_putter_into [v1007, v1005, v1008] w1006.drew fun v1009 w1010 =>
xPEq P w1010 v1009 v1005 fun v1011 =>
xIf v1011 (K a1 w1010) (XLd w1010 (a1000.add 2) fun v1012 =>
XLd w1010 (a1000.add 1) fun v1013 =>
Ret P n_node_Node_Own [a1, v1012, v1013] w1010 fun v1014 w1015 =>
XLd w1015.drew (a1000.add 1) fun v1016 =>
xIxS a2 (.int .i64 0) 1 fun v1017 =>
xAt v1017 fun a1018 =>
XLd w1015.drew a1018 fun v1019 =>
Ret P n_node_Node_SetKid [v1014, v1016, v1019, v1009] w1015.drew fun v1020 w1021 =>
K v1014 w1021)
theorem W_put_putter_below {a0 a1 a2 : Value} {K : Value → World → Prop} {w : World} (h : S_put_putter_below a0 a1 a2 K w) : Ret P n_put_putter_below [a0, a1, a2] w K :=
  vcF_of mixed Tryz.func202 (show S_put_putter_below a0 a1 a2 K w = vcF P Tryz.f202 [a0, a1, a2] w K from by kernel_rfl) h
/- (*spunyarn/kids.Kids[*spunyarn/node.Node]).Get -/
abbrev S_kids_Kids_Get (a0 : Value) (a1 : Value) (K : Value → World → Prop) (w0 : World) : Prop :=
Ret P n_kids_Kids_ok [a0] w0 fun v1000 w1001 =>
xNot v1000 fun v1002 =>
xIf v1002 (K (.tuple #[(.pointer none), (.bool false)]) w1001) (xAt a0 fun a1003 =>
XLd w1001 (a1003.add 0) fun v1004 =>
xPNe P w1001 v1004 (.pointer none) fun v1005 =>
xIf v1005 (xAt a0 fun a1006 =>
XLd w1001 (a1006.add 0) fun v1007 =>
Ret P n_small_Row_Get [v1007, a1] w1001 fun v1008 w1009 =>
xTup v1008 0 fun v1010 =>
xTup v1008 1 fun v1011 =>
K (.tuple #[v1010, v1011]) w1009) (xAt a0 fun a1012 =>
XLd w1001 (a1012.add 1) fun v1013 =>
Ret P n_wide_Board_Get [v1013, a1] w1001 fun v1014 w1015 =>
xTup v1014 0 fun v1016 =>
xTup v1014 1 fun v1017 =>
K (.tuple #[v1016, v1017]) w1015))
theorem W_kids_Kids_Get {a0 a1 : Value} {K : Value → World → Prop} {w : World} (h : S_kids_Kids_Get a0 a1 K w) : Ret P n_kids_Kids_Get [a0, a1] w K :=
  vcF_of mixed Tryz.func203 (show S_kids_Kids_Get a0 a1 K w = vcF P Tryz.f203 [a0, a1] w K from by kernel_rfl) h
/- spunyarn/del.check -/
/- S_del_check_l1: 0=slot 8 1=slot 4 i 2=slot 13 3=slot 2 4=slot 17 5=slot 3 e -/
def S_del_check_l1 (K : Value → World → Prop) (a0 : Value) (v1000 : Value) (I1001 : Nat → List Value → World → Prop) (n1002 : Nat) (vs1003 : List Value) (g1004 : Nat → Value) (w1005 : World) : Prop :=
xLt (vs1003.getD 0 undef) v1000 fun v1006 =>
xIf v1006 (/- 0 i 1 2 3 4 e -/ XJ (fun J1007 =>
xIxS a0 (vs1003.getD 0 undef) 2 fun v1011 =>
xAt v1011 fun a1012 =>
XLdN w1005 a1012 2 fun v1013 =>
XNew w1005 [(.int .u8 0), (.pointer none)] 78 fun a1014 w1015 =>
XDo P (storeVar 78 a1014 v1013) w1015 fun w1016 =>
XLd w1016 (a1014.add 1) fun v1017 =>
xPEq P w1016 v1017 (.pointer none) fun v1018 =>
xIf v1018 (K (.int .i64 1) w1016) (/- 0 -/ XJ (fun J1019 =>
xGt (vs1003.getD 0 undef) (.int .i64 0) fun v1023 =>
xIf v1023 (xSub (vs1003.getD 0 undef) (.int .i64 1) fun v1024 =>
xIxS a0 v1024 2 fun v1025 =>
xFld v1025 0 fun v1026 =>
xAt v1026 fun a1027 =>
XLd w1016.drew a1027 fun v1028 =>
XLd w1016.drew (a1014.add 0) fun v1029 =>
xGe v1028 v1029 fun v1030 =>
J1019 [v1030] (w1016.drew)) (J1019 [(.bool false)] (w1016.drew))) fun vs1020 g1021 w1022 =>
xIf (vs1020.getD 0 undef) (J1007 [(vs1003.getD 0 undef), v1018, (vs1003.getD 3 undef), (vs1020.getD 0 undef), (.int .i64 12)] w1022) (J1007 [(vs1003.getD 0 undef), v1018, (vs1003.getD 3 undef), (vs1020.getD 0 undef), (vs1003.getD 5 undef)] w1022))) fun vs1008 g1009 w1010 =>
xAdd (vs1003.getD 0 undef) (.int .i64 1) fun v1031 =>
XNext I1001 n1002 [v1031, (vs1008.getD 0 undef), (vs1008.getD 1 undef), (vs1008.getD 2 undef), (vs1008.getD 3 undef), (vs1008.getD 4 undef)] w1010) (K (vs1003.getD 5 undef) w1005)
abbrev S_del_check (a0 : Value) (K : Value → World → Prop) (w0 : World) : Prop :=
xLen a0 fun v1000 =>
XLoop [(.int .i64 0), undef, undef, (.int .i64 0), undef, (.int .i64 0)] w0 (S_del_check_l1 K a0 v1000)
theorem W_del_check {a0 : Value} {K : Value → World → Prop} {w : World} (h : S_del_check a0 K w) : Ret P n_del_check [a0] w K :=
  vcF_of mixed Tryz.func204 (show S_del_check a0 K w = vcF P Tryz.f204 [a0] w K from by kernel_rfl) h
/- (*spunyarn/meter.Meter).Made -/
abbrev S_meter_Meter_Made (a0 : Value) (a1 : Value) (K : Value → World → Prop) (w0 : World) : Prop :=
/- 0 -/ XJ (fun J1000 =>
xPNe P w0 a0 (.pointer none) fun v1004 =>
xIf v1004 (xGt a1 (.int .i64 0) fun v1005 =>
J1000 [v1005] w0) (J1000 [(.bool false)] w0)) fun vs1001 g1002 w1003 =>
xIf (vs1001.getD 0 undef) (xAt a0 fun a1006 =>
Ret P n_atomic_Int64_Add [(.pointer (some (a1006.add 0))), a1] w1003 fun v1007 w1008 =>
K (.tuple #[]) w1008) (K (.tuple #[]) w1003)
theorem W_meter_Meter_Made {a0 a1 : Value} {K : Value → World → Prop} {w : World} (h : S_meter_Meter_Made a0 a1 K w) : Ret P n_meter_Meter_Made [a0, a1] w K :=
  vcF_of mixed Tryz.func205 (show S_meter_Meter_Made a0 a1 K w = vcF P Tryz.f205 [a0, a1] w K from by kernel_rfl) h
/- (*spunyarn/kids.Kids[*spunyarn/node.Node]).Copy -/
abbrev S_kids_Kids_Copy (a0 : Value) (K : Value → World → Prop) (w0 : World) : Prop :=
Ret P n_kids_Kids_ok [a0] w0 fun v1000 w1001 =>
xNot v1000 fun v1002 =>
xIf v1002 (K (.pointer none) w1001) (xAt a0 fun a1003 =>
XLd w1001.drew (a1003.add 0) fun v1004 =>
xAt a0 fun a1005 =>
XLd w1001.drew (a1005.add 1) fun v1006 =>
Ret P n_small_Row_Copy [v1004] w1001.drew fun v1007 w1008 =>
xKeep1 w1008 (.pointer (some (a1005.add 1))) v1006 ∧ (Ret P n_wide_Board_Copy [v1006] w1008 fun v1009 w1010 =>
xFill [(.pointer none), (.pointer none)] [(0, 1, v1007), (1, 1, v1009)] fun c1011 =>
XNew w1010 (cellsV (.agg c1011.toArray)) 305 fun a1012 w1013 =>
K (.pointer (some a1012)) w1013))
theorem W_kids_Kids_Copy {a0 : Value} {K : Value → World → Prop} {w : World} (h : S_kids_Kids_Copy a0 K w) : Ret P n_kids_Kids_Copy [a0] w K :=
  vcF_of mixed Tryz.func206 (show S_kids_Kids_Copy a0 K w = vcF P Tryz.f206 [a0] w K from by kernel_rfl) h
/- (*spunyarn/node.Node).may -/
abbrev S_node_Node_may (a0 : Value) (a1 : Value) (K : Value → World → Prop) (w0 : World) : Prop :=
xPEq P w0 a0 (.pointer none) fun v1000 =>
xIf v1000 (K (.int .i64 2) w0) (/- 0 -/ XJ (fun J1001 =>
xEq a1 (.int .u64 0) fun v1005 =>
xIf v1005 (J1001 [(.bool true)] w0) (xAt a0 fun a1006 =>
XLd w0 (a1006.add 0) fun v1007 =>
xNe a1 v1007 fun v1008 =>
J1001 [v1008] w0)) fun vs1002 g1003 w1004 =>
xIf (vs1002.getD 0 undef) (K (.int .i64 11) w1004) (K (.int .i64 0) w1004))
theorem W_node_Node_may {a0 a1 : Value} {K : Value → World → Prop} {w : World} (h : S_node_Node_may a0 a1 K w) : Ret P n_node_Node_may [a0, a1] w K :=
  vcF_of mixed Tryz.func207 (show S_node_Node_may a0 a1 K w = vcF P Tryz.f207 [a0, a1] w K from by kernel_rfl) h
/- slices.Concat[[]byte,byte] -/
/- S_slices_Concat_byte_l1: 0=slot 27 1=slot 8 s 2=slot 6 newslice -/
def S_slices_Concat_byte_l1 (K : Value → World → Prop) (a0 : Value) (v1020 : Value) (I1021 : Nat → List Value → World → Prop) (n1022 : Nat) (vs1023 : List Value) (g1024 : Nat → Value) (w1025 : World) : Prop :=
xLt (vs1023.getD 0 undef) v1020 fun v1026 =>
xIf v1026 (xIxS a0 (vs1023.getD 0 undef) 1 fun v1027 =>
xAt v1027 fun a1028 =>
XLd w1025 a1028 fun v1029 =>
XRun P (Builtin.append_ #[50, 50] 50 #[(vs1023.getD 2 undef), v1029]) w1025 fun v1030 w1031 =>
xAdd (vs1023.getD 0 undef) (.int .i64 1) fun v1032 =>
XNext I1021 n1022 [v1032, v1029, v1030] w1031) (K (vs1023.getD 2 undef) w1025)
/- S_slices_Concat_byte_l2: 0=slot 11 1=slot 5 s 2=slot 3 size -/
def S_slices_Concat_byte_l2 (K : Value → World → Prop) (a0 : Value) (v1000 : Value) (I1001 : Nat → List Value → World → Prop) (n1002 : Nat) (vs1003 : List Value) (g1004 : Nat → Value) (w1005 : World) : Prop :=
xLt (vs1003.getD 0 undef) v1000 fun v1006 =>
xIf v1006 (/- 0 s 1 size -/ XJ (fun J1007 =>
xIxS a0 (vs1003.getD 0 undef) 1 fun v1011 =>
xAt v1011 fun a1012 =>
XLd w1005 a1012 fun v1013 =>
xLen v1013 fun v1014 =>
xAdd (vs1003.getD 2 undef) v1014 fun v1015 =>
xLt v1015 (.int .i64 0) fun v1016 =>
xIf v1016 (False) (J1007 [v1013, v1015] w1005)) fun vs1008 g1009 w1010 =>
xAdd (vs1003.getD 0 undef) (.int .i64 1) fun v1017 =>
XNext I1001 n1002 [v1017, (vs1008.getD 0 undef), (vs1008.getD 1 undef)] w1010) (Ret P n_slices_Grow_byte [(.slice none 0 0), (vs1003.getD 2 undef)] w1005 fun v1018 w1019 =>
xLen a0 fun v1020 =>
XLoop [(.int .i64 0), undef, v1018] w1019 (S_slices_Concat_byte_l1 K a0 v1020))
abbrev S_slices_Concat_byte (a0 : Value) (K : Value → World → Prop) (w0 : World) : Prop :=
xLen a0 fun v1000 =>
XLoop [(.int .i64 0), undef, (.int .i64 0)] w0 (S_slices_Concat_byte_l2 K a0 v1000)
theorem W_slices_Concat_byte {a0 : Value} {K : Value → World → Prop} {w : World} (h : S_slices_Concat_byte a0 K w) : Ret P n_slices_Concat_byte [a0] w K :=
  vcF_of mixed Tryz.func208 (show S_slices_Concat_byte a0 K w = vcF P Tryz.f208 [a0] w K from by kernel_rfl) h
/- spunyarn/kids.New[*spunyarn/node.Node] -/
abbrev S_kids_New_Node  (K : Value → World → Prop) (w0 : World) : Prop :=
Ret P n_kids_room_Node [(.int .i64 4)] w0 fun v1000 w1001 =>
K v1000 w1001
theorem W_kids_New_Node {K : Value → World → Prop} {w : World} (h : S_kids_New_Node  K w) : Ret P n_kids_New_Node [] w K :=
  vcF_of mixed Tryz.func209 (show S_kids_New_Node  K w = vcF P Tryz.f209 [] w K from by kernel_rfl) h
/- (*spunyarn/node.Node).inner -/
abbrev S_node_Node_inner (a0 : Value) (a1 : Value) (K : Value → World → Prop) (w0 : World) : Prop :=
Ret P n_node_Node_may [a0, a1] w0 fun v1000 w1001 =>
/- 0 -/ XJ (fun J1002 =>
xEq v1000 (.int .i64 0) fun v1006 =>
xIf v1006 (Ret P n_node_Node_isLeaf [a0] w1001 fun v1007 w1008 =>
J1002 [v1007] w1008) (J1002 [(.bool false)] w1001)) fun vs1003 g1004 w1005 =>
xIf (vs1003.getD 0 undef) (K (.int .i64 9) w1005) (K v1000 w1005)
theorem W_node_Node_inner {a0 a1 : Value} {K : Value → World → Prop} {w : World} (h : S_node_Node_inner a0 a1 K w) : Ret P n_node_Node_inner [a0, a1] w K :=
  vcF_of mixed Tryz.func210 (show S_node_Node_inner a0 a1 K w = vcF P Tryz.f210 [a0, a1] w K from by kernel_rfl) h
/- (*spunyarn/kids.Kids[*spunyarn/node.Node]).Set -/
abbrev S_kids_Kids_Set (a0 : Value) (a1 : Value) (a2 : Value) (K : Value → World → Prop) (w0 : World) : Prop :=
Ret P n_kids_Kids_ok [a0] w0 fun v1000 w1001 =>
xNot v1000 fun v1002 =>
xIf v1002 (K (.int .i64 2) w1001) (/- 0 _ 1 is -/ XJ (fun J1003 =>
Ret P n_kids_Kids_Get [a0, a1] w1001 fun v1007 w1008 =>
xTup v1007 0 fun v1009 =>
xTup v1007 1 fun v1010 =>
/- 0 -/ XJ (fun J1011 =>
xNot v1010 fun v1015 =>
xIf v1015 (Ret P n_kids_Kids_Len [a0] w1008 fun v1016 w1017 =>
Ret P n_kids_Kids_Kind [a0] w1017 fun v1018 w1019 =>
xEq v1016 v1018 fun v1020 =>
J1011 [v1020] w1019) (J1011 [(.bool false)] w1008)) fun vs1012 g1013 w1014 =>
xIf (vs1012.getD 0 undef) (Ret P n_kids_Kids_Len [a0] w1014 fun v1021 w1022 =>
xAdd v1021 (.int .i64 1) fun v1023 =>
Ret P n_kids_KindOf [v1023] w1022 fun v1024 w1025 =>
Ret P n_kids_move_Node [a0, v1024] w1025 fun v1026 w1027 =>
J1003 [v1009, v1010] w1027) (J1003 [v1009, v1010] w1014)) fun vs1004 g1005 w1006 =>
Ret P n_kids_Kids_put [a0, a1, a2] w1006 fun v1028 w1029 =>
K (.int .i64 0) w1029)
theorem W_kids_Kids_Set {a0 a1 a2 : Value} {K : Value → World → Prop} {w : World} (h : S_kids_Kids_Set a0 a1 a2 K w) : Ret P n_kids_Kids_Set [a0, a1, a2] w K :=
  vcF_of mixed Tryz.func211 (show S_kids_Kids_Set a0 a1 a2 K w = vcF P Tryz.f211 [a0, a1, a2] w K from by kernel_rfl) h
/- spunyarn/canon.Count$1 -/
abbrev S_canon_Count_1 (a0 : Value) (a1 : Value) (a2 : Value) (K : Value → World → Prop) (w0 : World) : Prop :=
Ret P n_node_Node_Val [a1] w0 fun v1000 w1001 =>
xTup v1000 0 fun v1002 =>
xTup v1000 1 fun v1003 =>
xIf v1003 (xAt a2 fun a1004 =>
XLd w1001 a1004 fun v1005 =>
xAdd v1005 (.int .i64 1) fun v1006 =>
xAt a2 fun a1008 =>
XSt w1001 a1008 v1006 fun w1007 =>
K (.tuple #[]) w1007) (K (.tuple #[]) w1001)
theorem W_canon_Count_1 {a0 a1 a2 : Value} {K : Value → World → Prop} {w : World} (h : S_canon_Count_1 a0 a1 a2 K w) : Ret P n_canon_Count_1 [a0, a1, a2] w K :=
  vcF_of mixed Tryz.func214 (show S_canon_Count_1 a0 a1 a2 K w = vcF P Tryz.f214 [a0, a1, a2] w K from by kernel_rfl) h
/- (*sync/atomic.Uint64).Add -/
abbrev S_atomic_Uint64_Add (a0 : Value) (a1 : Value) (K : Value → World → Prop) (w0 : World) : Prop :=
xAt a0 fun a1000 =>
xCall P 266 [(.pointer (some (a1000.add 0))), a1] w0 fun v1001 w1002 =>
K v1001 w1002
theorem W_atomic_Uint64_Add {a0 a1 : Value} {K : Value → World → Prop} {w : World} (h : S_atomic_Uint64_Add a0 a1 K w) : Ret P n_atomic_Uint64_Add [a0, a1] w K :=
  vcF_of mixed Tryz.func215 (show S_atomic_Uint64_Add a0 a1 K w = vcF P Tryz.f215 [a0, a1] w K from by kernel_rfl) h
end Go.Proofs.YtbleadagnpckbaaGreatDoor
