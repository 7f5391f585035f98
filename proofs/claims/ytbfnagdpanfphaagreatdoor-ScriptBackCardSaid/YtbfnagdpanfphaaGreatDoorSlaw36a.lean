/-  Written by gen.py for this claim: of each function a form without frames, the same as the engine's condition by reckoning.  -/
import Derived.Test.YtbfnagdpanfphaaGreatDoorSN
import Derived.Test.YtbfnagdpanfphaaGreatDoorProg
namespace Go.Proofs.YtbfnagdpanfphaaGreatDoor
open Go X
set_option linter.unusedVariables false
set_option maxRecDepth 100000
/- spunyarn/spunyarnlaw36.ScriptTexts -/
abbrev S_law36_ScriptTexts (a0 : Value) (K : Value → World → Prop) (w0 : World) : Prop :=
XNew w0 (cellsV a0) 27 fun a1000 w1001 =>
XLdN w1001 a1000 12 fun v1002 =>
Ret P n_law36_far [v1002] w1001 fun v1003 w1004 =>
xIf v1003 (Ret P n_law36_alive [] w1004 fun v1005 w1006 =>
K v1005 w1006) (XLdN w1004 a1000 12 fun v1007 =>
Ret P n_law36_op [v1007] w1004 fun v1008 w1009 =>
Ret P n_script_Text [v1008] w1009 fun v1010 w1011 =>
xTup v1010 0 fun v1012 =>
xTup v1010 1 fun v1013 =>
XLdN w1011 a1000 12 fun v1014 =>
Ret P n_ref36_Text [v1014] w1011 fun v1015 w1016 =>
xTup v1015 0 fun v1017 =>
xTup v1015 1 fun v1018 =>
/- 0 -/ XJ (fun J1019 =>
xSEq v1012 v1017 fun v1023 =>
xIf v1023 (xEq v1013 v1018 fun v1024 =>
xIf v1024 (XLdN w1016.drew a1000 12 fun v1025 =>
XLdN w1016.drew a1000 12 fun v1026 =>
Ret P n_law36_op [v1025] w1016.drew fun v1027 w1028 =>
xKeepN w1028 (.pointer (some a1000)) v1026 ∧ (Ret P n_script_Bare [v1027] w1028 fun v1029 w1030 =>
xKeepN w1030 (.pointer (some a1000)) v1026 ∧ (Ret P n_law36_plainly [v1029] w1030 fun v1031 w1032 =>
xKeepN w1032 (.pointer (some a1000)) v1026 ∧ (Ret P n_ref36_Bare [v1026] w1032 fun v1033 w1034 =>
Ret P n_ref36_Same [v1031, v1033] w1034 fun v1035 w1036 =>
xIf v1035 (Ret P n_law36_alive [] w1036 fun v1037 w1038 =>
J1019 [v1037] w1038) (J1019 [(.bool false)] w1036))))) (J1019 [(.bool false)] (w1016.drew))) (J1019 [(.bool false)] (w1016.drew))) fun vs1020 g1021 w1022 =>
K (vs1020.getD 0 undef) w1022)
theorem W_law36_ScriptTexts {a0 : Value} {K : Value → World → Prop} {w : World} (h : S_law36_ScriptTexts a0 K w) : Ret P n_law36_ScriptTexts [a0] w K :=
  vcF_of mixed Tryz.func3 (show S_law36_ScriptTexts a0 K w = vcF P Tryz.f3 [a0] w K from by kernel_rfl) h
/- spunyarn/spunyarnlaw36.ScriptBack -/
abbrev S_law36_ScriptBack (a0 : Value) (K : Value → World → Prop) (w0 : World) : Prop :=
XNew w0 (cellsV a0) 27 fun a1000 w1001 =>
XLdN w1001 a1000 12 fun v1002 =>
Ret P n_law36_far [v1002] w1001 fun v1003 w1004 =>
xIf v1003 (Ret P n_law36_alive [] w1004 fun v1005 w1006 =>
K v1005 w1006) (XLdN w1004 a1000 12 fun v1007 =>
Ret P n_law36_op [v1007] w1004 fun v1008 w1009 =>
Ret P n_script_Text [v1008] w1009 fun v1010 w1011 =>
xTup v1010 0 fun v1012 =>
xTup v1010 1 fun v1013 =>
xNe v1013 (.int .i64 0) fun v1014 =>
xIf v1014 (/- 0 -/ XJ (fun J1015 =>
xSEq v1012 (.string ⟨#[]⟩) fun v1019 =>
xIf v1019 (Ret P n_law36_alive [] w1011 fun v1020 w1021 =>
J1015 [v1020] w1021) (J1015 [(.bool false)] w1011)) fun vs1016 g1017 w1018 =>
K (vs1016.getD 0 undef) w1018) (Ret P n_script_Parse [v1012] w1011 fun v1022 w1023 =>
xTup v1022 0 fun v1024 =>
xTup v1022 1 fun v1025 =>
XNew w1023 [(.int .i64 0), (.int .i64 0), (.int .i64 0), (.slice none 0 0), (.slice none 0 0), (.bool false), (.int .u64 0), (.int .i64 0), (.bool false), (.slice none 0 0), (.slice none 0 0), (.slice none 0 0)] 36 fun a1026 w1027 =>
XDo P (storeVar 36 a1026 v1024) w1027 fun w1028 =>
/- 0 -/ XJ (fun J1029 =>
xEq v1025 (.int .i64 0) fun v1033 =>
xIf v1033 (XLdN w1028.drew a1026 12 fun v1034 =>
XLdN w1028.drew a1000 12 fun v1035 =>
Ret P n_law36_plainly [v1034] w1028.drew fun v1036 w1037 =>
xKeepN w1037 (.pointer (some a1000)) v1035 ∧ (Ret P n_law36_op [v1035] w1037 fun v1038 w1039 =>
Ret P n_script_Bare [v1038] w1039 fun v1040 w1041 =>
Ret P n_law36_plainly [v1040] w1041 fun v1042 w1043 =>
Ret P n_ref36_Same [v1036, v1042] w1043 fun v1044 w1045 =>
xIf v1044 (Ret P n_script_Lines [v1012] w1045 fun v1046 w1047 =>
xLen v1046 fun v1048 =>
xEq v1048 (.int .i64 1) fun v1049 =>
xIf v1049 (Ret P n_law36_alive [] w1047 fun v1050 w1051 =>
J1029 [v1050] w1051) (J1029 [(.bool false)] w1047)) (J1029 [(.bool false)] w1045))) (J1029 [(.bool false)] (w1028.drew))) fun vs1030 g1031 w1032 =>
K (vs1030.getD 0 undef) w1032))
theorem W_law36_ScriptBack {a0 : Value} {K : Value → World → Prop} {w : World} (h : S_law36_ScriptBack a0 K w) : Ret P n_law36_ScriptBack [a0] w K :=
  vcF_of mixed Tryz.func4 (show S_law36_ScriptBack a0 K w = vcF P Tryz.f4 [a0] w K from by kernel_rfl) h
/- spunyarn/spunyarnlaw36.far -/
/- S_law36_far_l1: 0=slot 60 1=slot 2 -/
def S_law36_far_l1 (K : Value → World → Prop) (v1059 : Value) (v1060 : Value) (I1061 : Nat → List Value → World → Prop) (n1062 : Nat) (vs1063 : List Value) (g1064 : Nat → Value) (w1065 : World) : Prop :=
xLt (vs1063.getD 0 undef) v1060 fun v1066 =>
xIf v1066 (xIxS v1059 (vs1063.getD 0 undef) 4 fun v1067 =>
xAt v1067 fun a1068 =>
XLdN w1065 a1068 4 fun v1069 =>
XNew w1065 [(.slice none 0 0), (.int .i64 0), (.int .u64 0), (.int .u64 0)] 52 fun a1070 w1071 =>
XDo P (storeVar 52 a1070 v1069) w1071 fun w1072 =>
XLd w1072 (a1070.add 0) fun v1073 =>
xLen v1073 fun v1074 =>
xGt v1074 (.int .i64 300) fun v1075 =>
xIf v1075 (K (.bool true) w1072) (xAdd (vs1063.getD 0 undef) (.int .i64 1) fun v1076 =>
XNext I1061 n1062 [v1076, (vs1063.getD 1 undef)] w1072)) (K (.bool false) w1065)
/- S_law36_far_l2: 0=slot 48 1=slot 2 -/
def S_law36_far_l2 (K : Value → World → Prop) (a1000 : Addr) (v1041 : Value) (v1042 : Value) (I1043 : Nat → List Value → World → Prop) (n1044 : Nat) (vs1045 : List Value) (g1046 : Nat → Value) (w1047 : World) : Prop :=
xLt (vs1045.getD 0 undef) v1042 fun v1048 =>
xIf v1048 (xIxS v1041 (vs1045.getD 0 undef) 2 fun v1049 =>
xAt v1049 fun a1050 =>
XLdN w1047 a1050 2 fun v1051 =>
XNew w1047 [(.slice none 0 0), (.int .u64 0)] 50 fun a1052 w1053 =>
XDo P (storeVar 50 a1052 v1051) w1053 fun w1054 =>
XLd w1054 (a1052.add 0) fun v1055 =>
xLen v1055 fun v1056 =>
xGt v1056 (.int .i64 300) fun v1057 =>
xIf v1057 (K (.bool true) w1054) (xAdd (vs1045.getD 0 undef) (.int .i64 1) fun v1058 =>
XNext I1043 n1044 [v1058, (vs1045.getD 1 undef)] w1054)) (XLd w1047 (a1000.add 10) fun v1059 =>
xLen v1059 fun v1060 =>
XLoop [(.int .i64 0), (vs1045.getD 1 undef)] w1047 (S_law36_far_l1 K v1059 v1060))
/- S_law36_far_l3: 0=slot 17 1=slot 4 k 2=slot 2 -/
def S_law36_far_l3 (K : Value → World → Prop) (a1000 : Addr) (a1006 : Addr) (v1008 : Value) (I1009 : Nat → List Value → World → Prop) (n1010 : Nat) (vs1011 : List Value) (g1012 : Nat → Value) (w1013 : World) : Prop :=
xLt (vs1011.getD 0 undef) v1008 fun v1014 =>
xIf v1014 (xIxS (.slice (some a1006) 3 3) (vs1011.getD 0 undef) 1 fun v1015 =>
xAt v1015 fun a1016 =>
XLd w1013 a1016 fun v1017 =>
/- 0 -/ XJ (fun J1018 =>
xLen v1017 fun v1022 =>
xGt v1022 (.int .i64 300) fun v1023 =>
xIf v1023 (xLen v1017 fun v1024 =>
xLe v1024 (.int .i64 65535) fun v1025 =>
xIf v1025 (J1018 [(.bool true)] w1013) (xLen v1017 fun v1026 =>
xGt v1026 (.int .i64 66000) fun v1027 =>
J1018 [v1027] w1013)) (xLen v1017 fun v1028 =>
xGt v1028 (.int .i64 66000) fun v1029 =>
J1018 [v1029] w1013)) fun vs1019 g1020 w1021 =>
xIf (vs1019.getD 0 undef) (K (.bool true) w1021) (xAdd (vs1011.getD 0 undef) (.int .i64 1) fun v1030 =>
XNext I1009 n1010 [v1030, v1017, (vs1011.getD 2 undef)] w1021)) (/- 0 -/ XJ (fun J1031 =>
XLd w1013 (a1000.add 9) fun v1035 =>
xLen v1035 fun v1036 =>
xGt v1036 (.int .i64 60) fun v1037 =>
xIf v1037 (J1031 [(.bool true)] w1013) (XLd w1013 (a1000.add 10) fun v1038 =>
xLen v1038 fun v1039 =>
xGt v1039 (.int .i64 60) fun v1040 =>
J1031 [v1040] w1013)) fun vs1032 g1033 w1034 =>
xIf (vs1032.getD 0 undef) (K (.bool true) w1034) (XLd w1034 (a1000.add 9) fun v1041 =>
xLen v1041 fun v1042 =>
XLoop [(.int .i64 0), (vs1011.getD 2 undef)] w1034 (S_law36_far_l2 K a1000 v1041 v1042)))
abbrev S_law36_far (a0 : Value) (K : Value → World → Prop) (w0 : World) : Prop :=
XNew w0 (cellsV a0) 27 fun a1000 w1001 =>
XLd w1001 (a1000.add 3) fun v1002 =>
XLd w1001 (a1000.add 4) fun v1003 =>
XLd w1001 (a1000.add 11) fun v1004 =>
xFill (repL [(.slice none 0 0)] 3) [(0, 1, v1002), (1, 1, v1003), (2, 1, v1004)] fun c1005 =>
XNew w1001 c1005 22 fun a1006 w1007 =>
xLen (.slice (some a1006) 3 3) fun v1008 =>
XLoop [(.int .i64 0), undef, (.bool false)] w1007 (S_law36_far_l3 K a1000 a1006 v1008)
theorem W_law36_far {a0 : Value} {K : Value → World → Prop} {w : World} (h : S_law36_far a0 K w) : Ret P n_law36_far [a0] w K :=
  vcF_of mixed Tryz.func5 (show S_law36_far a0 K w = vcF P Tryz.f5 [a0] w K from by kernel_rfl) h
/- spunyarn/spunyarnlaw36.alive -/
abbrev S_law36_alive  (K : Value → World → Prop) (w0 : World) : Prop :=
Ret P n_script_Parse [(.string ⟨#[112, 117, 116, 32, 49, 32, 48, 49, 48, 50, 32, 53]⟩)] w0 fun v1000 w1001 =>
xTup v1000 0 fun v1002 =>
xTup v1000 1 fun v1003 =>
XNew w1001 [(.int .i64 0), (.int .i64 0), (.int .i64 0), (.slice none 0 0), (.slice none 0 0), (.bool false), (.int .u64 0), (.int .i64 0), (.bool false), (.slice none 0 0), (.slice none 0 0), (.slice none 0 0)] 36 fun a1004 w1005 =>
XDo P (storeVar 36 a1004 v1002) w1005 fun w1006 =>
XLdN w1006 a1004 12 fun v1007 =>
Ret P n_script_Text [v1007] w1006 fun v1008 w1009 =>
xTup v1008 0 fun v1010 =>
xTup v1008 1 fun v1011 =>
/- 0 -/ XJ (fun J1012 =>
XLd w1009 (a1004.add 0) fun v1016 =>
xEq v1016 (.int .i64 3) fun v1017 =>
xIf v1017 (XLd w1009 (a1004.add 1) fun v1018 =>
xEq v1018 (.int .i64 1) fun v1019 =>
xIf v1019 (XLd w1009 (a1004.add 3) fun v1020 =>
xLen v1020 fun v1021 =>
xEq v1021 (.int .i64 2) fun v1022 =>
xIf v1022 (XLd w1009 (a1004.add 6) fun v1023 =>
xEq v1023 (.int .u64 5) fun v1024 =>
xIf v1024 (xEq v1003 (.int .i64 0) fun v1025 =>
xIf v1025 (xSEq v1010 (.string ⟨#[112, 117, 116, 32, 49, 32, 48, 49, 48, 50, 32, 53]⟩) fun v1026 =>
xIf v1026 (xEq v1011 (.int .i64 0) fun v1027 =>
xIf v1027 (Ret P n_script_Name [(.int .i64 32)] w1009 fun v1028 w1029 =>
xSEq v1028 (.string ⟨#[99, 111, 117, 110, 116]⟩) fun v1030 =>
xIf v1030 (Ret P n_script_Lines [(.string ⟨#[97, 10, 98, 10]⟩)] w1029 fun v1031 w1032 =>
xLen v1031 fun v1033 =>
xEq v1033 (.int .i64 2) fun v1034 =>
xIf v1034 (XLdN w1032 a1004 12 fun v1035 =>
Ret P n_script_Bare [v1035] w1032 fun v1036 w1037 =>
xPart false v1036 1 1 fun v1038 =>
xEq v1038 (.int .i64 1) fun v1039 =>
J1012 [v1039] w1037) (J1012 [(.bool false)] w1032)) (J1012 [(.bool false)] w1029)) (J1012 [(.bool false)] w1009)) (J1012 [(.bool false)] w1009)) (J1012 [(.bool false)] w1009)) (J1012 [(.bool false)] w1009)) (J1012 [(.bool false)] w1009)) (J1012 [(.bool false)] w1009)) (J1012 [(.bool false)] w1009)) fun vs1013 g1014 w1015 =>
K (vs1013.getD 0 undef) w1015
theorem W_law36_alive {K : Value → World → Prop} {w : World} (h : S_law36_alive  K w) : Ret P n_law36_alive [] w K :=
  vcF_of mixed Tryz.func6 (show S_law36_alive  K w = vcF P Tryz.f6 [] w K from by kernel_rfl) h
/- spunyarn/spunyarnlaw36.op -/
/- S_law36_op_l1: 0=slot 24 1=slot 6 l -/
def S_law36_op_l1 (K : Value → World → Prop) (a1000 : Addr) (a1002 : Addr) (vs1008 : List Value) (v1025 : Value) (v1026 : Value) (I1027 : Nat → List Value → World → Prop) (n1028 : Nat) (vs1029 : List Value) (g1030 : Nat → Value) (w1031 : World) : Prop :=
xLt (vs1029.getD 0 undef) v1026 fun v1032 =>
xIf v1032 (xIxS v1025 (vs1029.getD 0 undef) 4 fun v1033 =>
xAt v1033 fun a1034 =>
XLdN w1031 a1034 4 fun v1035 =>
XNew w1031 [(.slice none 0 0), (.int .i64 0), (.int .u64 0), (.int .u64 0)] 52 fun a1036 w1037 =>
XDo P (storeVar 52 a1036 v1035) w1037 fun w1038 =>
XLdN w1038 a1036 4 fun v1039 =>
xFill (repL [(.slice none 0 0), (.int .i64 0), (.int .u64 0), (.int .u64 0)] 1) [(0, 4, v1039)] fun c1040 =>
XNew w1038 c1040 59 fun a1041 w1042 =>
XRun P (Builtin.append_ #[34, 34] 34 #[(vs1029.getD 1 undef), (.slice (some a1041) 1 1)]) w1042 fun v1043 w1044 =>
xAdd (vs1029.getD 0 undef) (.int .i64 1) fun v1045 =>
XNext I1027 n1028 [v1045, v1043] w1044) (XLd w1031 (a1000.add 0) fun v1046 =>
XLd w1031 (a1000.add 1) fun v1047 =>
XLd w1031 (a1000.add 2) fun v1048 =>
XLd w1031 (a1000.add 3) fun v1049 =>
XLd w1031 (a1000.add 4) fun v1050 =>
XLd w1031 (a1000.add 5) fun v1051 =>
XLd w1031 (a1000.add 6) fun v1052 =>
XLd w1031 (a1000.add 7) fun v1053 =>
XLd w1031 (a1000.add 8) fun v1054 =>
XLd w1031 (a1000.add 11) fun v1055 =>
xFill [(.int .i64 0), (.int .i64 0), (.int .i64 0), (.slice none 0 0), (.slice none 0 0), (.bool false), (.int .u64 0), (.int .i64 0), (.bool false), (.slice none 0 0), (.slice none 0 0), (.slice none 0 0)] [(0, 1, v1046), (1, 1, v1047), (2, 1, v1048), (3, 1, v1049), (4, 1, v1050), (5, 1, v1051), (6, 1, v1052), (7, 1, v1053), (8, 1, v1054), (9, 1, (vs1008.getD 1 undef)), (10, 1, (vs1029.getD 1 undef)), (11, 1, v1055)] fun c1056 =>
XDo P (storeVar 36 a1002 (.agg c1056.toArray)) w1031 fun w1057 =>
XLdN w1057 a1002 12 fun v1058 =>
K v1058 w1057)
/- S_law36_op_l2: 0=slot 12 1=slot 3 p -/
def S_law36_op_l2 (K : Value → World → Prop) (a1000 : Addr) (a1002 : Addr) (v1004 : Value) (v1005 : Value) (I1006 : Nat → List Value → World → Prop) (n1007 : Nat) (vs1008 : List Value) (g1009 : Nat → Value) (w1010 : World) : Prop :=
xLt (vs1008.getD 0 undef) v1005 fun v1011 =>
xIf v1011 (xIxS v1004 (vs1008.getD 0 undef) 2 fun v1012 =>
xAt v1012 fun a1013 =>
XLdN w1010 a1013 2 fun v1014 =>
XNew w1010 [(.slice none 0 0), (.int .u64 0)] 50 fun a1015 w1016 =>
XDo P (storeVar 50 a1015 v1014) w1016 fun w1017 =>
XLdN w1017 a1015 2 fun v1018 =>
xFill (repL [(.slice none 0 0), (.int .u64 0)] 1) [(0, 2, v1018)] fun c1019 =>
XNew w1017 c1019 58 fun a1020 w1021 =>
XRun P (Builtin.append_ #[33, 33] 33 #[(vs1008.getD 1 undef), (.slice (some a1020) 1 1)]) w1021 fun v1022 w1023 =>
xAdd (vs1008.getD 0 undef) (.int .i64 1) fun v1024 =>
XNext I1006 n1007 [v1024, v1022] w1023) (XLd w1010 (a1000.add 10) fun v1025 =>
xLen v1025 fun v1026 =>
XLoop [(.int .i64 0), (.slice none 0 0)] w1010 (S_law36_op_l1 K a1000 a1002 vs1008 v1025 v1026))
abbrev S_law36_op (a0 : Value) (K : Value → World → Prop) (w0 : World) : Prop :=
XNew w0 (cellsV a0) 27 fun a1000 w1001 =>
XNew w1001 [(.int .i64 0), (.int .i64 0), (.int .i64 0), (.slice none 0 0), (.slice none 0 0), (.bool false), (.int .u64 0), (.int .i64 0), (.bool false), (.slice none 0 0), (.slice none 0 0), (.slice none 0 0)] 36 fun a1002 w1003 =>
XLd w1003 (a1000.add 9) fun v1004 =>
xLen v1004 fun v1005 =>
XLoop [(.int .i64 0), (.slice none 0 0)] w1003 (S_law36_op_l2 K a1000 a1002 v1004 v1005)
theorem W_law36_op {a0 : Value} {K : Value → World → Prop} {w : World} (h : S_law36_op a0 K w) : Ret P n_law36_op [a0] w K :=
  vcF_of mixed Tryz.func8 (show S_law36_op a0 K w = vcF P Tryz.f8 [a0] w K from by kernel_rfl) h
/- spunyarn/spunyarnlaw36.plainly -/
/- S_law36_plainly_l1: 0=slot 24 1=slot 6 l -/
def S_law36_plainly_l1 (K : Value → World → Prop) (a1000 : Addr) (a1002 : Addr) (vs1008 : List Value) (v1025 : Value) (v1026 : Value) (I1027 : Nat → List Value → World → Prop) (n1028 : Nat) (vs1029 : List Value) (g1030 : Nat → Value) (w1031 : World) : Prop :=
xLt (vs1029.getD 0 undef) v1026 fun v1032 =>
xIf v1032 (xIxS v1025 (vs1029.getD 0 undef) 4 fun v1033 =>
xAt v1033 fun a1034 =>
XLdN w1031 a1034 4 fun v1035 =>
XNew w1031 [(.slice none 0 0), (.int .i64 0), (.int .u64 0), (.int .u64 0)] 59 fun a1036 w1037 =>
XDo P (storeVar 59 a1036 v1035) w1037 fun w1038 =>
XLdN w1038 a1036 4 fun v1039 =>
xFill (repL [(.slice none 0 0), (.int .i64 0), (.int .u64 0), (.int .u64 0)] 1) [(0, 4, v1039)] fun c1040 =>
XNew w1038 c1040 52 fun a1041 w1042 =>
XRun P (Builtin.append_ #[25, 25] 25 #[(vs1029.getD 1 undef), (.slice (some a1041) 1 1)]) w1042 fun v1043 w1044 =>
xAdd (vs1029.getD 0 undef) (.int .i64 1) fun v1045 =>
XNext I1027 n1028 [v1045, v1043] w1044) (XLd w1031 (a1000.add 0) fun v1046 =>
XLd w1031 (a1000.add 1) fun v1047 =>
XLd w1031 (a1000.add 2) fun v1048 =>
XLd w1031 (a1000.add 3) fun v1049 =>
XLd w1031 (a1000.add 4) fun v1050 =>
XLd w1031 (a1000.add 5) fun v1051 =>
XLd w1031 (a1000.add 6) fun v1052 =>
XLd w1031 (a1000.add 7) fun v1053 =>
XLd w1031 (a1000.add 8) fun v1054 =>
XLd w1031 (a1000.add 11) fun v1055 =>
xFill [(.int .i64 0), (.int .i64 0), (.int .i64 0), (.slice none 0 0), (.slice none 0 0), (.bool false), (.int .u64 0), (.int .i64 0), (.bool false), (.slice none 0 0), (.slice none 0 0), (.slice none 0 0)] [(0, 1, v1046), (1, 1, v1047), (2, 1, v1048), (3, 1, v1049), (4, 1, v1050), (5, 1, v1051), (6, 1, v1052), (7, 1, v1053), (8, 1, v1054), (9, 1, (vs1008.getD 1 undef)), (10, 1, (vs1029.getD 1 undef)), (11, 1, v1055)] fun c1056 =>
XDo P (storeVar 27 a1002 (.agg c1056.toArray)) w1031 fun w1057 =>
XLdN w1057 a1002 12 fun v1058 =>
K v1058 w1057)
/- S_law36_plainly_l2: 0=slot 12 1=slot 3 p -/
def S_law36_plainly_l2 (K : Value → World → Prop) (a1000 : Addr) (a1002 : Addr) (v1004 : Value) (v1005 : Value) (I1006 : Nat → List Value → World → Prop) (n1007 : Nat) (vs1008 : List Value) (g1009 : Nat → Value) (w1010 : World) : Prop :=
xLt (vs1008.getD 0 undef) v1005 fun v1011 =>
xIf v1011 (xIxS v1004 (vs1008.getD 0 undef) 2 fun v1012 =>
xAt v1012 fun a1013 =>
XLdN w1010 a1013 2 fun v1014 =>
XNew w1010 [(.slice none 0 0), (.int .u64 0)] 58 fun a1015 w1016 =>
XDo P (storeVar 58 a1015 v1014) w1016 fun w1017 =>
XLdN w1017 a1015 2 fun v1018 =>
xFill (repL [(.slice none 0 0), (.int .u64 0)] 1) [(0, 2, v1018)] fun c1019 =>
XNew w1017 c1019 50 fun a1020 w1021 =>
XRun P (Builtin.append_ #[24, 24] 24 #[(vs1008.getD 1 undef), (.slice (some a1020) 1 1)]) w1021 fun v1022 w1023 =>
xAdd (vs1008.getD 0 undef) (.int .i64 1) fun v1024 =>
XNext I1006 n1007 [v1024, v1022] w1023) (XLd w1010 (a1000.add 10) fun v1025 =>
xLen v1025 fun v1026 =>
XLoop [(.int .i64 0), (.slice none 0 0)] w1010 (S_law36_plainly_l1 K a1000 a1002 vs1008 v1025 v1026))
abbrev S_law36_plainly (a0 : Value) (K : Value → World → Prop) (w0 : World) : Prop :=
XNew w0 (cellsV a0) 36 fun a1000 w1001 =>
XNew w1001 [(.int .i64 0), (.int .i64 0), (.int .i64 0), (.slice none 0 0), (.slice none 0 0), (.bool false), (.int .u64 0), (.int .i64 0), (.bool false), (.slice none 0 0), (.slice none 0 0), (.slice none 0 0)] 27 fun a1002 w1003 =>
XLd w1003 (a1000.add 9) fun v1004 =>
xLen v1004 fun v1005 =>
XLoop [(.int .i64 0), (.slice none 0 0)] w1003 (S_law36_plainly_l2 K a1000 a1002 v1004 v1005)
theorem W_law36_plainly {a0 : Value} {K : Value → World → Prop} {w : World} (h : S_law36_plainly a0 K w) : Ret P n_law36_plainly [a0] w K :=
  vcF_of mixed Tryz.func11 (show S_law36_plainly a0 K w = vcF P Tryz.f11 [a0] w K from by kernel_rfl) h
end Go.Proofs.YtbfnagdpanfphaaGreatDoor
