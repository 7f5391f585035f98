/-  Written by gen.py for this claim: of each function a form without frames, the same as the engine's condition by reckoning.  -/
import Derived.Test.YthnegkjhciakpaaGreatDoorSN
import Derived.Test.YthnegkjhciakpaaGreatDoorProg
namespace Go.Proofs.YthnegkjhciakpaaGreatDoor
open Go X
set_option linter.unusedVariables false
set_option maxRecDepth 100000
/- spunyarn/spunyarnref01.Text -/
/- S_ref01_Text_l1: 0=slot 4 i 1=slot 3 s -/
def S_ref01_Text_l1 (K : Value → World → Prop) (a0 : Value) (I1000 : Nat → List Value → World → Prop) (n1001 : Nat) (vs1002 : List Value) (g1003 : Nat → Value) (w1004 : World) : Prop :=
xLen a0 fun v1005 =>
xLt (vs1002.getD 0 undef) v1005 fun v1006 =>
xIf v1006 (xIxS a0 (vs1002.getD 0 undef) 1 fun v1007 =>
xAt v1007 fun a1008 =>
XLd w1004 a1008 fun v1009 =>
Ret P n_ref01_digits [v1009] w1004 fun v1010 w1011 =>
xSCat (vs1002.getD 1 undef) v1010 fun v1012 =>
xAdd (vs1002.getD 0 undef) (.int .i64 1) fun v1013 =>
XNext I1000 n1001 [v1013, v1012] w1011) (K (vs1002.getD 1 undef) w1004)
abbrev S_ref01_Text (a0 : Value) (K : Value → World → Prop) (w0 : World) : Prop :=
XLoop [(.int .i64 0), (.string ⟨#[]⟩)] w0 (S_ref01_Text_l1 K a0)
theorem W_ref01_Text {a0 : Value} {K : Value → World → Prop} {w : World} (h : S_ref01_Text a0 K w) : Ret P n_ref01_Text [a0] w K :=
  vcF_of mixed Tryz.func117 (show S_ref01_Text a0 K w = vcF P Tryz.f117 [a0] w K from by kernel_rfl) h
/- spunyarn/spunyarnref13.Digits -/
/- S_ref13_Digits_l1: 0=slot 0 n 1=slot 4 d 2=slot 3 s 3=slot 2 -/
def S_ref13_Digits_l1 (K : Value → World → Prop) (I1000 : Nat → List Value → World → Prop) (n1001 : Nat) (vs1002 : List Value) (g1003 : Nat → Value) (w1004 : World) : Prop :=
xRem (vs1002.getD 0 undef) (.int .u64 10) fun v1005 =>
xConv .i64 v1005 fun v1006 =>
xAdd v1006 (.int .i64 1) fun v1007 =>
xCutStr (.string ⟨#[48, 49, 50, 51, 52, 53, 54, 55, 56, 57]⟩) (some v1006) (some v1007) fun v1008 =>
xSCat v1008 (vs1002.getD 2 undef) fun v1009 =>
xQuo (vs1002.getD 0 undef) (.int .u64 10) fun v1010 =>
xEq v1010 (.int .u64 0) fun v1011 =>
xIf v1011 (K v1009 w1004) (XNext I1000 n1001 [v1010, v1006, v1009, (vs1002.getD 3 undef)] w1004)
abbrev S_ref13_Digits (a0 : Value) (K : Value → World → Prop) (w0 : World) : Prop :=
XLoop [a0, undef, (.string ⟨#[]⟩), (.string ⟨#[]⟩)] w0 (S_ref13_Digits_l1 K)
theorem W_ref13_Digits {a0 : Value} {K : Value → World → Prop} {w : World} (h : S_ref13_Digits a0 K w) : Ret P n_ref13_Digits [a0] w K :=
  vcF_of mixed Tryz.func118 (show S_ref13_Digits a0 K w = vcF P Tryz.f118 [a0] w K from by kernel_rfl) h
/- spunyarn/spunyarnref13.Check -/
/- S_ref13_Check_l1: 0=slot 3 i 1=slot 2 -/
def S_ref13_Check_l1 (K : Value → World → Prop) (a0 : Value) (I1000 : Nat → List Value → World → Prop) (n1001 : Nat) (vs1002 : List Value) (g1003 : Nat → Value) (w1004 : World) : Prop :=
xLen a0 fun v1005 =>
xLt (vs1002.getD 0 undef) v1005 fun v1006 =>
xIf v1006 (xIxS a0 (vs1002.getD 0 undef) 2 fun v1007 =>
xFld v1007 0 fun v1008 =>
xAt v1008 fun a1009 =>
XLd w1004 a1009 fun v1010 =>
xLen v1010 fun v1011 =>
xGt v1011 (.int .i64 65535) fun v1012 =>
xIf v1012 (K (.int .i64 8) w1004) (xAdd (vs1002.getD 0 undef) (.int .i64 1) fun v1013 =>
XNext I1000 n1001 [v1013, (vs1002.getD 1 undef)] w1004)) (Ret P n_ref01_Sorted [a0] w1004 fun v1014 w1015 =>
xNot v1014 fun v1016 =>
xIf v1016 (K (.int .i64 12) w1015) (K (.int .i64 0) w1015))
abbrev S_ref13_Check (a0 : Value) (K : Value → World → Prop) (w0 : World) : Prop :=
XLoop [(.int .i64 0), (.int .i64 0)] w0 (S_ref13_Check_l1 K a0)
theorem W_ref13_Check {a0 : Value} {K : Value → World → Prop} {w : World} (h : S_ref13_Check a0 K w) : Ret P n_ref13_Check [a0] w K :=
  vcF_of mixed Tryz.func126 (show S_ref13_Check a0 K w = vcF P Tryz.f126 [a0] w K from by kernel_rfl) h
/- spunyarn/keys.Common -/
/- S_keys_Common_l1: 0=slot 11 1=slot 5 i 2=slot 4 -/
def S_keys_Common_l1 (K : Value → World → Prop) (a0 : Value) (a1 : Value) (v1002 : Value) (I1003 : Nat → List Value → World → Prop) (n1004 : Nat) (vs1005 : List Value) (g1006 : Nat → Value) (w1007 : World) : Prop :=
xLt (vs1005.getD 0 undef) v1002 fun v1008 =>
xIf v1008 (xIxS a0 (vs1005.getD 0 undef) 1 fun v1009 =>
xAt v1009 fun a1010 =>
XLd w1007.drew a1010 fun v1011 =>
xIxS a1 (vs1005.getD 0 undef) 1 fun v1012 =>
xAt v1012 fun a1013 =>
XLd w1007.drew a1013 fun v1014 =>
xNe v1011 v1014 fun v1015 =>
xIf v1015 (K (vs1005.getD 0 undef) (w1007.drew)) (xAdd (vs1005.getD 0 undef) (.int .i64 1) fun v1016 =>
XNext I1003 n1004 [v1016, (vs1005.getD 0 undef), (vs1005.getD 2 undef)] (w1007.drew))) (xLen a0 fun v1017 =>
xLen a1 fun v1018 =>
xMin v1017 v1018 fun v1019 =>
K v1019 w1007)
abbrev S_keys_Common (a0 : Value) (a1 : Value) (K : Value → World → Prop) (w0 : World) : Prop :=
xLen a0 fun v1000 =>
xLen a1 fun v1001 =>
xMin v1000 v1001 fun v1002 =>
XLoop [(.int .i64 0), undef, (.int .i64 0)] w0 (S_keys_Common_l1 K a0 a1 v1002)
theorem W_keys_Common {a0 a1 : Value} {K : Value → World → Prop} {w : World} (h : S_keys_Common a0 a1 K w) : Ret P n_keys_Common [a0, a1] w K :=
  vcF_of mixed Tryz.func137 (show S_keys_Common a0 a1 K w = vcF P Tryz.f137 [a0, a1] w K from by kernel_rfl) h
/- spunyarn/canon.check -/
/- S_canon_check_l1: 0=slot 8 1=slot 5 e 2=slot 2 -/
def S_canon_check_l1 (K : Value → World → Prop) (a0 : Value) (v1000 : Value) (I1001 : Nat → List Value → World → Prop) (n1002 : Nat) (vs1003 : List Value) (g1004 : Nat → Value) (w1005 : World) : Prop :=
xLt (vs1003.getD 0 undef) v1000 fun v1006 =>
xIf v1006 (xIxS a0 (vs1003.getD 0 undef) 2 fun v1007 =>
xAt v1007 fun a1008 =>
XLdN w1005 a1008 2 fun v1009 =>
XNew w1005 [(.slice none 0 0), (.int .u64 0)] 158 fun a1010 w1011 =>
XDo P (storeVar 158 a1010 v1009) w1011 fun w1012 =>
XLd w1012 (a1010.add 0) fun v1013 =>
Ret P n_keys_May [v1013] w1012 fun v1014 w1015 =>
xNe v1014 (.int .i64 0) fun v1016 =>
xIf v1016 (K v1014 w1015) (xAdd (vs1003.getD 0 undef) (.int .i64 1) fun v1017 =>
XNext I1001 n1002 [v1017, v1014, (vs1003.getD 2 undef)] w1015)) (Ret P n_keys_Sorted [a0] w1005 fun v1018 w1019 =>
xNot v1018 fun v1020 =>
xIf v1020 (K (.int .i64 12) w1019) (K (.int .i64 0) w1019))
abbrev S_canon_check (a0 : Value) (K : Value → World → Prop) (w0 : World) : Prop :=
xLen a0 fun v1000 =>
XLoop [(.int .i64 0), undef, (.int .i64 0)] w0 (S_canon_check_l1 K a0 v1000)
theorem W_canon_check {a0 : Value} {K : Value → World → Prop} {w : World} (h : S_canon_check a0 K w) : Ret P n_canon_check [a0] w K :=
  vcF_of mixed Tryz.func142 (show S_canon_check a0 K w = vcF P Tryz.f142 [a0] w K from by kernel_rfl) h
/- (spunyarn/canon.maker).tree -/
/- S_canon_maker_tree_l1: 0=slot 11 many -/
def S_canon_maker_tree_l1 (a1000 : Addr) (v1028 : Value) (v1033 : Value) (I1049 : Nat → List Value → World → Prop) (n1050 : Nat) (vs1051 : List Value) (v1062 : Value) (I1063 : Nat → List Value → World → Prop) (n1064 : Nat) (vs1065 : List Value) (g1066 : Nat → Value) (w1067 : World) : Prop :=
/- 0 -/ XJ (fun J1068 =>
xLen (vs1051.getD 0 undef) fun v1072 =>
xLt (vs1065.getD 0 undef) v1072 fun v1073 =>
xIf v1073 (xIxS (vs1051.getD 0 undef) (vs1065.getD 0 undef) 2 fun v1074 =>
xFld v1074 0 fun v1075 =>
xAt v1075 fun a1076 =>
XLd w1067 a1076 fun v1077 =>
xIxS v1077 v1028 1 fun v1078 =>
xAt v1078 fun a1079 =>
XLd w1067 a1079 fun v1080 =>
xEq v1080 v1062 fun v1081 =>
J1068 [v1081] w1067) (J1068 [(.bool false)] w1067)) fun vs1069 g1070 w1071 =>
xIf (vs1069.getD 0 undef) (xAdd (vs1065.getD 0 undef) (.int .i64 1) fun v1082 =>
XNext I1063 n1064 [v1082] w1071) (XLd w1071.drew (a1000.add 1) fun v1083 =>
XLdN w1071.drew a1000 2 fun v1084 =>
xCutS 2 (vs1051.getD 0 undef) none (some (vs1065.getD 0 undef)) none fun v1085 =>
xAdd v1028 (.int .i64 1) fun v1086 =>
Ret P n_canon_maker_tree [v1084, v1085, v1086] w1071.drew fun v1087 w1088 =>
xKeep1 w1088 (.pointer (some (a1000.add 1))) v1083 ∧ (Ret P n_node_Node_SetKid [v1033, v1083, v1062, v1087] w1088 fun v1089 w1090 =>
xCutS 2 (vs1051.getD 0 undef) (some (vs1065.getD 0 undef)) none none fun v1091 =>
XNext I1049 n1050 [v1091, v1062, (vs1065.getD 0 undef)] w1090))
/- S_canon_maker_tree_l2: 0=slot 1 l 1=slot 10 b 2=slot 11 many -/
def S_canon_maker_tree_l2 (K : Value → World → Prop) (a1000 : Addr) (v1028 : Value) (v1033 : Value) (I1049 : Nat → List Value → World → Prop) (n1050 : Nat) (vs1051 : List Value) (g1052 : Nat → Value) (w1053 : World) : Prop :=
xLen (vs1051.getD 0 undef) fun v1054 =>
xGt v1054 (.int .i64 0) fun v1055 =>
xIf v1055 (xIxS (vs1051.getD 0 undef) (.int .i64 0) 2 fun v1056 =>
xFld v1056 0 fun v1057 =>
xAt v1057 fun a1058 =>
XLd w1053 a1058 fun v1059 =>
xIxS v1059 v1028 1 fun v1060 =>
xAt v1060 fun a1061 =>
XLd w1053 a1061 fun v1062 =>
XLoop [(.int .i64 1)] w1053 (S_canon_maker_tree_l1 a1000 v1028 v1033 I1049 n1050 vs1051 v1062)) (K v1033 w1053)
abbrev S_canon_maker_tree (a0 : Value) (a1 : Value) (a2 : Value) (K : Value → World → Prop) (w0 : World) : Prop :=
XNew w0 (cellsV a0) 225 fun a1000 w1001 =>
xLen a1 fun v1002 =>
xEq v1002 (.int .i64 0) fun v1003 =>
xIf v1003 (K (.pointer none) w1001) (xEq v1002 (.int .i64 1) fun v1004 =>
xIf v1004 (XLd w1001.drew (a1000.add 0) fun v1005 =>
XLd w1001.drew (a1000.add 1) fun v1006 =>
xIxS a1 (.int .i64 0) 2 fun v1007 =>
xFld v1007 0 fun v1008 =>
xAt v1008 fun a1009 =>
XLd w1001.drew a1009 fun v1010 =>
xCutS 1 v1010 (some a2) none none fun v1011 =>
xIxS a1 (.int .i64 0) 2 fun v1012 =>
xFld v1012 1 fun v1013 =>
xAt v1013 fun a1014 =>
XLd w1001.drew a1014 fun v1015 =>
Ret P n_node_Leaf [v1005, v1006, v1011, v1015] w1001.drew fun v1016 w1017 =>
K v1016 w1017) (xIxS a1 (.int .i64 0) 2 fun v1018 =>
xFld v1018 0 fun v1019 =>
xAt v1019 fun a1020 =>
XLd w1001 a1020 fun v1021 =>
xLen a1 fun v1022 =>
xSub v1022 (.int .i64 1) fun v1023 =>
xIxS a1 v1023 2 fun v1024 =>
xFld v1024 0 fun v1025 =>
xAt v1025 fun a1026 =>
XLd w1001 a1026 fun v1027 =>
Ret P n_keys_Common [v1021, v1027] w1001 fun v1028 w1029 =>
XLd w1029.drew (a1000.add 0) fun v1030 =>
XLd w1029.drew (a1000.add 1) fun v1031 =>
xCutS 1 v1021 (some a2) (some v1028) none fun v1032 =>
Ret P n_node_Inner [v1030, v1031, v1032] w1029.drew fun v1033 w1034 =>
/- 0 l -/ XJ (fun J1035 =>
xLen v1021 fun v1039 =>
xEq v1039 v1028 fun v1040 =>
xIf v1040 (XLd w1034.drew (a1000.add 1) fun v1041 =>
xIxS a1 (.int .i64 0) 2 fun v1042 =>
xFld v1042 1 fun v1043 =>
xAt v1043 fun a1044 =>
XLd w1034.drew a1044 fun v1045 =>
Ret P n_node_Node_SetVal [v1033, v1041, v1045] w1034.drew fun v1046 w1047 =>
xCutS 2 a1 (some (.int .i64 1)) none none fun v1048 =>
J1035 [v1048] w1047) (J1035 [a1] w1034)) fun vs1036 g1037 w1038 =>
XLoop [(vs1036.getD 0 undef), undef, undef] w1038 (S_canon_maker_tree_l2 K a1000 v1028 v1033)))
theorem W_canon_maker_tree {a0 a1 a2 : Value} {K : Value → World → Prop} {w : World} (h : S_canon_maker_tree a0 a1 a2 K w) : Ret P n_canon_maker_tree [a0, a1, a2] w K :=
  vcF_of mixed Tryz.func143 (show S_canon_maker_tree a0 a1 a2 K w = vcF P Tryz.f143 [a0, a1, a2] w K from by kernel_rfl) h
/- spunyarn/spunyarnref01.Common -/
/- S_ref01_Common_l1: 0=slot 5 n -/
def S_ref01_Common_l1 (K : Value → World → Prop) (a0 : Value) (a1 : Value) (I1000 : Nat → List Value → World → Prop) (n1001 : Nat) (vs1002 : List Value) (g1003 : Nat → Value) (w1004 : World) : Prop :=
/- 0 -/ XJ (fun J1005 =>
xLen a0 fun v1009 =>
xLt (vs1002.getD 0 undef) v1009 fun v1010 =>
xIf v1010 (xLen a1 fun v1011 =>
xLt (vs1002.getD 0 undef) v1011 fun v1012 =>
xIf v1012 (xIxS a0 (vs1002.getD 0 undef) 1 fun v1013 =>
xAt v1013 fun a1014 =>
XLd w1004.drew a1014 fun v1015 =>
xIxS a1 (vs1002.getD 0 undef) 1 fun v1016 =>
xAt v1016 fun a1017 =>
XLd w1004.drew a1017 fun v1018 =>
xEq v1015 v1018 fun v1019 =>
J1005 [v1019] (w1004.drew)) (J1005 [(.bool false)] (w1004.drew))) (J1005 [(.bool false)] (w1004.drew))) fun vs1006 g1007 w1008 =>
xIf (vs1006.getD 0 undef) (xAdd (vs1002.getD 0 undef) (.int .i64 1) fun v1020 =>
XNext I1000 n1001 [v1020] w1008) (K (vs1002.getD 0 undef) w1008)
abbrev S_ref01_Common (a0 : Value) (a1 : Value) (K : Value → World → Prop) (w0 : World) : Prop :=
XLoop [(.int .i64 0)] w0 (S_ref01_Common_l1 K a0 a1)
theorem W_ref01_Common {a0 a1 : Value} {K : Value → World → Prop} {w : World} (h : S_ref01_Common a0 a1 K w) : Ret P n_ref01_Common [a0, a1] w K :=
  vcF_of mixed Tryz.func144 (show S_ref01_Common a0 a1 K w = vcF P Tryz.f144 [a0, a1] w K from by kernel_rfl) h
/- (*strings.Builder).WriteString -/
abbrev S_strings_Builder_WriteString (a0 : Value) (a1 : Value) (K : Value → World → Prop) (w0 : World) : Prop :=
Ret P n_strings_Builder_copyCheck [a0] w0 fun v1000 w1001 =>
xAt a0 fun a1002 =>
XLd w1001 (a1002.add 1) fun v1003 =>
XRun P (Builtin.append_ #[41, 9] 41 #[v1003, a1]) w1001 fun v1004 w1005 =>
xAt a0 fun a1006 =>
XSt w1005 (a1006.add 1) v1004 fun w1007 =>
xLenS a1 fun v1008 =>
K (.tuple #[v1008, .nilIface]) w1007
theorem W_strings_Builder_WriteString {a0 a1 : Value} {K : Value → World → Prop} {w : World} (h : S_strings_Builder_WriteString a0 a1 K w) : Ret P n_strings_Builder_WriteString [a0, a1] w K :=
  vcF_of mixed Tryz.func145 (show S_strings_Builder_WriteString a0 a1 K w = vcF P Tryz.f145 [a0, a1] w K from by kernel_rfl) h
/- strconv.Itoa -/
abbrev S_strconv_Itoa (a0 : Value) (K : Value → World → Prop) (w0 : World) : Prop :=
Ret P n_istrconv_Itoa [a0] w0 fun v1000 w1001 =>
K v1000 w1001
theorem W_strconv_Itoa {a0 : Value} {K : Value → World → Prop} {w : World} (h : S_strconv_Itoa a0 K w) : Ret P n_strconv_Itoa [a0] w K :=
  vcF_of mixed Tryz.func146 (show S_strconv_Itoa a0 K w = vcF P Tryz.f146 [a0] w K from by kernel_rfl) h
/- spunyarn/keys.Text -/
/- S_keys_Text_l1: 0=slot 12 1=slot 5 c 2=slot 3 b -/
def S_keys_Text_l1 (K : Value → World → Prop) (a0 : Value) (v1004 : Value) (I1005 : Nat → List Value → World → Prop) (n1006 : Nat) (vs1007 : List Value) (g1008 : Nat → Value) (w1009 : World) : Prop :=
xLt (vs1007.getD 0 undef) v1004 fun v1010 =>
xIf v1010 (xIxS a0 (vs1007.getD 0 undef) 1 fun v1011 =>
xAt v1011 fun a1012 =>
XLd w1009 a1012 fun v1013 =>
xShr v1013 (.int .u64 4) fun v1014 =>
xIxStr (.string ⟨#[48, 49, 50, 51, 52, 53, 54, 55, 56, 57, 97, 98, 99, 100, 101, 102]⟩) v1014 fun v1015 =>
xAnd v1013 (.int .u8 15) fun v1016 =>
xIxStr (.string ⟨#[48, 49, 50, 51, 52, 53, 54, 55, 56, 57, 97, 98, 99, 100, 101, 102]⟩) v1016 fun v1017 =>
xFill (repL [(.int .u8 0)] 2) [(0, 1, v1015), (1, 1, v1017)] fun c1018 =>
XNew w1009.drew c1018 5 fun a1019 w1020 =>
XRun P (Builtin.append_ #[41, 41] 41 #[(vs1007.getD 2 undef), (.slice (some a1019) 2 2)]) w1020 fun v1021 w1022 =>
xAdd (vs1007.getD 0 undef) (.int .i64 1) fun v1023 =>
XNext I1005 n1006 [v1023, v1013, v1021] w1022) (XRun P (convert 41 9 (vs1007.getD 2 undef)) w1009 fun v1024 w1025 =>
K v1024 w1025)
abbrev S_keys_Text (a0 : Value) (K : Value → World → Prop) (w0 : World) : Prop :=
xLen a0 fun v1000 =>
xMul (.int .i64 2) v1000 fun v1001 =>
XRun P (Instr.makeSlice 41 (.int .i64 0) v1001) w0 fun v1002 w1003 =>
xLen a0 fun v1004 =>
XLoop [(.int .i64 0), undef, v1002] w1003 (S_keys_Text_l1 K a0 v1004)
theorem W_keys_Text {a0 : Value} {K : Value → World → Prop} {w : World} (h : S_keys_Text a0 K w) : Ret P n_keys_Text [a0] w K :=
  vcF_of mixed Tryz.func147 (show S_keys_Text a0 K w = vcF P Tryz.f147 [a0] w K from by kernel_rfl) h
/- strconv.FormatUint -/
abbrev S_strconv_FormatUint (a0 : Value) (a1 : Value) (K : Value → World → Prop) (w0 : World) : Prop :=
Ret P n_istrconv_FormatUint [a0, a1] w0 fun v1000 w1001 =>
K v1000 w1001
theorem W_strconv_FormatUint {a0 a1 : Value} {K : Value → World → Prop} {w : World} (h : S_strconv_FormatUint a0 a1 K w) : Ret P n_strconv_FormatUint [a0, a1] w K :=
  vcF_of mixed Tryz.func148 (show S_strconv_FormatUint a0 a1 K w = vcF P Tryz.f148 [a0, a1] w K from by kernel_rfl) h
/- (*spunyarn/node.Node).Next -/
abbrev S_node_Node_Next (a0 : Value) (a1 : Value) (K : Value → World → Prop) (w0 : World) : Prop :=
xPEq P w0 a0 (.pointer none) fun v1000 =>
xIf v1000 (K (.tuple #[(.int .u8 0), (.pointer none)]) w0) (xAt a0 fun a1001 =>
XLd w0 (a1001.add 4) fun v1002 =>
Ret P n_kids_Kids_Next [v1002, a1] w0 fun v1003 w1004 =>
xTup v1003 0 fun v1005 =>
xTup v1003 1 fun v1006 =>
xTup v1003 2 fun v1007 =>
K (.tuple #[v1005, v1006]) w1004)
theorem W_node_Node_Next {a0 a1 : Value} {K : Value → World → Prop} {w : World} (h : S_node_Node_Next a0 a1 K w) : Ret P n_node_Node_Next [a0, a1] w K :=
  vcF_of mixed Tryz.func149 (show S_node_Node_Next a0 a1 K w = vcF P Tryz.f149 [a0, a1] w K from by kernel_rfl) h
/- spunyarn/canon.each$1 -/
/- S_canon_each_1_l1: 0=slot 7 k 1=slot 6 b -/
def S_canon_each_1_l1 (K : Value → World → Prop) (a1 : Value) (a3 : Value) (v1003 : Value) (I1015 : Nat → List Value → World → Prop) (n1016 : Nat) (vs1017 : List Value) (g1018 : Nat → Value) (w1019 : World) : Prop :=
xPNe P w1019 (vs1017.getD 0 undef) (.pointer none) fun v1020 =>
xIf v1020 (xAt a3 fun a1021 =>
XLd w1019.drew a1021 fun v1022 =>
xFill (repL [(.int .u8 0)] 1) [(0, 1, (vs1017.getD 1 undef))] fun c1023 =>
XNew w1019.drew c1023 5 fun a1024 w1025 =>
xKeep1 w1025 a3 v1022 ∧ (XRun P (Builtin.append_ #[41, 41] 41 #[v1003, (.slice (some a1024) 1 1)]) w1025 fun v1026 w1027 =>
xKeep1 w1027 a3 v1022 ∧ (xFunc v1022 [v1026, (vs1017.getD 0 undef)] fun f1028 xs1029 =>
xCall P f1028 xs1029 w1027 fun v1030 w1031 =>
xConv .i64 (vs1017.getD 1 undef) fun v1032 =>
xAdd v1032 (.int .i64 1) fun v1033 =>
Ret P n_node_Node_Next [a1, v1033] w1031 fun v1034 w1035 =>
xTup v1034 0 fun v1036 =>
xTup v1034 1 fun v1037 =>
XNext I1015 n1016 [v1037, v1036] w1035))) (K (.tuple #[]) w1019)
abbrev S_canon_each_1 (a0 : Value) (a1 : Value) (a2 : Value) (a3 : Value) (K : Value → World → Prop) (w0 : World) : Prop :=
xPEq P w0 a1 (.pointer none) fun v1000 =>
xIf v1000 (K (.tuple #[]) w0) (Ret P n_node_Node_Part [a1] w0 fun v1001 w1002 =>
XRun P (Builtin.append_ #[41, 41] 41 #[a0, v1001]) w1002 fun v1003 w1004 =>
xAt a2 fun a1005 =>
XLd w1004 a1005 fun v1006 =>
xFunc v1006 [v1003, a1] fun f1007 xs1008 =>
xCall P f1007 xs1008 w1004 fun v1009 w1010 =>
Ret P n_node_Node_Next [a1, (.int .i64 0)] w1010 fun v1011 w1012 =>
xTup v1011 0 fun v1013 =>
xTup v1011 1 fun v1014 =>
XLoop [v1014, v1013] w1012 (S_canon_each_1_l1 K a1 a3 v1003))
theorem W_canon_each_1 {a0 a1 a2 a3 : Value} {K : Value → World → Prop} {w : World} (h : S_canon_each_1 a0 a1 a2 a3 K w) : Ret P n_canon_each_1 [a0, a1, a2, a3] w K :=
  vcF_of mixed Tryz.func150 (show S_canon_each_1 a0 a1 a2 a3 K w = vcF P Tryz.f150 [a0, a1, a2, a3] w K from by kernel_rfl) h
/- (*spunyarn/node.Node).isLeaf -/
abbrev S_node_Node_isLeaf (a0 : Value) (K : Value → World → Prop) (w0 : World) : Prop :=
xAt a0 fun a1000 =>
XLd w0 (a1000.add 4) fun v1001 =>
xPEq P w0 v1001 (.pointer none) fun v1002 =>
K v1002 w0
theorem W_node_Node_isLeaf {a0 : Value} {K : Value → World → Prop} {w : World} (h : S_node_Node_isLeaf a0 K w) : Ret P n_node_Node_isLeaf [a0] w K :=
  vcF_of mixed Tryz.func151 (show S_node_Node_isLeaf a0 K w = vcF P Tryz.f151 [a0] w K from by kernel_rfl) h
/- (*spunyarn/kids.Kids[*spunyarn/node.Node]).Kind -/
abbrev S_kids_Kids_Kind (a0 : Value) (K : Value → World → Prop) (w0 : World) : Prop :=
Ret P n_kids_Kids_ok [a0] w0 fun v1000 w1001 =>
xNot v1000 fun v1002 =>
xIf v1002 (K (.int .i64 0) w1001) (xAt a0 fun a1003 =>
XLd w1001 (a1003.add 0) fun v1004 =>
xPNe P w1001 v1004 (.pointer none) fun v1005 =>
xIf v1005 (xAt a0 fun a1006 =>
XLd w1001 (a1006.add 0) fun v1007 =>
Ret P n_small_Row_Room [v1007] w1001 fun v1008 w1009 =>
K v1008 w1009) (xAt a0 fun a1010 =>
XLd w1001 (a1010.add 1) fun v1011 =>
Ret P n_wide_Board_Room [v1011] w1001 fun v1012 w1013 =>
K v1012 w1013))
theorem W_kids_Kids_Kind {a0 : Value} {K : Value → World → Prop} {w : World} (h : S_kids_Kids_Kind a0 K w) : Ret P n_kids_Kids_Kind [a0] w K :=
  vcF_of mixed Tryz.func152 (show S_kids_Kids_Kind a0 K w = vcF P Tryz.f152 [a0] w K from by kernel_rfl) h
/- (*spunyarn/kids.Kids[*spunyarn/node.Node]).Len -/
abbrev S_kids_Kids_Len (a0 : Value) (K : Value → World → Prop) (w0 : World) : Prop :=
Ret P n_kids_Kids_ok [a0] w0 fun v1000 w1001 =>
xNot v1000 fun v1002 =>
xIf v1002 (K (.int .i64 0) w1001) (xAt a0 fun a1003 =>
XLd w1001 (a1003.add 0) fun v1004 =>
xPNe P w1001 v1004 (.pointer none) fun v1005 =>
xIf v1005 (xAt a0 fun a1006 =>
XLd w1001 (a1006.add 0) fun v1007 =>
Ret P n_small_Row_Len [v1007] w1001 fun v1008 w1009 =>
K v1008 w1009) (xAt a0 fun a1010 =>
XLd w1001 (a1010.add 1) fun v1011 =>
Ret P n_wide_Board_Len [v1011] w1001 fun v1012 w1013 =>
K v1012 w1013))
theorem W_kids_Kids_Len {a0 : Value} {K : Value → World → Prop} {w : World} (h : S_kids_Kids_Len a0 K w) : Ret P n_kids_Kids_Len [a0] w K :=
  vcF_of mixed Tryz.func153 (show S_kids_Kids_Len a0 K w = vcF P Tryz.f153 [a0] w K from by kernel_rfl) h
/- (*spunyarn/node.Node).Len -/
abbrev S_node_Node_Len (a0 : Value) (K : Value → World → Prop) (w0 : World) : Prop :=
xPEq P w0 a0 (.pointer none) fun v1000 =>
xIf v1000 (K (.int .i64 0) w0) (xAt a0 fun a1001 =>
XLd w0 (a1001.add 4) fun v1002 =>
Ret P n_kids_Kids_Len [v1002] w0 fun v1003 w1004 =>
K v1003 w1004)
theorem W_node_Node_Len {a0 : Value} {K : Value → World → Prop} {w : World} (h : S_node_Node_Len a0 K w) : Ret P n_node_Node_Len [a0] w K :=
  vcF_of mixed Tryz.func154 (show S_node_Node_Len a0 K w = vcF P Tryz.f154 [a0] w K from by kernel_rfl) h
/- (spunyarn/del.taker).out -/
abbrev S_del_taker_out (a0 : Value) (a1 : Value) (a2 : Value) (K : Value → World → Prop) (w0 : World) : Prop :=
XNew w0 (cellsV a0) 240 fun a1000 w1001 =>
Ret P n_node_Node_Part [a1] w1001 fun v1002 w1003 =>
xLen v1002 fun v1004 =>
xCutS 1 a2 (some v1004) none none fun v1005 =>
xLen v1005 fun v1006 =>
xEq v1006 (.int .i64 0) fun v1007 =>
xIf v1007 (XLdN w1003 a1000 2 fun v1008 =>
Ret P n_del_taker_here [v1008, a1] w1003 fun v1009 w1010 =>
K v1009 w1010) (xIxS v1005 (.int .i64 0) 1 fun v1011 =>
xAt v1011 fun a1012 =>
XLd w1003 a1012 fun v1013 =>
Ret P n_node_Node_Kid [a1, v1013] w1003 fun v1014 w1015 =>
XLdN w1015.drew a1000 2 fun v1016 =>
xCutS 1 v1005 (some (.int .i64 1)) none none fun v1017 =>
Ret P n_del_taker_out [v1016, v1014, v1017] w1015.drew fun v1018 w1019 =>
xPEq P w1019 v1018 v1014 fun v1020 =>
xIf v1020 (K a1 w1019) (xPNe P w1019 v1018 (.pointer none) fun v1021 =>
xIf v1021 (XLd w1019 (a1000.add 1) fun v1022 =>
XLd w1019 (a1000.add 0) fun v1023 =>
Ret P n_node_Node_Own [a1, v1022, v1023] w1019 fun v1024 w1025 =>
XLd w1025.drew (a1000.add 0) fun v1026 =>
xIxS v1005 (.int .i64 0) 1 fun v1027 =>
xAt v1027 fun a1028 =>
XLd w1025.drew a1028 fun v1029 =>
Ret P n_node_Node_SetKid [v1024, v1026, v1029, v1018] w1025.drew fun v1030 w1031 =>
K v1024 w1031) (XLdN w1019.drew a1000 2 fun v1032 =>
xIxS v1005 (.int .i64 0) 1 fun v1033 =>
xAt v1033 fun a1034 =>
XLd w1019.drew a1034 fun v1035 =>
Ret P n_del_taker_without [v1032, a1, v1035] w1019.drew fun v1036 w1037 =>
K v1036 w1037)))
theorem W_del_taker_out {a0 a1 a2 : Value} {K : Value → World → Prop} {w : World} (h : S_del_taker_out a0 a1 a2 K w) : Ret P n_del_taker_out [a0, a1, a2] w K :=
  vcF_of mixed Tryz.func155 (show S_del_taker_out a0 a1 a2 K w = vcF P Tryz.f155 [a0, a1, a2] w K from by kernel_rfl) h
/- (*spunyarn/kids.Kids[*spunyarn/node.Node]).Get -/
abbrev S_kids_Kids_Get (a0 : Value) (a1 : Value) (K : Value → World → Prop) (w0 : World) : Prop :=
Ret P n_kids_Kids_ok [a0] w0 fun v1000 w1001 =>
xNot v1000 fun v1002 =>
xIf v1002 (K (.tuple #[(.pointer none), (.bool false)]) w1001) (xAt a0 fun a1003 =>
XLd w1001 (a1003.add 0) fun v1004 =>
xPNe P w1001 v1004 (.pointer none) fun v1005 =>
xIf v1005 (xAt a0 fun a1006 =>
XLd w1001 (a1006.add 0) fun v1007 =>
Ret P n_small_Row_Get [v1007, a1] w1001 fun v1008 w1009 =>
xTup v1008 0 fun v1010 =>
xTup v1008 1 fun v1011 =>
K (.tuple #[v1010, v1011]) w1009) (xAt a0 fun a1012 =>
XLd w1001 (a1012.add 1) fun v1013 =>
Ret P n_wide_Board_Get [v1013, a1] w1001 fun v1014 w1015 =>
xTup v1014 0 fun v1016 =>
xTup v1014 1 fun v1017 =>
K (.tuple #[v1016, v1017]) w1015))
theorem W_kids_Kids_Get {a0 a1 : Value} {K : Value → World → Prop} {w : World} (h : S_kids_Kids_Get a0 a1 K w) : Ret P n_kids_Kids_Get [a0, a1] w K :=
  vcF_of mixed Tryz.func156 (show S_kids_Kids_Get a0 a1 K w = vcF P Tryz.f156 [a0, a1] w K from by kernel_rfl) h
/- spunyarn/del.check -/
/- S_del_check_l1: 0=slot 8 1=slot 4 i 2=slot 13 3=slot 2 4=slot 17 5=slot 3 e -/
def S_del_check_l1 (K : Value → World → Prop) (a0 : Value) (v1000 : Value) (I1001 : Nat → List Value → World → Prop) (n1002 : Nat) (vs1003 : List Value) (g1004 : Nat → Value) (w1005 : World) : Prop :=
xLt (vs1003.getD 0 undef) v1000 fun v1006 =>
xIf v1006 (/- 0 i 1 2 3 4 e -/ XJ (fun J1007 =>
xIxS a0 (vs1003.getD 0 undef) 2 fun v1011 =>
xAt v1011 fun a1012 =>
XLdN w1005 a1012 2 fun v1013 =>
XNew w1005 [(.int .u8 0), (.pointer none)] 61 fun a1014 w1015 =>
XDo P (storeVar 61 a1014 v1013) w1015 fun w1016 =>
XLd w1016 (a1014.add 1) fun v1017 =>
xPEq P w1016 v1017 (.pointer none) fun v1018 =>
xIf v1018 (K (.int .i64 1) w1016) (/- 0 -/ XJ (fun J1019 =>
xGt (vs1003.getD 0 undef) (.int .i64 0) fun v1023 =>
xIf v1023 (xSub (vs1003.getD 0 undef) (.int .i64 1) fun v1024 =>
xIxS a0 v1024 2 fun v1025 =>
xFld v1025 0 fun v1026 =>
xAt v1026 fun a1027 =>
XLd w1016.drew a1027 fun v1028 =>
XLd w1016.drew (a1014.add 0) fun v1029 =>
xGe v1028 v1029 fun v1030 =>
J1019 [v1030] (w1016.drew)) (J1019 [(.bool false)] (w1016.drew))) fun vs1020 g1021 w1022 =>
xIf (vs1020.getD 0 undef) (J1007 [(vs1003.getD 0 undef), v1018, (vs1003.getD 3 undef), (vs1020.getD 0 undef), (.int .i64 12)] w1022) (J1007 [(vs1003.getD 0 undef), v1018, (vs1003.getD 3 undef), (vs1020.getD 0 undef), (vs1003.getD 5 undef)] w1022))) fun vs1008 g1009 w1010 =>
xAdd (vs1003.getD 0 undef) (.int .i64 1) fun v1031 =>
XNext I1001 n1002 [v1031, (vs1008.getD 0 undef), (vs1008.getD 1 undef), (vs1008.getD 2 undef), (vs1008.getD 3 undef), (vs1008.getD 4 undef)] w1010) (K (vs1003.getD 5 undef) w1005)
abbrev S_del_check (a0 : Value) (K : Value → World → Prop) (w0 : World) : Prop :=
xLen a0 fun v1000 =>
XLoop [(.int .i64 0), undef, undef, (.int .i64 0), undef, (.int .i64 0)] w0 (S_del_check_l1 K a0 v1000)
theorem W_del_check {a0 : Value} {K : Value → World → Prop} {w : World} (h : S_del_check a0 K w) : Ret P n_del_check [a0] w K :=
  vcF_of mixed Tryz.func157 (show S_del_check a0 K w = vcF P Tryz.f157 [a0] w K from by kernel_rfl) h
/- (*spunyarn/meter.Meter).Made -/
abbrev S_meter_Meter_Made (a0 : Value) (a1 : Value) (K : Value → World → Prop) (w0 : World) : Prop :=
/- 0 -/ XJ (fun J1000 =>
xPNe P w0 a0 (.pointer none) fun v1004 =>
xIf v1004 (xGt a1 (.int .i64 0) fun v1005 =>
J1000 [v1005] w0) (J1000 [(.bool false)] w0)) fun vs1001 g1002 w1003 =>
xIf (vs1001.getD 0 undef) (xAt a0 fun a1006 =>
Ret P n_atomic_Int64_Add [(.pointer (some (a1006.add 0))), a1] w1003 fun v1007 w1008 =>
K (.tuple #[]) w1008) (K (.tuple #[]) w1003)
theorem W_meter_Meter_Made {a0 a1 : Value} {K : Value → World → Prop} {w : World} (h : S_meter_Meter_Made a0 a1 K w) : Ret P n_meter_Meter_Made [a0, a1] w K :=
  vcF_of mixed Tryz.func158 (show S_meter_Meter_Made a0 a1 K w = vcF P Tryz.f158 [a0, a1] w K from by kernel_rfl) h
/- bytes.Clone -/
abbrev S_bytes_Clone (a0 : Value) (K : Value → World → Prop) (w0 : World) : Prop :=
xLEq a0 (.slice none 0 0) fun v1000 =>
xIf v1000 (K (.slice none 0 0) w0) (xFill (repL [(.int .u8 0)] 0) [] fun c1001 =>
XNew w0 c1001 5 fun a1002 w1003 =>
XRun P (Builtin.append_ #[41, 41] 41 #[(.slice (some a1002) 0 0), a0]) w1003 fun v1004 w1005 =>
K v1004 w1005)
theorem W_bytes_Clone {a0 : Value} {K : Value → World → Prop} {w : World} (h : S_bytes_Clone a0 K w) : Ret P n_bytes_Clone [a0] w K :=
  vcF_of mixed Tryz.func159 (show S_bytes_Clone a0 K w = vcF P Tryz.f159 [a0] w K from by kernel_rfl) h
/- (*spunyarn/kids.Kids[*spunyarn/node.Node]).Copy -/
abbrev S_kids_Kids_Copy (a0 : Value) (K : Value → World → Prop) (w0 : World) : Prop :=
Ret P n_kids_Kids_ok [a0] w0 fun v1000 w1001 =>
xNot v1000 fun v1002 =>
xIf v1002 (K (.pointer none) w1001) (xAt a0 fun a1003 =>
XLd w1001.drew (a1003.add 0) fun v1004 =>
xAt a0 fun a1005 =>
XLd w1001.drew (a1005.add 1) fun v1006 =>
Ret P n_small_Row_Copy [v1004] w1001.drew fun v1007 w1008 =>
xKeep1 w1008 (.pointer (some (a1005.add 1))) v1006 ∧ (Ret P n_wide_Board_Copy [v1006] w1008 fun v1009 w1010 =>
xFill [(.pointer none), (.pointer none)] [(0, 1, v1007), (1, 1, v1009)] fun c1011 =>
XNew w1010 (cellsV (.agg c1011.toArray)) 280 fun a1012 w1013 =>
K (.pointer (some a1012)) w1013))
theorem W_kids_Kids_Copy {a0 : Value} {K : Value → World → Prop} {w : World} (h : S_kids_Kids_Copy a0 K w) : Ret P n_kids_Kids_Copy [a0] w K :=
  vcF_of mixed Tryz.func160 (show S_kids_Kids_Copy a0 K w = vcF P Tryz.f160 [a0] w K from by kernel_rfl) h
/- (*spunyarn/node.Node).may -/
abbrev S_node_Node_may (a0 : Value) (a1 : Value) (K : Value → World → Prop) (w0 : World) : Prop :=
xPEq P w0 a0 (.pointer none) fun v1000 =>
xIf v1000 (K (.int .i64 2) w0) (/- 0 -/ XJ (fun J1001 =>
xEq a1 (.int .u64 0) fun v1005 =>
xIf v1005 (J1001 [(.bool true)] w0) (xAt a0 fun a1006 =>
XLd w0 (a1006.add 0) fun v1007 =>
xNe a1 v1007 fun v1008 =>
J1001 [v1008] w0)) fun vs1002 g1003 w1004 =>
xIf (vs1002.getD 0 undef) (K (.int .i64 11) w1004) (K (.int .i64 0) w1004))
theorem W_node_Node_may {a0 a1 : Value} {K : Value → World → Prop} {w : World} (h : S_node_Node_may a0 a1 K w) : Ret P n_node_Node_may [a0, a1] w K :=
  vcF_of mixed Tryz.func161 (show S_node_Node_may a0 a1 K w = vcF P Tryz.f161 [a0, a1] w K from by kernel_rfl) h
/- slices.Concat[[]byte,byte] -/
/- S_slices_Concat_byte_l1: 0=slot 27 1=slot 8 s 2=slot 6 newslice -/
def S_slices_Concat_byte_l1 (K : Value → World → Prop) (a0 : Value) (v1020 : Value) (I1021 : Nat → List Value → World → Prop) (n1022 : Nat) (vs1023 : List Value) (g1024 : Nat → Value) (w1025 : World) : Prop :=
xLt (vs1023.getD 0 undef) v1020 fun v1026 =>
xIf v1026 (xIxS a0 (vs1023.getD 0 undef) 1 fun v1027 =>
xAt v1027 fun a1028 =>
XLd w1025 a1028 fun v1029 =>
XRun P (Builtin.append_ #[41, 41] 41 #[(vs1023.getD 2 undef), v1029]) w1025 fun v1030 w1031 =>
xAdd (vs1023.getD 0 undef) (.int .i64 1) fun v1032 =>
XNext I1021 n1022 [v1032, v1029, v1030] w1031) (K (vs1023.getD 2 undef) w1025)
/- S_slices_Concat_byte_l2: 0=slot 11 1=slot 5 s 2=slot 3 size -/
def S_slices_Concat_byte_l2 (K : Value → World → Prop) (a0 : Value) (v1000 : Value) (I1001 : Nat → List Value → World → Prop) (n1002 : Nat) (vs1003 : List Value) (g1004 : Nat → Value) (w1005 : World) : Prop :=
xLt (vs1003.getD 0 undef) v1000 fun v1006 =>
xIf v1006 (/- 0 s 1 size -/ XJ (fun J1007 =>
xIxS a0 (vs1003.getD 0 undef) 1 fun v1011 =>
xAt v1011 fun a1012 =>
XLd w1005 a1012 fun v1013 =>
xLen v1013 fun v1014 =>
xAdd (vs1003.getD 2 undef) v1014 fun v1015 =>
xLt v1015 (.int .i64 0) fun v1016 =>
xIf v1016 (False) (J1007 [v1013, v1015] w1005)) fun vs1008 g1009 w1010 =>
xAdd (vs1003.getD 0 undef) (.int .i64 1) fun v1017 =>
XNext I1001 n1002 [v1017, (vs1008.getD 0 undef), (vs1008.getD 1 undef)] w1010) (Ret P n_slices_Grow_byte [(.slice none 0 0), (vs1003.getD 2 undef)] w1005 fun v1018 w1019 =>
xLen a0 fun v1020 =>
XLoop [(.int .i64 0), undef, v1018] w1019 (S_slices_Concat_byte_l1 K a0 v1020))
abbrev S_slices_Concat_byte (a0 : Value) (K : Value → World → Prop) (w0 : World) : Prop :=
xLen a0 fun v1000 =>
XLoop [(.int .i64 0), undef, (.int .i64 0)] w0 (S_slices_Concat_byte_l2 K a0 v1000)
theorem W_slices_Concat_byte {a0 : Value} {K : Value → World → Prop} {w : World} (h : S_slices_Concat_byte a0 K w) : Ret P n_slices_Concat_byte [a0] w K :=
  vcF_of mixed Tryz.func162 (show S_slices_Concat_byte a0 K w = vcF P Tryz.f162 [a0] w K from by kernel_rfl) h
/- spunyarn/kids.New[*spunyarn/node.Node] -/
abbrev S_kids_New_Node  (K : Value → World → Prop) (w0 : World) : Prop :=
Ret P n_kids_room_Node [(.int .i64 4)] w0 fun v1000 w1001 =>
K v1000 w1001
theorem W_kids_New_Node {K : Value → World → Prop} {w : World} (h : S_kids_New_Node  K w) : Ret P n_kids_New_Node [] w K :=
  vcF_of mixed Tryz.func163 (show S_kids_New_Node  K w = vcF P Tryz.f163 [] w K from by kernel_rfl) h
/- (*spunyarn/node.Node).inner -/
abbrev S_node_Node_inner (a0 : Value) (a1 : Value) (K : Value → World → Prop) (w0 : World) : Prop :=
Ret P n_node_Node_may [a0, a1] w0 fun v1000 w1001 =>
/- 0 -/ XJ (fun J1002 =>
xEq v1000 (.int .i64 0) fun v1006 =>
xIf v1006 (Ret P n_node_Node_isLeaf [a0] w1001 fun v1007 w1008 =>
J1002 [v1007] w1008) (J1002 [(.bool false)] w1001)) fun vs1003 g1004 w1005 =>
xIf (vs1003.getD 0 undef) (K (.int .i64 9) w1005) (K v1000 w1005)
theorem W_node_Node_inner {a0 a1 : Value} {K : Value → World → Prop} {w : World} (h : S_node_Node_inner a0 a1 K w) : Ret P n_node_Node_inner [a0, a1] w K :=
  vcF_of mixed Tryz.func164 (show S_node_Node_inner a0 a1 K w = vcF P Tryz.f164 [a0, a1] w K from by kernel_rfl) h
/- (*spunyarn/kids.Kids[*spunyarn/node.Node]).Set -/
abbrev S_kids_Kids_Set (a0 : Value) (a1 : Value) (a2 : Value) (K : Value → World → Prop) (w0 : World) : Prop :=
Ret P n_kids_Kids_ok [a0] w0 fun v1000 w1001 =>
xNot v1000 fun v1002 =>
xIf v1002 (K (.int .i64 2) w1001) (/- 0 _ 1 is -/ XJ (fun J1003 =>
Ret P n_kids_Kids_Get [a0, a1] w1001 fun v1007 w1008 =>
xTup v1007 0 fun v1009 =>
xTup v1007 1 fun v1010 =>
/- 0 -/ XJ (fun J1011 =>
xNot v1010 fun v1015 =>
xIf v1015 (Ret P n_kids_Kids_Len [a0] w1008 fun v1016 w1017 =>
Ret P n_kids_Kids_Kind [a0] w1017 fun v1018 w1019 =>
xEq v1016 v1018 fun v1020 =>
J1011 [v1020] w1019) (J1011 [(.bool false)] w1008)) fun vs1012 g1013 w1014 =>
xIf (vs1012.getD 0 undef) (Ret P n_kids_Kids_Len [a0] w1014 fun v1021 w1022 =>
xAdd v1021 (.int .i64 1) fun v1023 =>
Ret P n_kids_KindOf [v1023] w1022 fun v1024 w1025 =>
Ret P n_kids_move_Node [a0, v1024] w1025 fun v1026 w1027 =>
J1003 [v1009, v1010] w1027) (J1003 [v1009, v1010] w1014)) fun vs1004 g1005 w1006 =>
Ret P n_kids_Kids_put [a0, a1, a2] w1006 fun v1028 w1029 =>
K (.int .i64 0) w1029)
theorem W_kids_Kids_Set {a0 a1 a2 : Value} {K : Value → World → Prop} {w : World} (h : S_kids_Kids_Set a0 a1 a2 K w) : Ret P n_kids_Kids_Set [a0, a1, a2] w K :=
  vcF_of mixed Tryz.func165 (show S_kids_Kids_Set a0 a1 a2 K w = vcF P Tryz.f165 [a0, a1, a2] w K from by kernel_rfl) h
/- (spunyarn/put.putter).into -/
abbrev S_put_putter_into (a0 : Value) (a1 : Value) (a2 : Value) (K : Value → World → Prop) (w0 : World) : Prop :=
XNew w0 (cellsV a0) 254 fun a1000 w1001 =>
xPEq P w1001 a1 (.pointer none) fun v1002 =>
xIf v1002 (XLd w1001 (a1000.add 2) fun v1003 =>
XLd w1001 (a1000.add 1) fun v1004 =>
XLd w1001 (a1000.add 0) fun v1005 =>
Ret P n_node_Leaf [v1003, v1004, a2, v1005] w1001 fun v1006 w1007 =>
K v1006 w1007) (Ret P n_node_Node_Part [a1] w1001 fun v1008 w1009 =>
Ret P n_keys_Common [v1008, a2] w1009 fun v1010 w1011 =>
Ret P n_node_Node_Kind [a1] w1011 fun v1012 w1013 =>
xEq v1012 (.int .i64 1) fun v1014 =>
/- 0 1 2 3 -/ XJ (fun J1015 =>
/- 0 -/ XJ (fun J1019 =>
xLen v1008 fun v1023 =>
xEq v1010 v1023 fun v1024 =>
xIf v1024 (xLen a2 fun v1025 =>
xEq v1010 v1025 fun v1026 =>
J1019 [v1026] w1013) (J1019 [(.bool false)] w1013)) fun vs1020 g1021 w1022 =>
xIf (vs1020.getD 0 undef) (XLdN w1022 a1000 3 fun v1027 =>
Ret P n_put_putter_here [v1027, a1] w1022 fun v1028 w1029 =>
K v1028 w1029) (xLen v1008 fun v1030 =>
xLt v1010 v1030 fun v1031 =>
xIf v1031 (J1015 [(vs1020.getD 0 undef), v1031, undef, (.pointer none)] w1022) (xIf v1014 (J1015 [(vs1020.getD 0 undef), v1031, v1014, (.pointer none)] w1022) (XLdN w1022.drew a1000 3 fun v1032 =>
xCutS 1 a2 (some v1010) none none fun v1033 =>
Ret P n_put_putter_below [v1032, a1, v1033] w1022.drew fun v1034 w1035 =>
K v1034 w1035)))) fun vs1016 g1017 w1018 =>
XLdN w1018 a1000 3 fun v1036 =>
Ret P n_put_putter_split [v1036, a1, v1008, a2, v1010] w1018 fun v1037 w1038 =>
K v1037 w1038)
theorem W_put_putter_into {a0 a1 a2 : Value} {K : Value → World → Prop} {w : World} (h : S_put_putter_into a0 a1 a2 K w) : Ret P n_put_putter_into [a0, a1, a2] w K :=
  vcF_of mixed Tryz.func167 (show S_put_putter_into a0 a1 a2 K w = vcF P Tryz.f167 [a0, a1, a2] w K from by kernel_rfl) h
/- spunyarn/spunyarnref13.shared -/
/- S_ref13_shared_l1: 0=slot 4 i 1=slot 3 n -/
def S_ref13_shared_l1 (K : Value → World → Prop) (a0 : Value) (I1005 : Nat → List Value → World → Prop) (n1006 : Nat) (vs1007 : List Value) (g1008 : Nat → Value) (w1009 : World) : Prop :=
xLen a0 fun v1010 =>
xLt (vs1007.getD 0 undef) v1010 fun v1011 =>
xIf v1011 (xIxS a0 (.int .i64 0) 2 fun v1012 =>
xFld v1012 0 fun v1013 =>
xAt v1013 fun a1014 =>
XLd w1009.drew a1014 fun v1015 =>
xIxS a0 (vs1007.getD 0 undef) 2 fun v1016 =>
xFld v1016 0 fun v1017 =>
xAt v1017 fun a1018 =>
XLd w1009.drew a1018 fun v1019 =>
Ret P n_ref01_Common [v1015, v1019] w1009.drew fun v1020 w1021 =>
xMin (vs1007.getD 1 undef) v1020 fun v1022 =>
xAdd (vs1007.getD 0 undef) (.int .i64 1) fun v1023 =>
XNext I1005 n1006 [v1023, v1022] w1021) (K (vs1007.getD 1 undef) w1009)
abbrev S_ref13_shared (a0 : Value) (K : Value → World → Prop) (w0 : World) : Prop :=
xIxS a0 (.int .i64 0) 2 fun v1000 =>
xFld v1000 0 fun v1001 =>
xAt v1001 fun a1002 =>
XLd w0 a1002 fun v1003 =>
xLen v1003 fun v1004 =>
XLoop [(.int .i64 1), v1004] w0 (S_ref13_shared_l1 K a0)
theorem W_ref13_shared {a0 : Value} {K : Value → World → Prop} {w : World} (h : S_ref13_shared a0 K w) : Ret P n_ref13_shared [a0] w K :=
  vcF_of mixed Tryz.func169 (show S_ref13_shared a0 K w = vcF P Tryz.f169 [a0] w K from by kernel_rfl) h
/- spunyarn/spunyarnref11.KindOf -/
abbrev S_ref11_KindOf (a0 : Value) (K : Value → World → Prop) (w0 : World) : Prop :=
/- 0 -/ XJ (fun J1000 =>
xLt a0 (.int .i64 0) fun v1004 =>
xIf v1004 (J1000 [(.bool true)] w0) (xGt a0 (.int .i64 256) fun v1005 =>
J1000 [v1005] w0)) fun vs1001 g1002 w1003 =>
xIf (vs1001.getD 0 undef) (K (.int .i64 0) w1003) (xLe a0 (.int .i64 4) fun v1006 =>
xIf v1006 (K (.int .i64 4) w1003) (xLe a0 (.int .i64 16) fun v1007 =>
xIf v1007 (K (.int .i64 16) w1003) (xLe a0 (.int .i64 48) fun v1008 =>
xIf v1008 (K (.int .i64 48) w1003) (K (.int .i64 256) w1003))))
theorem W_ref11_KindOf {a0 : Value} {K : Value → World → Prop} {w : World} (h : S_ref11_KindOf a0 K w) : Ret P n_ref11_KindOf [a0] w K :=
  vcF_of mixed Tryz.func170 (show S_ref11_KindOf a0 K w = vcF P Tryz.f170 [a0] w K from by kernel_rfl) h
/- (*spunyarn/find.walk).into -/
abbrev S_find_walk_into (a0 : Value) (K : Value → World → Prop) (w0 : World) : Prop :=
xAt a0 fun a1000 =>
XLd w0 (a1000.add 0) fun v1001 =>
xPEq P w0 v1001 (.pointer none) fun v1002 =>
xIf v1002 (K (.bool false) w0) (xAt a0 fun a1003 =>
XLd w0 (a1003.add 3) fun v1004 =>
xAdd v1004 (.int .i64 1) fun v1005 =>
xAt a0 fun a1006 =>
XSt w0 (a1006.add 3) v1005 fun w1007 =>
xAt a0 fun a1008 =>
XLd w1007 (a1008.add 0) fun v1009 =>
Ret P n_node_Node_Part [v1009] w1007 fun v1010 w1011 =>
xAt a0 fun a1012 =>
XLd w1011.drew (a1012.add 1) fun v1013 =>
xAt a0 fun a1014 =>
XLd w1011.drew (a1014.add 2) fun v1015 =>
xCutS 1 v1013 (some v1015) none none fun v1016 =>
Ret P n_bytes_HasPrefix [v1016, v1010] w1011.drew fun v1017 w1018 =>
xNot v1017 fun v1019 =>
xIf v1019 (K (.bool false) w1018) (xAt a0 fun a1020 =>
XLd w1018 (a1020.add 2) fun v1021 =>
xLen v1010 fun v1022 =>
xAdd v1021 v1022 fun v1023 =>
xAt a0 fun a1024 =>
XSt w1018 (a1024.add 2) v1023 fun w1025 =>
K (.bool true) w1025))
theorem W_find_walk_into {a0 : Value} {K : Value → World → Prop} {w : World} (h : S_find_walk_into a0 K w) : Ret P n_find_walk_into [a0] w K :=
  vcF_of mixed Tryz.func171 (show S_find_walk_into a0 K w = vcF P Tryz.f171 [a0] w K from by kernel_rfl) h
/- (*spunyarn/find.walk).ends -/
abbrev S_find_walk_ends (a0 : Value) (K : Value → World → Prop) (w0 : World) : Prop :=
xAt a0 fun a1000 =>
XLd w0.drew (a1000.add 2) fun v1001 =>
xAt a0 fun a1002 =>
XLd w0.drew (a1002.add 1) fun v1003 =>
xLen v1003 fun v1004 =>
xEq v1001 v1004 fun v1005 =>
K v1005 (w0.drew)
theorem W_find_walk_ends {a0 : Value} {K : Value → World → Prop} {w : World} (h : S_find_walk_ends a0 K w) : Ret P n_find_walk_ends [a0] w K :=
  vcF_of mixed Tryz.func172 (show S_find_walk_ends a0 K w = vcF P Tryz.f172 [a0] w K from by kernel_rfl) h
/- (*spunyarn/find.walk).down -/
abbrev S_find_walk_down (a0 : Value) (K : Value → World → Prop) (w0 : World) : Prop :=
xAt a0 fun a1000 =>
XLd w0.drew (a1000.add 0) fun v1001 =>
xAt a0 fun a1002 =>
XLd w0.drew (a1002.add 1) fun v1003 =>
xAt a0 fun a1004 =>
XLd w0.drew (a1004.add 2) fun v1005 =>
xIxS v1003 v1005 1 fun v1006 =>
xAt v1006 fun a1007 =>
XLd w0.drew a1007 fun v1008 =>
Ret P n_node_Node_Kid [v1001, v1008] w0.drew fun v1009 w1010 =>
xAt a0 fun a1011 =>
XSt w1010 (a1011.add 0) v1009 fun w1012 =>
xAt a0 fun a1013 =>
XLd w1012 (a1013.add 2) fun v1014 =>
xAdd v1014 (.int .i64 1) fun v1015 =>
xAt a0 fun a1016 =>
XSt w1012 (a1016.add 2) v1015 fun w1017 =>
K (.tuple #[]) w1017
theorem W_find_walk_down {a0 : Value} {K : Value → World → Prop} {w : World} (h : S_find_walk_down a0 K w) : Ret P n_find_walk_down [a0] w K :=
  vcF_of mixed Tryz.func173 (show S_find_walk_down a0 K w = vcF P Tryz.f173 [a0] w K from by kernel_rfl) h
/- spunyarn/canon.Count$1 -/
abbrev S_canon_Count_1 (a0 : Value) (a1 : Value) (a2 : Value) (K : Value → World → Prop) (w0 : World) : Prop :=
Ret P n_node_Node_Val [a1] w0 fun v1000 w1001 =>
xTup v1000 0 fun v1002 =>
xTup v1000 1 fun v1003 =>
xIf v1003 (xAt a2 fun a1004 =>
XLd w1001 a1004 fun v1005 =>
xAdd v1005 (.int .i64 1) fun v1006 =>
xAt a2 fun a1008 =>
XSt w1001 a1008 v1006 fun w1007 =>
K (.tuple #[]) w1007) (K (.tuple #[]) w1001)
theorem W_canon_Count_1 {a0 a1 a2 : Value} {K : Value → World → Prop} {w : World} (h : S_canon_Count_1 a0 a1 a2 K w) : Ret P n_canon_Count_1 [a0, a1, a2] w K :=
  vcF_of mixed Tryz.func176 (show S_canon_Count_1 a0 a1 a2 K w = vcF P Tryz.f176 [a0, a1, a2] w K from by kernel_rfl) h
/- spunyarn/canon.List$1 -/
abbrev S_canon_List_1 (a0 : Value) (a1 : Value) (a2 : Value) (K : Value → World → Prop) (w0 : World) : Prop :=
Ret P n_node_Node_Val [a1] w0 fun v1000 w1001 =>
xTup v1000 0 fun v1002 =>
xTup v1000 1 fun v1003 =>
xIf v1003 (xAt a2 fun a1004 =>
XLd w1001.drew a1004 fun v1005 =>
Ret P n_bytes_Clone [a0] w1001.drew fun v1006 w1007 =>
xKeep1 w1007 a2 v1005 ∧ (xFill [(.slice none 0 0), (.int .u64 0)] [(0, 1, v1006), (1, 1, v1002)] fun c1008 =>
xFill (repL [(.slice none 0 0), (.int .u64 0)] 1) [(0, 2, (.agg c1008.toArray))] fun c1009 =>
XNew w1007 c1009 158 fun a1010 w1011 =>
xKeep1 w1011 a2 v1005 ∧ (XRun P (Builtin.append_ #[76, 76] 76 #[v1005, (.slice (some a1010) 1 1)]) w1011 fun v1012 w1013 =>
xAt a2 fun a1015 =>
XSt w1013 a1015 v1012 fun w1014 =>
K (.tuple #[]) w1014))) (K (.tuple #[]) w1001)
theorem W_canon_List_1 {a0 a1 a2 : Value} {K : Value → World → Prop} {w : World} (h : S_canon_List_1 a0 a1 a2 K w) : Ret P n_canon_List_1 [a0, a1, a2] w K :=
  vcF_of mixed Tryz.func177 (show S_canon_List_1 a0 a1 a2 K w = vcF P Tryz.f177 [a0, a1, a2] w K from by kernel_rfl) h
/- spunyarn/spunyarnref01.digits -/
abbrev S_ref01_digits (a0 : Value) (K : Value → World → Prop) (w0 : World) : Prop :=
xConv .i64 a0 fun v1000 =>
xQuo v1000 (.int .i64 16) fun v1001 =>
xConv .i64 a0 fun v1002 =>
xRem v1002 (.int .i64 16) fun v1003 =>
xAdd v1001 (.int .i64 1) fun v1004 =>
xCutStr (.string ⟨#[48, 49, 50, 51, 52, 53, 54, 55, 56, 57, 97, 98, 99, 100, 101, 102]⟩) (some v1001) (some v1004) fun v1005 =>
xAdd v1003 (.int .i64 1) fun v1006 =>
xCutStr (.string ⟨#[48, 49, 50, 51, 52, 53, 54, 55, 56, 57, 97, 98, 99, 100, 101, 102]⟩) (some v1003) (some v1006) fun v1007 =>
xSCat v1005 v1007 fun v1008 =>
K v1008 (w0.drew)
theorem W_ref01_digits {a0 : Value} {K : Value → World → Prop} {w : World} (h : S_ref01_digits a0 K w) : Ret P n_ref01_digits [a0] w K :=
  vcF_of mixed Tryz.func181 (show S_ref01_digits a0 K w = vcF P Tryz.f181 [a0] w K from by kernel_rfl) h
/- spunyarn/sub.Sub -/
abbrev S_sub_Sub (a0 : Value) (a1 : Value) (a2 : Value) (a3 : Value) (K : Value → World → Prop) (w0 : World) : Prop :=
xEq a2 (.int .u64 0) fun v1000 =>
xIf v1000 (K (.tuple #[(.pointer none), (.int .i64 1)]) w0) (Ret P n_sub_seek [a0, a1] w0 fun v1001 w1002 =>
XNew w1002 [(.pointer none), (.slice none 0 0)] 295 fun a1003 w1004 =>
XDo P (storeVar 295 a1003 v1001) w1004 fun w1005 =>
XLd w1005.drew (a1003.add 0) fun v1006 =>
XLd w1005.drew (a1003.add 1) fun v1007 =>
XLd w1005.drew (a1003.add 0) fun v1008 =>
Ret P n_node_Node_Part [v1008] w1005.drew fun v1009 w1010 =>
xKeep1 w1010 (.pointer (some (a1003.add 1))) v1007 ∧ (xKeep1 w1010 (.pointer (some (a1003.add 0))) v1006 ∧ (XRun P (Builtin.append_ #[41, 41] 41 #[v1007, v1009]) w1010 fun v1011 w1012 =>
xKeep1 w1012 (.pointer (some (a1003.add 0))) v1006 ∧ (Ret P n_sub_with [v1006, v1011, a2, a3] w1012 fun v1013 w1014 =>
K (.tuple #[v1013, (.int .i64 0)]) w1014))))
theorem W_sub_Sub {a0 a1 a2 a3 : Value} {K : Value → World → Prop} {w : World} (h : S_sub_Sub a0 a1 a2 a3 K w) : Ret P n_sub_Sub [a0, a1, a2, a3] w K :=
  vcF_of mixed Tryz.func182 (show S_sub_Sub a0 a1 a2 a3 K w = vcF P Tryz.f182 [a0, a1, a2, a3] w K from by kernel_rfl) h
/- spunyarn/sub.Strip -/
abbrev S_sub_Strip (a0 : Value) (a1 : Value) (a2 : Value) (a3 : Value) (K : Value → World → Prop) (w0 : World) : Prop :=
xEq a2 (.int .u64 0) fun v1000 =>
xIf v1000 (K (.tuple #[(.pointer none), (.int .i64 1)]) w0) (Ret P n_sub_seek [a0, a1] w0 fun v1001 w1002 =>
XNew w1002 [(.pointer none), (.slice none 0 0)] 295 fun a1003 w1004 =>
XDo P (storeVar 295 a1003 v1001) w1004 fun w1005 =>
XLd w1005 (a1003.add 0) fun v1006 =>
xPEq P w1005 v1006 (.pointer none) fun v1007 =>
xIf v1007 (K (.tuple #[(.pointer none), (.int .i64 0)]) w1005) (XLd w1005.drew (a1003.add 0) fun v1008 =>
XLd w1005.drew (a1003.add 0) fun v1009 =>
xLen a1 fun v1010 =>
XLd w1005.drew (a1003.add 1) fun v1011 =>
xLen v1011 fun v1012 =>
xSub v1010 v1012 fun v1013 =>
Ret P n_node_Node_Part [v1009] w1005.drew fun v1014 w1015 =>
xKeep1 w1015 (.pointer (some (a1003.add 1))) v1011 ∧ (xKeep1 w1015 (.pointer (some (a1003.add 0))) v1008 ∧ (xCutS 1 v1014 (some v1013) none none fun v1016 =>
Ret P n_sub_with [v1008, v1016, a2, a3] w1015 fun v1017 w1018 =>
K (.tuple #[v1017, (.int .i64 0)]) w1018))))
theorem W_sub_Strip {a0 a1 a2 a3 : Value} {K : Value → World → Prop} {w : World} (h : S_sub_Strip a0 a1 a2 a3 K w) : Ret P n_sub_Strip [a0, a1, a2, a3] w K :=
  vcF_of mixed Tryz.func183 (show S_sub_Strip a0 a1 a2 a3 K w = vcF P Tryz.f183 [a0, a1, a2, a3] w K from by kernel_rfl) h
/- spunyarn/sub.Under -/
abbrev S_sub_Under (a0 : Value) (a1 : Value) (a2 : Value) (a3 : Value) (K : Value → World → Prop) (w0 : World) : Prop :=
xEq a2 (.int .u64 0) fun v1000 =>
xIf v1000 (K (.tuple #[(.pointer none), (.int .i64 1)]) w0) (xPEq P w0 a0 (.pointer none) fun v1001 =>
xIf v1001 (K (.tuple #[(.pointer none), (.int .i64 0)]) w0) (xLen a1 fun v1002 =>
Ret P n_sub_Longest [a0] w0 fun v1003 w1004 =>
xSub (.int .i64 65535) v1003 fun v1005 =>
xGt v1002 v1005 fun v1006 =>
xIf v1006 (K (.tuple #[(.pointer none), (.int .i64 8)]) w1004) (xLen a1 fun v1007 =>
xLen a1 fun v1008 =>
xCutS 1 a1 none (some v1007) (some v1008) fun v1009 =>
Ret P n_node_Node_Part [a0] w1004.drew fun v1010 w1011 =>
XRun P (Builtin.append_ #[41, 41] 41 #[v1009, v1010]) w1011 fun v1012 w1013 =>
Ret P n_sub_with [a0, v1012, a2, a3] w1013 fun v1014 w1015 =>
K (.tuple #[v1014, (.int .i64 0)]) w1015)))
theorem W_sub_Under {a0 a1 a2 a3 : Value} {K : Value → World → Prop} {w : World} (h : S_sub_Under a0 a1 a2 a3 K w) : Ret P n_sub_Under [a0, a1, a2, a3] w K :=
  vcF_of mixed Tryz.func184 (show S_sub_Under a0 a1 a2 a3 K w = vcF P Tryz.f184 [a0, a1, a2, a3] w K from by kernel_rfl) h
/- spunyarn/spunyarnref01.Sorted -/
/- S_ref01_Sorted_l1: 0=slot 3 i 1=slot 2 -/
def S_ref01_Sorted_l1 (K : Value → World → Prop) (a0 : Value) (I1000 : Nat → List Value → World → Prop) (n1001 : Nat) (vs1002 : List Value) (g1003 : Nat → Value) (w1004 : World) : Prop :=
xLen a0 fun v1005 =>
xLt (vs1002.getD 0 undef) v1005 fun v1006 =>
xIf v1006 (xSub (vs1002.getD 0 undef) (.int .i64 1) fun v1007 =>
xIxS a0 v1007 2 fun v1008 =>
xFld v1008 0 fun v1009 =>
xAt v1009 fun a1010 =>
XLd w1004.drew a1010 fun v1011 =>
xIxS a0 (vs1002.getD 0 undef) 2 fun v1012 =>
xFld v1012 0 fun v1013 =>
xAt v1013 fun a1014 =>
XLd w1004.drew a1014 fun v1015 =>
Ret P n_ref01_Cmp [v1011, v1015] w1004.drew fun v1016 w1017 =>
xGe v1016 (.int .i64 0) fun v1018 =>
xIf v1018 (K (.bool false) w1017) (xAdd (vs1002.getD 0 undef) (.int .i64 1) fun v1019 =>
XNext I1000 n1001 [v1019, (vs1002.getD 1 undef)] w1017)) (K (.bool true) w1004)
abbrev S_ref01_Sorted (a0 : Value) (K : Value → World → Prop) (w0 : World) : Prop :=
XLoop [(.int .i64 1), (.bool false)] w0 (S_ref01_Sorted_l1 K a0)
theorem W_ref01_Sorted {a0 : Value} {K : Value → World → Prop} {w : World} (h : S_ref01_Sorted a0 K w) : Ret P n_ref01_Sorted [a0] w K :=
  vcF_of mixed Tryz.func185 (show S_ref01_Sorted a0 K w = vcF P Tryz.f185 [a0] w K from by kernel_rfl) h
/- spunyarn/spunyarnref01.Begins -/
abbrev S_ref01_Begins (a0 : Value) (a1 : Value) (K : Value → World → Prop) (w0 : World) : Prop :=
Ret P n_ref01_Common [a0, a1] w0 fun v1000 w1001 =>
xLen a1 fun v1002 =>
xEq v1000 v1002 fun v1003 =>
K v1003 w1001
theorem W_ref01_Begins {a0 a1 : Value} {K : Value → World → Prop} {w : World} (h : S_ref01_Begins a0 a1 K w) : Ret P n_ref01_Begins [a0, a1] w K :=
  vcF_of mixed Tryz.func186 (show S_ref01_Begins a0 a1 K w = vcF P Tryz.f186 [a0, a1] w K from by kernel_rfl) h
/- spunyarn/keys.Sorted -/
/- S_keys_Sorted_l1: 0=slot 3 i 1=slot 2 -/
def S_keys_Sorted_l1 (K : Value → World → Prop) (a0 : Value) (I1000 : Nat → List Value → World → Prop) (n1001 : Nat) (vs1002 : List Value) (g1003 : Nat → Value) (w1004 : World) : Prop :=
xLen a0 fun v1005 =>
xLt (vs1002.getD 0 undef) v1005 fun v1006 =>
xIf v1006 (xSub (vs1002.getD 0 undef) (.int .i64 1) fun v1007 =>
xIxS a0 v1007 2 fun v1008 =>
xFld v1008 0 fun v1009 =>
xAt v1009 fun a1010 =>
XLd w1004.drew a1010 fun v1011 =>
xIxS a0 (vs1002.getD 0 undef) 2 fun v1012 =>
xFld v1012 0 fun v1013 =>
xAt v1013 fun a1014 =>
XLd w1004.drew a1014 fun v1015 =>
Ret P n_keys_Cmp [v1011, v1015] w1004.drew fun v1016 w1017 =>
xGe v1016 (.int .i64 0) fun v1018 =>
xIf v1018 (K (.bool false) w1017) (xAdd (vs1002.getD 0 undef) (.int .i64 1) fun v1019 =>
XNext I1000 n1001 [v1019, (vs1002.getD 1 undef)] w1017)) (K (.bool true) w1004)
abbrev S_keys_Sorted (a0 : Value) (K : Value → World → Prop) (w0 : World) : Prop :=
XLoop [(.int .i64 1), (.bool false)] w0 (S_keys_Sorted_l1 K a0)
theorem W_keys_Sorted {a0 : Value} {K : Value → World → Prop} {w : World} (h : S_keys_Sorted a0 K w) : Ret P n_keys_Sorted [a0] w K :=
  vcF_of mixed Tryz.func194 (show S_keys_Sorted a0 K w = vcF P Tryz.f194 [a0] w K from by kernel_rfl) h
/- (*strings.Builder).copyCheck -/
abbrev S_strings_Builder_copyCheck (a0 : Value) (K : Value → World → Prop) (w0 : World) : Prop :=
xAt a0 fun a1000 =>
XLd w0 (a1000.add 0) fun v1001 =>
xPEq P w0 v1001 (.pointer none) fun v1002 =>
xIf v1002 (XRun P (convert 162 298 a0) w0 fun v1003 w1004 =>
xCall P 228 [v1003] w1004 fun v1005 w1006 =>
XRun P (convert 298 162 v1005) w1006 fun v1007 w1008 =>
xAt a0 fun a1009 =>
XSt w1008 (a1009.add 0) v1007 fun w1010 =>
K (.tuple #[]) w1010) (xAt a0 fun a1011 =>
XLd w0 (a1011.add 0) fun v1012 =>
xPNe P w0 v1012 a0 fun v1013 =>
xIf v1013 (False) (K (.tuple #[]) w0))
theorem W_strings_Builder_copyCheck {a0 : Value} {K : Value → World → Prop} {w : World} (h : S_strings_Builder_copyCheck a0 K w) : Ret P n_strings_Builder_copyCheck [a0] w K :=
  vcF_of mixed Tryz.func195 (show S_strings_Builder_copyCheck a0 K w = vcF P Tryz.f195 [a0] w K from by kernel_rfl) h
/- internal/strconv.Itoa -/
abbrev S_istrconv_Itoa (a0 : Value) (K : Value → World → Prop) (w0 : World) : Prop :=
Ret P n_istrconv_FormatInt [a0, (.int .i64 10)] w0 fun v1000 w1001 =>
K v1000 w1001
theorem W_istrconv_Itoa {a0 : Value} {K : Value → World → Prop} {w : World} (h : S_istrconv_Itoa a0 K w) : Ret P n_istrconv_Itoa [a0] w K :=
  vcF_of mixed Tryz.func196 (show S_istrconv_Itoa a0 K w = vcF P Tryz.f196 [a0] w K from by kernel_rfl) h
/- internal/strconv.FormatUint -/
abbrev S_istrconv_FormatUint (a0 : Value) (a1 : Value) (K : Value → World → Prop) (w0 : World) : Prop :=
xEq a1 (.int .i64 10) fun v1000 =>
xIf v1000 (xLt a0 (.int .u64 100) fun v1001 =>
xIf v1001 (xConv .i64 a0 fun v1002 =>
Ret P n_istrconv_small [v1002] w0 fun v1003 w1004 =>
K v1003 w1004) (XNew w0 [(.int .u8 0), (.int .u8 0), (.int .u8 0), (.int .u8 0), (.int .u8 0), (.int .u8 0), (.int .u8 0), (.int .u8 0), (.int .u8 0), (.int .u8 0), (.int .u8 0), (.int .u8 0), (.int .u8 0), (.int .u8 0), (.int .u8 0), (.int .u8 0), (.int .u8 0), (.int .u8 0), (.int .u8 0), (.int .u8 0), (.int .u8 0), (.int .u8 0), (.int .u8 0), (.int .u8 0)] 301 fun a1005 w1006 =>
Ret P n_istrconv_numDigits [a0] w1006 fun v1007 w1008 =>
xCutA 24 1 (.pointer (some a1005)) none (some v1007) none fun v1009 =>
Ret P n_istrconv_formatBase10 [v1009, a0] w1008 fun v1010 w1011 =>
xCutA 24 1 (.pointer (some a1005)) none (some v1007) none fun v1012 =>
XRun P (convert 41 9 v1012) w1011 fun v1013 w1014 =>
K v1013 w1014)) (Ret P n_istrconv_formatBits [(.slice none 0 0), a0, a1, (.bool false), (.bool false)] w0 fun v1015 w1016 =>
xTup v1015 0 fun v1017 =>
xTup v1015 1 fun v1018 =>
K v1018 w1016)
theorem W_istrconv_FormatUint {a0 a1 : Value} {K : Value → World → Prop} {w : World} (h : S_istrconv_FormatUint a0 a1 K w) : Ret P n_istrconv_FormatUint [a0, a1] w K :=
  vcF_of mixed Tryz.func197 (show S_istrconv_FormatUint a0 a1 K w = vcF P Tryz.f197 [a0, a1] w K from by kernel_rfl) h
/- (*spunyarn/kids.Kids[*spunyarn/node.Node]).Next -/
abbrev S_kids_Kids_Next (a0 : Value) (a1 : Value) (K : Value → World → Prop) (w0 : World) : Prop :=
Ret P n_kids_Kids_ok [a0] w0 fun v1000 w1001 =>
xNot v1000 fun v1002 =>
xIf v1002 (K (.tuple #[(.int .u8 0), (.pointer none), (.bool false)]) w1001) (xAt a0 fun a1003 =>
XLd w1001 (a1003.add 0) fun v1004 =>
xPNe P w1001 v1004 (.pointer none) fun v1005 =>
xIf v1005 (xAt a0 fun a1006 =>
XLd w1001 (a1006.add 0) fun v1007 =>
Ret P n_small_Row_Next [v1007, a1] w1001 fun v1008 w1009 =>
xTup v1008 0 fun v1010 =>
xTup v1008 1 fun v1011 =>
xTup v1008 2 fun v1012 =>
K (.tuple #[v1010, v1011, v1012]) w1009) (xAt a0 fun a1013 =>
XLd w1001 (a1013.add 1) fun v1014 =>
Ret P n_wide_Board_Next [v1014, a1] w1001 fun v1015 w1016 =>
xTup v1015 0 fun v1017 =>
xTup v1015 1 fun v1018 =>
xTup v1015 2 fun v1019 =>
K (.tuple #[v1017, v1018, v1019]) w1016))
theorem W_kids_Kids_Next {a0 a1 : Value} {K : Value → World → Prop} {w : World} (h : S_kids_Kids_Next a0 a1 K w) : Ret P n_kids_Kids_Next [a0, a1] w K :=
  vcF_of mixed Tryz.func198 (show S_kids_Kids_Next a0 a1 K w = vcF P Tryz.f198 [a0, a1] w K from by kernel_rfl) h
/- (*spunyarn/kids.Kids[*spunyarn/node.Node]).ok -/
abbrev S_kids_Kids_ok (a0 : Value) (K : Value → World → Prop) (w0 : World) : Prop :=
/- 0 -/ XJ (fun J1000 =>
xPNe P w0 a0 (.pointer none) fun v1004 =>
xIf v1004 (xAt a0 fun a1005 =>
XLd w0 (a1005.add 0) fun v1006 =>
xPNe P w0 v1006 (.pointer none) fun v1007 =>
xIf v1007 (J1000 [(.bool true)] w0) (xAt a0 fun a1008 =>
XLd w0 (a1008.add 1) fun v1009 =>
xPNe P w0 v1009 (.pointer none) fun v1010 =>
J1000 [v1010] w0)) (J1000 [(.bool false)] w0)) fun vs1001 g1002 w1003 =>
K (vs1001.getD 0 undef) w1003
theorem W_kids_Kids_ok {a0 : Value} {K : Value → World → Prop} {w : World} (h : S_kids_Kids_ok a0 K w) : Ret P n_kids_Kids_ok [a0] w K :=
  vcF_of mixed Tryz.func199 (show S_kids_Kids_ok a0 K w = vcF P Tryz.f199 [a0] w K from by kernel_rfl) h
/- (*spunyarn/small.Row[*spunyarn/node.Node]).Room -/
abbrev S_small_Row_Room (a0 : Value) (K : Value → World → Prop) (w0 : World) : Prop :=
Ret P n_small_Row_ok [a0] w0 fun v1000 w1001 =>
xNot v1000 fun v1002 =>
xIf v1002 (K (.int .i64 0) w1001) (xAt a0 fun a1003 =>
XLd w1001 (a1003.add 0) fun v1004 =>
K v1004 w1001)
theorem W_small_Row_Room {a0 : Value} {K : Value → World → Prop} {w : World} (h : S_small_Row_Room a0 K w) : Ret P n_small_Row_Room [a0] w K :=
  vcF_of mixed Tryz.func200 (show S_small_Row_Room a0 K w = vcF P Tryz.f200 [a0] w K from by kernel_rfl) h
/- (*spunyarn/wide.Board[*spunyarn/node.Node]).Room -/
abbrev S_wide_Board_Room (a0 : Value) (K : Value → World → Prop) (w0 : World) : Prop :=
Ret P n_wide_Board_ok [a0] w0 fun v1000 w1001 =>
xNot v1000 fun v1002 =>
xIf v1002 (K (.int .i64 0) w1001) (xAt a0 fun a1003 =>
XLd w1001 (a1003.add 0) fun v1004 =>
K v1004 w1001)
theorem W_wide_Board_Room {a0 : Value} {K : Value → World → Prop} {w : World} (h : S_wide_Board_Room a0 K w) : Ret P n_wide_Board_Room [a0] w K :=
  vcF_of mixed Tryz.func201 (show S_wide_Board_Room a0 K w = vcF P Tryz.f201 [a0] w K from by kernel_rfl) h
/- (*spunyarn/small.Row[*spunyarn/node.Node]).Len -/
abbrev S_small_Row_Len (a0 : Value) (K : Value → World → Prop) (w0 : World) : Prop :=
Ret P n_small_Row_ok [a0] w0 fun v1000 w1001 =>
xNot v1000 fun v1002 =>
xIf v1002 (K (.int .i64 0) w1001) (xAt a0 fun a1003 =>
XLd w1001 (a1003.add 1) fun v1004 =>
K v1004 w1001)
theorem W_small_Row_Len {a0 : Value} {K : Value → World → Prop} {w : World} (h : S_small_Row_Len a0 K w) : Ret P n_small_Row_Len [a0] w K :=
  vcF_of mixed Tryz.func202 (show S_small_Row_Len a0 K w = vcF P Tryz.f202 [a0] w K from by kernel_rfl) h
/- (*spunyarn/wide.Board[*spunyarn/node.Node]).Len -/
abbrev S_wide_Board_Len (a0 : Value) (K : Value → World → Prop) (w0 : World) : Prop :=
Ret P n_wide_Board_ok [a0] w0 fun v1000 w1001 =>
xNot v1000 fun v1002 =>
xIf v1002 (K (.int .i64 0) w1001) (xAt a0 fun a1003 =>
XLd w1001 (a1003.add 1) fun v1004 =>
K v1004 w1001)
theorem W_wide_Board_Len {a0 : Value} {K : Value → World → Prop} {w : World} (h : S_wide_Board_Len a0 K w) : Ret P n_wide_Board_Len [a0] w K :=
  vcF_of mixed Tryz.func203 (show S_wide_Board_Len a0 K w = vcF P Tryz.f203 [a0] w K from by kernel_rfl) h
/- (spunyarn/del.taker).here -/
abbrev S_del_taker_here (a0 : Value) (a1 : Value) (K : Value → World → Prop) (w0 : World) : Prop :=
XNew w0 (cellsV a0) 240 fun a1000 w1001 =>
Ret P n_node_Node_Len [a1] w1001 fun v1002 w1003 =>
xEq v1002 (.int .i64 0) fun v1004 =>
xIf v1004 (K (.pointer none) w1003) (xEq v1002 (.int .i64 1) fun v1005 =>
xIf v1005 (Ret P n_node_Node_Next [a1, (.int .i64 0)] w1003 fun v1006 w1007 =>
xTup v1006 0 fun v1008 =>
xTup v1006 1 fun v1009 =>
XLdN w1007 a1000 2 fun v1010 =>
Ret P n_del_taker_lift [v1010, a1, v1008, v1009] w1007 fun v1011 w1012 =>
K v1011 w1012) (XLd w1003 (a1000.add 1) fun v1013 =>
XLd w1003 (a1000.add 0) fun v1014 =>
Ret P n_node_Node_Own [a1, v1013, v1014] w1003 fun v1015 w1016 =>
XLd w1016 (a1000.add 0) fun v1017 =>
Ret P n_node_Node_DropVal [v1015, v1017] w1016 fun v1018 w1019 =>
K v1015 w1019))
theorem W_del_taker_here {a0 a1 : Value} {K : Value → World → Prop} {w : World} (h : S_del_taker_here a0 a1 K w) : Ret P n_del_taker_here [a0, a1] w K :=
  vcF_of mixed Tryz.func204 (show S_del_taker_here a0 a1 K w = vcF P Tryz.f204 [a0, a1] w K from by kernel_rfl) h
/- (*spunyarn/node.Node).Own -/
abbrev S_node_Node_Own (a0 : Value) (a1 : Value) (a2 : Value) (K : Value → World → Prop) (w0 : World) : Prop :=
Ret P n_node_Node_may [a0, a2] w0 fun v1000 w1001 =>
xEq v1000 (.int .i64 0) fun v1002 =>
xIf v1002 (K a0 w1001) (Ret P n_node_Node_Copy [a0, a1, a2] w1001 fun v1003 w1004 =>
K v1003 w1004)
theorem W_node_Node_Own {a0 a1 a2 : Value} {K : Value → World → Prop} {w : World} (h : S_node_Node_Own a0 a1 a2 K w) : Ret P n_node_Node_Own [a0, a1, a2] w K :=
  vcF_of mixed Tryz.func205 (show S_node_Node_Own a0 a1 a2 K w = vcF P Tryz.f205 [a0, a1, a2] w K from by kernel_rfl) h
end Go.Proofs.YthnegkjhciakpaaGreatDoor
