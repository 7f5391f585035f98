/-  Written by gen.py for this claim: of each function a form without frames, the same as the engine's condition by reckoning.  -/
import Derived.Test.YtlhjfenpmnejoaaGreatDoorSN
import Derived.Test.YtlhjfenpmnejoaaGreatDoorProg
namespace Go.Proofs.YtlhjfenpmnejoaaGreatDoor
open Go X
set_option linter.unusedVariables false
set_option maxRecDepth 100000
/- spunyarn/spunyarnref01.Same -/
abbrev S_ref01_Same (a0 : Value) (a1 : Value) (K : Value → World → Prop) (w0 : World) : Prop :=
Ret P n_ref01_Cmp [a0, a1] w0 fun v1000 w1001 =>
xEq v1000 (.int .i64 0) fun v1002 =>
K v1002 w1001
theorem W_ref01_Same {a0 a1 : Value} {K : Value → World → Prop} {w : World} (h : S_ref01_Same a0 a1 K w) : Ret P n_ref01_Same [a0, a1] w K :=
  vcF_of mixed Tryz.func9 (show S_ref01_Same a0 a1 K w = vcF P Tryz.f9 [a0, a1] w K from by kernel_rfl) h
/- spunyarn/spunyarnref13.Shape -/
/- S_ref13_Shape_l1: 0=slot 4 i 1=slot 3 s -/
def S_ref13_Shape_l1 (K : Value → World → Prop) (a1000 : Addr) (I1034 : Nat → List Value → World → Prop) (n1035 : Nat) (vs1036 : List Value) (g1037 : Nat → Value) (w1038 : World) : Prop :=
XLd w1038 (a1000.add 5) fun v1039 =>
xLen v1039 fun v1040 =>
xLt (vs1036.getD 0 undef) v1040 fun v1041 =>
xIf v1041 (XLd w1038.drew (a1000.add 4) fun v1042 =>
xIxS v1042 (vs1036.getD 0 undef) 1 fun v1043 =>
xAt v1043 fun a1044 =>
XLd w1038.drew a1044 fun v1045 =>
XLd w1038.drew (a1000.add 5) fun v1046 =>
xIxS v1046 (vs1036.getD 0 undef) 6 fun v1047 =>
xAt v1047 fun a1048 =>
XLdN w1038.drew a1048 6 fun v1049 =>
xFill (repL [(.int .u8 0)] 1) [(0, 1, v1045)] fun c1050 =>
XNew w1038.drew c1050 5 fun a1051 w1052 =>
xKeepN w1052 v1047 v1049 ∧ (xKeep1 w1052 (.pointer (some (a1000.add 5))) v1046 ∧ (Ret P n_ref01_Text [(.slice (some a1051) 1 1)] w1052 fun v1053 w1054 =>
xKeepN w1054 v1047 v1049 ∧ (xKeep1 w1054 (.pointer (some (a1000.add 5))) v1046 ∧ (xSCat (.string ⟨#[58]⟩) v1053 fun v1055 =>
Ret P n_ref13_Shape [v1049] w1054 fun v1056 w1057 =>
xSCat v1055 v1056 fun v1058 =>
xSCat (vs1036.getD 1 undef) v1058 fun v1059 =>
xAdd (vs1036.getD 0 undef) (.int .i64 1) fun v1060 =>
XNext I1034 n1035 [v1060, v1059] w1057))))) (xSCat (vs1036.getD 1 undef) (.string ⟨#[62]⟩) fun v1061 =>
K v1061 w1038)
abbrev S_ref13_Shape (a0 : Value) (K : Value → World → Prop) (w0 : World) : Prop :=
XNew w0 (cellsV a0) 51 fun a1000 w1001 =>
XLd w1001 (a1000.add 0) fun v1002 =>
xEq v1002 (.int .i64 0) fun v1003 =>
xIf v1003 (K (.string ⟨#[46]⟩) w1001) (XLd w1001 (a1000.add 0) fun v1004 =>
xEq v1004 (.int .i64 1) fun v1005 =>
xIf v1005 (XLd w1001.drew (a1000.add 1) fun v1006 =>
XLd w1001.drew (a1000.add 3) fun v1007 =>
Ret P n_ref01_Text [v1006] w1001.drew fun v1008 w1009 =>
xKeep1 w1009 (.pointer (some (a1000.add 3))) v1007 ∧ (xSCat (.string ⟨#[76]⟩) v1008 fun v1010 =>
xSCat v1010 (.string ⟨#[61]⟩) fun v1011 =>
Ret P n_ref13_Digits [v1007] w1009 fun v1012 w1013 =>
xSCat v1011 v1012 fun v1014 =>
K v1014 w1013)) (XLd w1001.drew (a1000.add 0) fun v1015 =>
xConv .u64 v1015 fun v1016 =>
XLd w1001.drew (a1000.add 1) fun v1017 =>
Ret P n_ref13_Digits [v1016] w1001.drew fun v1018 w1019 =>
xKeep1 w1019 (.pointer (some (a1000.add 1))) v1017 ∧ (xSCat v1018 (.string ⟨#[60]⟩) fun v1020 =>
Ret P n_ref01_Text [v1017] w1019 fun v1021 w1022 =>
xSCat v1020 v1021 fun v1023 =>
/- 0 s -/ XJ (fun J1024 =>
XLd w1022 (a1000.add 2) fun v1028 =>
xIf v1028 (XLd w1022 (a1000.add 3) fun v1029 =>
Ret P n_ref13_Digits [v1029] w1022 fun v1030 w1031 =>
xSCat (.string ⟨#[61]⟩) v1030 fun v1032 =>
xSCat v1023 v1032 fun v1033 =>
J1024 [v1033] w1031) (J1024 [v1023] w1022)) fun vs1025 g1026 w1027 =>
XLoop [(.int .i64 0), (vs1025.getD 0 undef)] w1027 (S_ref13_Shape_l1 K a1000))))
theorem W_ref13_Shape {a0 : Value} {K : Value → World → Prop} {w : World} (h : S_ref13_Shape a0 K w) : Ret P n_ref13_Shape [a0] w K :=
  vcF_of mixed Tryz.func19 (show S_ref13_Shape a0 K w = vcF P Tryz.f19 [a0] w K from by kernel_rfl) h
/- spunyarn/spunyarnref13.Build -/
abbrev S_ref13_Build (a0 : Value) (K : Value → World → Prop) (w0 : World) : Prop :=
XNew w0 [(.int .i64 0), (.slice none 0 0), (.bool false), (.int .u64 0), (.slice none 0 0), (.slice none 0 0)] 51 fun a1000 w1001 =>
Ret P n_ref13_build [a0, (.int .i64 0)] w1001 fun v1002 w1003 =>
XDo P (storeVar 51 a1000 v1002) w1003 fun w1004 =>
XLdN w1004 a1000 6 fun v1005 =>
K v1005 w1004
theorem W_ref13_Build {a0 : Value} {K : Value → World → Prop} {w : World} (h : S_ref13_Build a0 K w) : Ret P n_ref13_Build [a0] w K :=
  vcF_of mixed Tryz.func20 (show S_ref13_Build a0 K w = vcF P Tryz.f20 [a0] w K from by kernel_rfl) h
/- spunyarn/spunyarnref01.Cmp -/
abbrev S_ref01_Cmp (a0 : Value) (a1 : Value) (K : Value → World → Prop) (w0 : World) : Prop :=
Ret P n_ref01_Common [a0, a1] w0 fun v1000 w1001 =>
/- 0 -/ XJ (fun J1002 =>
xLen a0 fun v1006 =>
xEq v1000 v1006 fun v1007 =>
xIf v1007 (xLen a1 fun v1008 =>
xEq v1000 v1008 fun v1009 =>
J1002 [v1009] w1001) (J1002 [(.bool false)] w1001)) fun vs1003 g1004 w1005 =>
xIf (vs1003.getD 0 undef) (K (.int .i64 0) w1005) (xLen a0 fun v1010 =>
xEq v1000 v1010 fun v1011 =>
xIf v1011 (K (.int .i64 (-1)) w1005) (xLen a1 fun v1012 =>
xEq v1000 v1012 fun v1013 =>
xIf v1013 (K (.int .i64 1) w1005) (xIxS a0 v1000 1 fun v1014 =>
xAt v1014 fun a1015 =>
XLd w1005.drew a1015 fun v1016 =>
xIxS a1 v1000 1 fun v1017 =>
xAt v1017 fun a1018 =>
XLd w1005.drew a1018 fun v1019 =>
xLt v1016 v1019 fun v1020 =>
xIf v1020 (K (.int .i64 (-1)) (w1005.drew)) (K (.int .i64 1) (w1005.drew)))))
theorem W_ref01_Cmp {a0 a1 : Value} {K : Value → World → Prop} {w : World} (h : S_ref01_Cmp a0 a1 K w) : Ret P n_ref01_Cmp [a0, a1] w K :=
  vcF_of mixed Tryz.func29 (show S_ref01_Cmp a0 a1 K w = vcF P Tryz.f29 [a0, a1] w K from by kernel_rfl) h
/- spunyarn/canon.Shape -/
abbrev S_canon_Shape (a0 : Value) (K : Value → World → Prop) (w0 : World) : Prop :=
XNew w0 [(.pointer none), (.slice none 0 0)] 141 fun a1000 w1001 =>
Ret P n_canon_shape [(.pointer (some a1000)), a0] w1001 fun v1002 w1003 =>
Ret P n_strings_Builder_String [(.pointer (some a1000))] w1003 fun v1004 w1005 =>
K v1004 w1005
theorem W_canon_Shape {a0 : Value} {K : Value → World → Prop} {w : World} (h : S_canon_Shape a0 K w) : Ret P n_canon_Shape [a0] w K :=
  vcF_of mixed Tryz.func30 (show S_canon_Shape a0 K w = vcF P Tryz.f30 [a0] w K from by kernel_rfl) h
/- spunyarn/canon.Count -/
abbrev S_canon_Count (a0 : Value) (K : Value → World → Prop) (w0 : World) : Prop :=
XNew w0 [(.int .i64 0)] 3 fun a1000 w1001 =>
XSt w1001 a1000 (.int .i64 0) fun w1002 =>
Ret P n_canon_each [a0, (.func (.func 73) #[] #[(.pointer (some a1000))])] w1002 fun v1003 w1004 =>
XLd w1004 a1000 fun v1005 =>
K v1005 w1004
theorem W_canon_Count {a0 : Value} {K : Value → World → Prop} {w : World} (h : S_canon_Count a0 K w) : Ret P n_canon_Count [a0] w K :=
  vcF_of mixed Tryz.func35 (show S_canon_Count a0 K w = vcF P Tryz.f35 [a0] w K from by kernel_rfl) h
/- spunyarn/spunyarnref13.Sort -/
/- S_ref13_Sort_l1: 0=slot 6 k -/
def S_ref13_Sort_l1 (a0 : Value) (vs1002 : List Value) (J1007 : List Value → World → Prop) (vs1013 : List Value) (v1062 : Value) (I1066 : Nat → List Value → World → Prop) (n1067 : Nat) (vs1068 : List Value) (g1069 : Nat → Value) (w1070 : World) : Prop :=
xGt (vs1068.getD 0 undef) (vs1013.getD 0 undef) fun v1071 =>
xIf v1071 (xSub (vs1068.getD 0 undef) (.int .i64 1) fun v1072 =>
xIxS v1062 v1072 2 fun v1073 =>
xAt v1073 fun a1074 =>
XLdN w1070 a1074 2 fun v1075 =>
xIxS v1062 (vs1068.getD 0 undef) 2 fun v1076 =>
xAt v1076 fun a1078 =>
XDo P (storeVar 30 a1078 v1075) w1070 fun w1077 =>
xSub (vs1068.getD 0 undef) (.int .i64 1) fun v1079 =>
XNext I1066 n1067 [v1079] w1077) (xIxS a0 (vs1002.getD 0 undef) 2 fun v1080 =>
xAt v1080 fun a1081 =>
XLdN w1070 a1081 2 fun v1082 =>
xIxS v1062 (vs1013.getD 0 undef) 2 fun v1083 =>
xAt v1083 fun a1085 =>
XDo P (storeVar 30 a1085 v1082) w1070 fun w1084 =>
J1007 [(vs1013.getD 0 undef), v1062, (vs1068.getD 0 undef)] w1084)
/- S_ref13_Sort_l2: 0=slot 5 j -/
def S_ref13_Sort_l2 (a0 : Value) (vs1002 : List Value) (J1007 : List Value → World → Prop) (I1011 : Nat → List Value → World → Prop) (n1012 : Nat) (vs1013 : List Value) (g1014 : Nat → Value) (w1015 : World) : Prop :=
/- 0 -/ XJ (fun J1016 =>
xLen (vs1002.getD 2 undef) fun v1020 =>
xLt (vs1013.getD 0 undef) v1020 fun v1021 =>
xIf v1021 (xIxS (vs1002.getD 2 undef) (vs1013.getD 0 undef) 2 fun v1022 =>
xFld v1022 0 fun v1023 =>
xAt v1023 fun a1024 =>
XLd w1015.drew a1024 fun v1025 =>
xIxS a0 (vs1002.getD 0 undef) 2 fun v1026 =>
xFld v1026 0 fun v1027 =>
xAt v1027 fun a1028 =>
XLd w1015.drew a1028 fun v1029 =>
Ret P n_ref01_Cmp [v1025, v1029] w1015.drew fun v1030 w1031 =>
xLt v1030 (.int .i64 0) fun v1032 =>
J1016 [v1032] w1031) (J1016 [(.bool false)] (w1015.drew))) fun vs1017 g1018 w1019 =>
xIf (vs1017.getD 0 undef) (xAdd (vs1013.getD 0 undef) (.int .i64 1) fun v1033 =>
XNext I1011 n1012 [v1033] w1019) (/- 0 -/ XJ (fun J1034 =>
xLen (vs1002.getD 2 undef) fun v1038 =>
xLt (vs1013.getD 0 undef) v1038 fun v1039 =>
xIf v1039 (xIxS (vs1002.getD 2 undef) (vs1013.getD 0 undef) 2 fun v1040 =>
xFld v1040 0 fun v1041 =>
xAt v1041 fun a1042 =>
XLd w1019.drew a1042 fun v1043 =>
xIxS a0 (vs1002.getD 0 undef) 2 fun v1044 =>
xFld v1044 0 fun v1045 =>
xAt v1045 fun a1046 =>
XLd w1019.drew a1046 fun v1047 =>
Ret P n_ref01_Same [v1043, v1047] w1019.drew fun v1048 w1049 =>
J1034 [v1048] w1049) (J1034 [(.bool false)] (w1019.drew))) fun vs1035 g1036 w1037 =>
xIf (vs1035.getD 0 undef) (xIxS a0 (vs1002.getD 0 undef) 2 fun v1050 =>
xFld v1050 1 fun v1051 =>
xAt v1051 fun a1052 =>
XLd w1037 a1052 fun v1053 =>
xIxS (vs1002.getD 2 undef) (vs1013.getD 0 undef) 2 fun v1054 =>
xFld v1054 1 fun v1055 =>
xAt v1055 fun a1057 =>
XSt w1037 a1057 v1053 fun w1056 =>
J1007 [(vs1013.getD 0 undef), (vs1002.getD 2 undef), (vs1002.getD 3 undef)] w1056) (xFill [(.slice none 0 0), (.int .u64 0)] [] fun c1058 =>
xFill (repL [(.slice none 0 0), (.int .u64 0)] 1) [(0, 2, (.agg c1058.toArray))] fun c1059 =>
XNew w1037 c1059 30 fun a1060 w1061 =>
XRun P (Builtin.append_ #[22, 22] 22 #[(vs1002.getD 2 undef), (.slice (some a1060) 1 1)]) w1061 fun v1062 w1063 =>
xLen v1062 fun v1064 =>
xSub v1064 (.int .i64 1) fun v1065 =>
XLoop [v1065] w1063 (S_ref13_Sort_l1 a0 vs1002 J1007 vs1013 v1062)))
/- S_ref13_Sort_l3: 0=slot 4 i 1=slot 5 j 2=slot 3 out 3=slot 6 k -/
def S_ref13_Sort_l3 (K : Value → World → Prop) (a0 : Value) (I1000 : Nat → List Value → World → Prop) (n1001 : Nat) (vs1002 : List Value) (g1003 : Nat → Value) (w1004 : World) : Prop :=
xLen a0 fun v1005 =>
xLt (vs1002.getD 0 undef) v1005 fun v1006 =>
xIf v1006 (/- 0 j 1 out 2 k -/ XJ (fun J1007 =>
XLoop [(.int .i64 0)] w1004 (S_ref13_Sort_l2 a0 vs1002 J1007)) fun vs1008 g1009 w1010 =>
xAdd (vs1002.getD 0 undef) (.int .i64 1) fun v1086 =>
XNext I1000 n1001 [v1086, (vs1008.getD 0 undef), (vs1008.getD 1 undef), (vs1008.getD 2 undef)] w1010) (K (vs1002.getD 2 undef) w1004)
abbrev S_ref13_Sort (a0 : Value) (K : Value → World → Prop) (w0 : World) : Prop :=
XLoop [(.int .i64 0), undef, (.slice none 0 0), undef] w0 (S_ref13_Sort_l3 K a0)
theorem W_ref13_Sort {a0 : Value} {K : Value → World → Prop} {w : World} (h : S_ref13_Sort a0 K w) : Ret P n_ref13_Sort [a0] w K :=
  vcF_of mixed Tryz.func36 (show S_ref13_Sort a0 K w = vcF P Tryz.f36 [a0] w K from by kernel_rfl) h
/- spunyarn/spunyarnref19.Same -/
/- S_ref19_Same_l1: 0=slot 5 i 1=slot 4 -/
def S_ref19_Same_l1 (K : Value → World → Prop) (a0 : Value) (a1 : Value) (I1003 : Nat → List Value → World → Prop) (n1004 : Nat) (vs1005 : List Value) (g1006 : Nat → Value) (w1007 : World) : Prop :=
xLen a0 fun v1008 =>
xLt (vs1005.getD 0 undef) v1008 fun v1009 =>
xIf v1009 (/- 0 -/ XJ (fun J1010 =>
xIxS a0 (vs1005.getD 0 undef) 2 fun v1014 =>
xFld v1014 1 fun v1015 =>
xAt v1015 fun a1016 =>
XLd w1007.drew a1016 fun v1017 =>
xIxS a1 (vs1005.getD 0 undef) 2 fun v1018 =>
xFld v1018 1 fun v1019 =>
xAt v1019 fun a1020 =>
XLd w1007.drew a1020 fun v1021 =>
xNe v1017 v1021 fun v1022 =>
xIf v1022 (J1010 [(.bool true)] (w1007.drew)) (xIxS a0 (vs1005.getD 0 undef) 2 fun v1023 =>
xFld v1023 0 fun v1024 =>
xAt v1024 fun a1025 =>
XLd w1007.drew a1025 fun v1026 =>
xIxS a1 (vs1005.getD 0 undef) 2 fun v1027 =>
xFld v1027 0 fun v1028 =>
xAt v1028 fun a1029 =>
XLd w1007.drew a1029 fun v1030 =>
Ret P n_ref01_Same [v1026, v1030] w1007.drew fun v1031 w1032 =>
xNot v1031 fun v1033 =>
J1010 [v1033] w1032)) fun vs1011 g1012 w1013 =>
xIf (vs1011.getD 0 undef) (K (.bool false) w1013) (xAdd (vs1005.getD 0 undef) (.int .i64 1) fun v1034 =>
XNext I1003 n1004 [v1034, (vs1005.getD 1 undef)] w1013)) (K (.bool true) w1007)
abbrev S_ref19_Same (a0 : Value) (a1 : Value) (K : Value → World → Prop) (w0 : World) : Prop :=
xLen a0 fun v1000 =>
xLen a1 fun v1001 =>
xNe v1000 v1001 fun v1002 =>
xIf v1002 (K (.bool false) w0) (XLoop [(.int .i64 0), (.bool false)] w0 (S_ref19_Same_l1 K a0 a1))
theorem W_ref19_Same {a0 a1 : Value} {K : Value → World → Prop} {w : World} (h : S_ref19_Same a0 a1 K w) : Ret P n_ref19_Same [a0, a1] w K :=
  vcF_of mixed Tryz.func37 (show S_ref19_Same a0 a1 K w = vcF P Tryz.f37 [a0, a1] w K from by kernel_rfl) h
/- spunyarn/keys.Cmp -/
abbrev S_keys_Cmp (a0 : Value) (a1 : Value) (K : Value → World → Prop) (w0 : World) : Prop :=
Ret P n_bytes_Compare [a0, a1] w0 fun v1000 w1001 =>
K v1000 w1001
theorem W_keys_Cmp {a0 a1 : Value} {K : Value → World → Prop} {w : World} (h : S_keys_Cmp a0 a1 K w) : Ret P n_keys_Cmp [a0, a1] w K :=
  vcF_of mixed Tryz.func41 (show S_keys_Cmp a0 a1 K w = vcF P Tryz.f41 [a0, a1] w K from by kernel_rfl) h
/- spunyarn/keys.Same -/
abbrev S_keys_Same (a0 : Value) (a1 : Value) (K : Value → World → Prop) (w0 : World) : Prop :=
Ret P n_bytes_Equal [a0, a1] w0 fun v1000 w1001 =>
K v1000 w1001
theorem W_keys_Same {a0 a1 : Value} {K : Value → World → Prop} {w : World} (h : S_keys_Same a0 a1 K w) : Ret P n_keys_Same [a0, a1] w K :=
  vcF_of mixed Tryz.func42 (show S_keys_Same a0 a1 K w = vcF P Tryz.f42 [a0, a1] w K from by kernel_rfl) h
/- bytes.Clone -/
abbrev S_bytes_Clone (a0 : Value) (K : Value → World → Prop) (w0 : World) : Prop :=
xLEq a0 (.slice none 0 0) fun v1000 =>
xIf v1000 (K (.slice none 0 0) w0) (xFill (repL [(.int .u8 0)] 0) [] fun c1001 =>
XNew w0 c1001 5 fun a1002 w1003 =>
XRun P (Builtin.append_ #[27, 27] 27 #[(.slice (some a1002) 0 0), a0]) w1003 fun v1004 w1005 =>
K v1004 w1005)
theorem W_bytes_Clone {a0 : Value} {K : Value → World → Prop} {w : World} (h : S_bytes_Clone a0 K w) : Ret P n_bytes_Clone [a0] w K :=
  vcF_of mixed Tryz.func43 (show S_bytes_Clone a0 K w = vcF P Tryz.f43 [a0] w K from by kernel_rfl) h
/- spunyarn/canon.List -/
abbrev S_canon_List (a0 : Value) (K : Value → World → Prop) (w0 : World) : Prop :=
XNew w0 [(.slice none 0 0)] 26 fun a1000 w1001 =>
Ret P n_canon_each [a0, (.func (.func 78) #[] #[(.pointer (some a1000))])] w1001 fun v1002 w1003 =>
XLd w1003 a1000 fun v1004 =>
K v1004 w1003
theorem W_canon_List {a0 : Value} {K : Value → World → Prop} {w : World} (h : S_canon_List a0 K w) : Ret P n_canon_List [a0] w K :=
  vcF_of mixed Tryz.func44 (show S_canon_List a0 K w = vcF P Tryz.f44 [a0] w K from by kernel_rfl) h
/- spunyarn/spunyarnref01.Text -/
/- S_ref01_Text_l1: 0=slot 4 i 1=slot 3 s -/
def S_ref01_Text_l1 (K : Value → World → Prop) (a0 : Value) (I1000 : Nat → List Value → World → Prop) (n1001 : Nat) (vs1002 : List Value) (g1003 : Nat → Value) (w1004 : World) : Prop :=
xLen a0 fun v1005 =>
xLt (vs1002.getD 0 undef) v1005 fun v1006 =>
xIf v1006 (xIxS a0 (vs1002.getD 0 undef) 1 fun v1007 =>
xAt v1007 fun a1008 =>
XLd w1004 a1008 fun v1009 =>
Ret P n_ref01_digits [v1009] w1004 fun v1010 w1011 =>
xSCat (vs1002.getD 1 undef) v1010 fun v1012 =>
xAdd (vs1002.getD 0 undef) (.int .i64 1) fun v1013 =>
XNext I1000 n1001 [v1013, v1012] w1011) (K (vs1002.getD 1 undef) w1004)
abbrev S_ref01_Text (a0 : Value) (K : Value → World → Prop) (w0 : World) : Prop :=
XLoop [(.int .i64 0), (.string ⟨#[]⟩)] w0 (S_ref01_Text_l1 K a0)
theorem W_ref01_Text {a0 : Value} {K : Value → World → Prop} {w : World} (h : S_ref01_Text a0 K w) : Ret P n_ref01_Text [a0] w K :=
  vcF_of mixed Tryz.func45 (show S_ref01_Text a0 K w = vcF P Tryz.f45 [a0] w K from by kernel_rfl) h
/- spunyarn/spunyarnref13.Digits -/
/- S_ref13_Digits_l1: 0=slot 0 n 1=slot 4 d 2=slot 3 s 3=slot 2 -/
def S_ref13_Digits_l1 (K : Value → World → Prop) (I1000 : Nat → List Value → World → Prop) (n1001 : Nat) (vs1002 : List Value) (g1003 : Nat → Value) (w1004 : World) : Prop :=
xRem (vs1002.getD 0 undef) (.int .u64 10) fun v1005 =>
xConv .i64 v1005 fun v1006 =>
xAdd v1006 (.int .i64 1) fun v1007 =>
xCutStr (.string ⟨#[48, 49, 50, 51, 52, 53, 54, 55, 56, 57]⟩) (some v1006) (some v1007) fun v1008 =>
xSCat v1008 (vs1002.getD 2 undef) fun v1009 =>
xQuo (vs1002.getD 0 undef) (.int .u64 10) fun v1010 =>
xEq v1010 (.int .u64 0) fun v1011 =>
xIf v1011 (K v1009 w1004) (XNext I1000 n1001 [v1010, v1006, v1009, (vs1002.getD 3 undef)] w1004)
abbrev S_ref13_Digits (a0 : Value) (K : Value → World → Prop) (w0 : World) : Prop :=
XLoop [a0, undef, (.string ⟨#[]⟩), (.string ⟨#[]⟩)] w0 (S_ref13_Digits_l1 K)
theorem W_ref13_Digits {a0 : Value} {K : Value → World → Prop} {w : World} (h : S_ref13_Digits a0 K w) : Ret P n_ref13_Digits [a0] w K :=
  vcF_of mixed Tryz.func46 (show S_ref13_Digits a0 K w = vcF P Tryz.f46 [a0] w K from by kernel_rfl) h
/- spunyarn/spunyarnref13.build -/
/- S_ref13_build_l1: 0=slot 8 j -/
def S_ref13_build_l1 (a0 : Value) (v1021 : Value) (a1029 : Addr) (I1048 : Nat → List Value → World → Prop) (n1049 : Nat) (vs1050 : List Value) (I1055 : Nat → List Value → World → Prop) (n1056 : Nat) (vs1057 : List Value) (g1058 : Nat → Value) (w1059 : World) : Prop :=
/- 0 -/ XJ (fun J1060 =>
xLen a0 fun v1064 =>
xLt (vs1057.getD 0 undef) v1064 fun v1065 =>
xIf v1065 (xIxS a0 (vs1057.getD 0 undef) 2 fun v1066 =>
xFld v1066 0 fun v1067 =>
xAt v1067 fun a1068 =>
XLd w1059.drew a1068 fun v1069 =>
xIxS v1069 v1021 1 fun v1070 =>
xAt v1070 fun a1071 =>
XLd w1059.drew a1071 fun v1072 =>
xIxS a0 (vs1050.getD 0 undef) 2 fun v1073 =>
xFld v1073 0 fun v1074 =>
xAt v1074 fun a1075 =>
XLd w1059.drew a1075 fun v1076 =>
xIxS v1076 v1021 1 fun v1077 =>
xAt v1077 fun a1078 =>
XLd w1059.drew a1078 fun v1079 =>
xEq v1072 v1079 fun v1080 =>
J1060 [v1080] (w1059.drew)) (J1060 [(.bool false)] (w1059.drew))) fun vs1061 g1062 w1063 =>
xIf (vs1061.getD 0 undef) (xAdd (vs1057.getD 0 undef) (.int .i64 1) fun v1081 =>
XNext I1055 n1056 [v1081] w1063) (XLd w1063.drew (a1029.add 4) fun v1082 =>
xIxS a0 (vs1050.getD 0 undef) 2 fun v1083 =>
xFld v1083 0 fun v1084 =>
xAt v1084 fun a1085 =>
XLd w1063.drew a1085 fun v1086 =>
xIxS v1086 v1021 1 fun v1087 =>
xAt v1087 fun a1088 =>
XLd w1063.drew a1088 fun v1089 =>
xFill (repL [(.int .u8 0)] 1) [(0, 1, v1089)] fun c1090 =>
XNew w1063.drew c1090 5 fun a1091 w1092 =>
xKeep1 w1092 (.pointer (some (a1029.add 4))) v1082 ∧ (XRun P (Builtin.append_ #[27, 27] 27 #[v1082, (.slice (some a1091) 1 1)]) w1092 fun v1093 w1094 =>
XSt w1094 (a1029.add 4) v1093 fun w1095 =>
XLd w1095.drew (a1029.add 5) fun v1096 =>
xCutS 2 a0 (some (vs1050.getD 0 undef)) (some (vs1057.getD 0 undef)) none fun v1097 =>
xAdd v1021 (.int .i64 1) fun v1098 =>
Ret P n_ref13_build [v1097, v1098] w1095.drew fun v1099 w1100 =>
xKeep1 w1100 (.pointer (some (a1029.add 5))) v1096 ∧ (xFill (repL [(.int .i64 0), (.slice none 0 0), (.bool false), (.int .u64 0), (.slice none 0 0), (.slice none 0 0)] 1) [(0, 6, v1099)] fun c1101 =>
XNew w1100 c1101 51 fun a1102 w1103 =>
xKeep1 w1103 (.pointer (some (a1029.add 5))) v1096 ∧ (XRun P (Builtin.append_ #[49, 49] 49 #[v1096, (.slice (some a1102) 1 1)]) w1103 fun v1104 w1105 =>
XSt w1105 (a1029.add 5) v1104 fun w1106 =>
XNext I1048 n1049 [(vs1057.getD 0 undef), (vs1057.getD 0 undef)] w1106))))
/- S_ref13_build_l2: 0=slot 7 i 1=slot 8 j -/
def S_ref13_build_l2 (K : Value → World → Prop) (a0 : Value) (a1000 : Addr) (v1021 : Value) (a1029 : Addr) (I1048 : Nat → List Value → World → Prop) (n1049 : Nat) (vs1050 : List Value) (g1051 : Nat → Value) (w1052 : World) : Prop :=
xLen a0 fun v1053 =>
xLt (vs1050.getD 0 undef) v1053 fun v1054 =>
xIf v1054 (XLoop [(vs1050.getD 0 undef)] w1052 (S_ref13_build_l1 a0 v1021 a1029 I1048 n1049 vs1050)) (XLd w1052 (a1029.add 5) fun v1107 =>
xLen v1107 fun v1108 =>
Ret P n_ref11_KindOf [v1108] w1052 fun v1109 w1110 =>
XSt w1110 (a1029.add 0) v1109 fun w1111 =>
XLdN w1111 a1029 6 fun v1112 =>
XDo P (storeVar 51 a1000 v1112) w1111 fun w1113 =>
XLdN w1113 a1000 6 fun v1114 =>
K v1114 w1113)
abbrev S_ref13_build (a0 : Value) (a1 : Value) (K : Value → World → Prop) (w0 : World) : Prop :=
XNew w0 [(.int .i64 0), (.slice none 0 0), (.bool false), (.int .u64 0), (.slice none 0 0), (.slice none 0 0)] 51 fun a1000 w1001 =>
xLen a0 fun v1002 =>
xEq v1002 (.int .i64 0) fun v1003 =>
xIf v1003 (xFill [(.int .i64 0), (.slice none 0 0), (.bool false), (.int .u64 0), (.slice none 0 0), (.slice none 0 0)] [] fun c1004 =>
XDo P (storeVar 51 a1000 (.agg c1004.toArray)) w1001 fun w1005 =>
XLdN w1005 a1000 6 fun v1006 =>
K v1006 w1005) (xLen a0 fun v1007 =>
xEq v1007 (.int .i64 1) fun v1008 =>
xIf v1008 (xIxS a0 (.int .i64 0) 2 fun v1009 =>
xFld v1009 0 fun v1010 =>
xAt v1010 fun a1011 =>
XLd w1001.drew a1011 fun v1012 =>
xCutS 1 v1012 (some a1) none none fun v1013 =>
xIxS a0 (.int .i64 0) 2 fun v1014 =>
xFld v1014 1 fun v1015 =>
xAt v1015 fun a1016 =>
XLd w1001.drew a1016 fun v1017 =>
xFill [(.int .i64 0), (.slice none 0 0), (.bool false), (.int .u64 0), (.slice none 0 0), (.slice none 0 0)] [(0, 1, (.int .i64 1)), (1, 1, v1013), (2, 1, (.bool true)), (3, 1, v1017)] fun c1018 =>
XDo P (storeVar 51 a1000 (.agg c1018.toArray)) w1001.drew fun w1019 =>
XLdN w1019 a1000 6 fun v1020 =>
K v1020 w1019) (Ret P n_ref13_shared [a0] w1001 fun v1021 w1022 =>
xIxS a0 (.int .i64 0) 2 fun v1023 =>
xFld v1023 0 fun v1024 =>
xAt v1024 fun a1025 =>
XLd w1022 a1025 fun v1026 =>
xCutS 1 v1026 (some a1) (some v1021) none fun v1027 =>
xFill [(.int .i64 0), (.slice none 0 0), (.bool false), (.int .u64 0), (.slice none 0 0), (.slice none 0 0)] [(1, 1, v1027)] fun c1028 =>
XNew w1022 [(.int .i64 0), (.slice none 0 0), (.bool false), (.int .u64 0), (.slice none 0 0), (.slice none 0 0)] 51 fun a1029 w1030 =>
XDo P (storeVar 51 a1029 (.agg c1028.toArray)) w1030 fun w1031 =>
/- 0 i -/ XJ (fun J1032 =>
xIxS a0 (.int .i64 0) 2 fun v1036 =>
xFld v1036 0 fun v1037 =>
xAt v1037 fun a1038 =>
XLd w1031 a1038 fun v1039 =>
xLen v1039 fun v1040 =>
xEq v1040 v1021 fun v1041 =>
xIf v1041 (xIxS a0 (.int .i64 0) 2 fun v1042 =>
xFld v1042 1 fun v1043 =>
xAt v1043 fun a1044 =>
XLd w1031.drew a1044 fun v1045 =>
XSt w1031.drew (a1029.add 2) (.bool true) fun w1046 =>
xKeep1 w1046 v1043 v1045 ∧ (XSt w1046 (a1029.add 3) v1045 fun w1047 =>
J1032 [(.int .i64 1)] w1047)) (J1032 [(.int .i64 0)] w1031)) fun vs1033 g1034 w1035 =>
XLoop [(vs1033.getD 0 undef), undef] w1035 (S_ref13_build_l2 K a0 a1000 v1021 a1029)))
theorem W_ref13_build {a0 a1 : Value} {K : Value → World → Prop} {w : World} (h : S_ref13_build a0 a1 K w) : Ret P n_ref13_build [a0, a1] w K :=
  vcF_of mixed Tryz.func47 (show S_ref13_build a0 a1 K w = vcF P Tryz.f47 [a0, a1] w K from by kernel_rfl) h
/- spunyarn/canon.Build -/
abbrev S_canon_Build (a0 : Value) (a1 : Value) (a2 : Value) (K : Value → World → Prop) (w0 : World) : Prop :=
Ret P n_canon_check [a2] w0 fun v1000 w1001 =>
xNe v1000 (.int .i64 0) fun v1002 =>
xIf v1002 (K (.tuple #[(.pointer none), v1000]) w1001) (xFill [(.pointer none), (.int .u64 0)] [(0, 1, a0), (1, 1, a1)] fun c1003 =>
Ret P n_canon_maker_tree [(.agg c1003.toArray), a2, (.int .i64 0)] w1001 fun v1004 w1005 =>
K (.tuple #[v1004, (.int .i64 0)]) w1005)
theorem W_canon_Build {a0 a1 a2 : Value} {K : Value → World → Prop} {w : World} (h : S_canon_Build a0 a1 a2 K w) : Ret P n_canon_Build [a0, a1, a2] w K :=
  vcF_of mixed Tryz.func48 (show S_canon_Build a0 a1 a2 K w = vcF P Tryz.f48 [a0, a1, a2] w K from by kernel_rfl) h
/- spunyarn/put.Put -/
abbrev S_put_Put (a0 : Value) (a1 : Value) (a2 : Value) (a3 : Value) (a4 : Value) (K : Value → World → Prop) (w0 : World) : Prop :=
xEq a3 (.int .u64 0) fun v1000 =>
xIf v1000 (K (.tuple #[(.pointer none), (.int .i64 1)]) w0) (Ret P n_keys_May [a1] w0 fun v1001 w1002 =>
xNe v1001 (.int .i64 0) fun v1003 =>
xIf v1003 (K (.tuple #[(.pointer none), v1001]) w1002) (Ret P n_find_Get [a0, a1] w1002 fun v1004 w1005 =>
xTup v1004 0 fun v1006 =>
xTup v1004 1 fun v1007 =>
/- 0 -/ XJ (fun J1008 =>
xIf v1007 (xEq v1006 a2 fun v1012 =>
J1008 [v1012] w1005) (J1008 [(.bool false)] w1005)) fun vs1009 g1010 w1011 =>
xIf (vs1009.getD 0 undef) (K (.tuple #[a0, (.int .i64 0)]) w1011) (xFill [(.int .u64 0), (.int .u64 0), (.pointer none)] [(0, 1, a2), (1, 1, a3), (2, 1, a4)] fun c1013 =>
Ret P n_put_putter_into [(.agg c1013.toArray), a0, a1] w1011 fun v1014 w1015 =>
K (.tuple #[v1014, (.int .i64 0)]) w1015)))
theorem W_put_Put {a0 a1 a2 a3 a4 : Value} {K : Value → World → Prop} {w : World} (h : S_put_Put a0 a1 a2 a3 a4 K w) : Ret P n_put_Put [a0, a1, a2, a3, a4] w K :=
  vcF_of mixed Tryz.func56 (show S_put_Put a0 a1 a2 a3 a4 K w = vcF P Tryz.f56 [a0, a1, a2, a3, a4] w K from by kernel_rfl) h
/- spunyarn/spunyarnref15.Put -/
abbrev S_ref15_Put (a0 : Value) (a1 : Value) (a2 : Value) (K : Value → World → Prop) (w0 : World) : Prop :=
XRun P (Builtin.append_ #[22, 22] 22 #[(.slice none 0 0), a0]) w0 fun v1000 w1001 =>
xFill [(.slice none 0 0), (.int .u64 0)] [(0, 1, a1), (1, 1, a2)] fun c1002 =>
xFill (repL [(.slice none 0 0), (.int .u64 0)] 1) [(0, 2, (.agg c1002.toArray))] fun c1003 =>
XNew w1001 c1003 30 fun a1004 w1005 =>
XRun P (Builtin.append_ #[22, 22] 22 #[v1000, (.slice (some a1004) 1 1)]) w1005 fun v1006 w1007 =>
Ret P n_ref13_Sort [v1006] w1007 fun v1008 w1009 =>
K v1008 w1009
theorem W_ref15_Put {a0 a1 a2 : Value} {K : Value → World → Prop} {w : World} (h : S_ref15_Put a0 a1 a2 K w) : Ret P n_ref15_Put [a0, a1, a2] w K :=
  vcF_of mixed Tryz.func62 (show S_ref15_Put a0 a1 a2 K w = vcF P Tryz.f62 [a0, a1, a2] w K from by kernel_rfl) h
/- spunyarn/spunyarnref14.Get -/
/- S_ref14_Get_l1: 0=slot 6 i 1=slot 4 2=slot 5 -/
def S_ref14_Get_l1 (K : Value → World → Prop) (a0 : Value) (a1 : Value) (I1000 : Nat → List Value → World → Prop) (n1001 : Nat) (vs1002 : List Value) (g1003 : Nat → Value) (w1004 : World) : Prop :=
xLen a0 fun v1005 =>
xLt (vs1002.getD 0 undef) v1005 fun v1006 =>
xIf v1006 (xIxS a0 (vs1002.getD 0 undef) 2 fun v1007 =>
xFld v1007 0 fun v1008 =>
xAt v1008 fun a1009 =>
XLd w1004 a1009 fun v1010 =>
Ret P n_ref01_Same [v1010, a1] w1004 fun v1011 w1012 =>
xIf v1011 (xIxS a0 (vs1002.getD 0 undef) 2 fun v1013 =>
xFld v1013 1 fun v1014 =>
xAt v1014 fun a1015 =>
XLd w1012 a1015 fun v1016 =>
K (.tuple #[v1016, (.bool true)]) w1012) (xAdd (vs1002.getD 0 undef) (.int .i64 1) fun v1017 =>
XNext I1000 n1001 [v1017, (vs1002.getD 1 undef), (vs1002.getD 2 undef)] w1012)) (K (.tuple #[(.int .u64 0), (.bool false)]) w1004)
abbrev S_ref14_Get (a0 : Value) (a1 : Value) (K : Value → World → Prop) (w0 : World) : Prop :=
XLoop [(.int .i64 0), (.int .u64 0), (.bool false)] w0 (S_ref14_Get_l1 K a0 a1)
theorem W_ref14_Get {a0 a1 : Value} {K : Value → World → Prop} {w : World} (h : S_ref14_Get a0 a1 K w) : Ret P n_ref14_Get [a0, a1] w K :=
  vcF_of mixed Tryz.func66 (show S_ref14_Get a0 a1 K w = vcF P Tryz.f66 [a0, a1] w K from by kernel_rfl) h
/- spunyarn/spunyarnref01.Common -/
/- S_ref01_Common_l1: 0=slot 5 n -/
def S_ref01_Common_l1 (K : Value → World → Prop) (a0 : Value) (a1 : Value) (I1000 : Nat → List Value → World → Prop) (n1001 : Nat) (vs1002 : List Value) (g1003 : Nat → Value) (w1004 : World) : Prop :=
/- 0 -/ XJ (fun J1005 =>
xLen a0 fun v1009 =>
xLt (vs1002.getD 0 undef) v1009 fun v1010 =>
xIf v1010 (xLen a1 fun v1011 =>
xLt (vs1002.getD 0 undef) v1011 fun v1012 =>
xIf v1012 (xIxS a0 (vs1002.getD 0 undef) 1 fun v1013 =>
xAt v1013 fun a1014 =>
XLd w1004.drew a1014 fun v1015 =>
xIxS a1 (vs1002.getD 0 undef) 1 fun v1016 =>
xAt v1016 fun a1017 =>
XLd w1004.drew a1017 fun v1018 =>
xEq v1015 v1018 fun v1019 =>
J1005 [v1019] (w1004.drew)) (J1005 [(.bool false)] (w1004.drew))) (J1005 [(.bool false)] (w1004.drew))) fun vs1006 g1007 w1008 =>
xIf (vs1006.getD 0 undef) (xAdd (vs1002.getD 0 undef) (.int .i64 1) fun v1020 =>
XNext I1000 n1001 [v1020] w1008) (K (vs1002.getD 0 undef) w1008)
abbrev S_ref01_Common (a0 : Value) (a1 : Value) (K : Value → World → Prop) (w0 : World) : Prop :=
XLoop [(.int .i64 0)] w0 (S_ref01_Common_l1 K a0 a1)
theorem W_ref01_Common {a0 a1 : Value} {K : Value → World → Prop} {w : World} (h : S_ref01_Common a0 a1 K w) : Ret P n_ref01_Common [a0, a1] w K :=
  vcF_of mixed Tryz.func67 (show S_ref01_Common a0 a1 K w = vcF P Tryz.f67 [a0, a1] w K from by kernel_rfl) h
/- spunyarn/canon.shape -/
/- S_canon_shape_l1: 0=slot 7 k 1=slot 6 b -/
def S_canon_shape_l1 (K : Value → World → Prop) (a0 : Value) (a1 : Value) (I1045 : Nat → List Value → World → Prop) (n1046 : Nat) (vs1047 : List Value) (g1048 : Nat → Value) (w1049 : World) : Prop :=
xPNe P w1049 (vs1047.getD 0 undef) (.pointer none) fun v1050 =>
xIf v1050 (xFill (repL [(.int .u8 0)] 1) [(0, 1, (vs1047.getD 1 undef))] fun c1051 =>
XNew w1049 c1051 5 fun a1052 w1053 =>
Ret P n_keys_Text [(.slice (some a1052) 1 1)] w1053 fun v1054 w1055 =>
xSCat (.string ⟨#[58]⟩) v1054 fun v1056 =>
Ret P n_strings_Builder_WriteString [a0, v1056] w1055 fun v1057 w1058 =>
Ret P n_canon_shape [a0, (vs1047.getD 0 undef)] w1058 fun v1059 w1060 =>
xConv .i64 (vs1047.getD 1 undef) fun v1061 =>
xAdd v1061 (.int .i64 1) fun v1062 =>
Ret P n_node_Node_Next [a1, v1062] w1060 fun v1063 w1064 =>
xTup v1063 0 fun v1065 =>
xTup v1063 1 fun v1066 =>
XNext I1045 n1046 [v1066, v1065] w1064) (Ret P n_strings_Builder_WriteString [a0, (.string ⟨#[62]⟩)] w1049 fun v1067 w1068 =>
K (.tuple #[]) w1068)
abbrev S_canon_shape (a0 : Value) (a1 : Value) (K : Value → World → Prop) (w0 : World) : Prop :=
xPEq P w0 a1 (.pointer none) fun v1000 =>
xIf v1000 (Ret P n_strings_Builder_WriteString [a0, (.string ⟨#[46]⟩)] w0 fun v1001 w1002 =>
K (.tuple #[]) w1002) (Ret P n_node_Node_Val [a1] w0 fun v1003 w1004 =>
xTup v1003 0 fun v1005 =>
xTup v1003 1 fun v1006 =>
/-  -/ XJ (fun J1007 =>
Ret P n_node_Node_Kind [a1] w1004 fun v1011 w1012 =>
xEq v1011 (.int .i64 1) fun v1013 =>
xIf v1013 (Ret P n_strings_Builder_WriteString [a0, (.string ⟨#[76]⟩)] w1012 fun v1014 w1015 =>
J1007 [] w1015) (Ret P n_node_Node_Kind [a1] w1012 fun v1016 w1017 =>
Ret P n_strconv_Itoa [v1016] w1017 fun v1018 w1019 =>
xSCat v1018 (.string ⟨#[60]⟩) fun v1020 =>
Ret P n_strings_Builder_WriteString [a0, v1020] w1019 fun v1021 w1022 =>
J1007 [] w1022)) fun vs1008 g1009 w1010 =>
Ret P n_node_Node_Part [a1] w1010 fun v1023 w1024 =>
Ret P n_keys_Text [v1023] w1024 fun v1025 w1026 =>
Ret P n_strings_Builder_WriteString [a0, v1025] w1026 fun v1027 w1028 =>
/-  -/ XJ (fun J1029 =>
xIf v1006 (Ret P n_strconv_FormatUint [v1005, (.int .i64 10)] w1028 fun v1033 w1034 =>
xSCat (.string ⟨#[61]⟩) v1033 fun v1035 =>
Ret P n_strings_Builder_WriteString [a0, v1035] w1034 fun v1036 w1037 =>
J1029 [] w1037) (J1029 [] w1028)) fun vs1030 g1031 w1032 =>
Ret P n_node_Node_Kind [a1] w1032 fun v1038 w1039 =>
xEq v1038 (.int .i64 1) fun v1040 =>
xIf v1040 (K (.tuple #[]) w1039) (Ret P n_node_Node_Next [a1, (.int .i64 0)] w1039 fun v1041 w1042 =>
xTup v1041 0 fun v1043 =>
xTup v1041 1 fun v1044 =>
XLoop [v1044, v1043] w1042 (S_canon_shape_l1 K a0 a1)))
theorem W_canon_shape {a0 a1 : Value} {K : Value → World → Prop} {w : World} (h : S_canon_shape a0 a1 K w) : Ret P n_canon_shape [a0, a1] w K :=
  vcF_of mixed Tryz.func68 (show S_canon_shape a0 a1 K w = vcF P Tryz.f68 [a0, a1] w K from by kernel_rfl) h
/- (*strings.Builder).String -/
abbrev S_strings_Builder_String (a0 : Value) (K : Value → World → Prop) (w0 : World) : Prop :=
xAt a0 fun a1000 =>
XLd w0.drew (a1000.add 1) fun v1001 =>
xAt a0 fun a1002 =>
XLd w0.drew (a1002.add 1) fun v1003 =>
xLen v1003 fun v1004 =>
XRun P (Builtin.unsafeSliceData_ #[27] 185 #[v1001]) w0.drew fun v1005 w1006 =>
xKeep1 w1006 (.pointer (some (a1002.add 1))) v1003 ∧ (XRun P (Builtin.unsafeString_ #[185, 3] 9 #[v1005, v1004]) w1006 fun v1007 w1008 =>
K v1007 w1008)
theorem W_strings_Builder_String {a0 : Value} {K : Value → World → Prop} {w : World} (h : S_strings_Builder_String a0 K w) : Ret P n_strings_Builder_String [a0] w K :=
  vcF_of mixed Tryz.func69 (show S_strings_Builder_String a0 K w = vcF P Tryz.f69 [a0] w K from by kernel_rfl) h
/- spunyarn/canon.each -/
abbrev S_canon_each (a0 : Value) (a1 : Value) (K : Value → World → Prop) (w0 : World) : Prop :=
XNew w0 (cellsV a1) 147 fun a1000 w1001 =>
XNew w1001 [.nilFunc] 147 fun a1002 w1003 =>
XSt w1003 a1002 (.func (.func 107) #[] #[(.pointer (some a1000)), (.pointer (some a1002))]) fun w1004 =>
XLd w1004 a1002 fun v1005 =>
xFunc v1005 [(.slice none 0 0), a0] fun f1006 xs1007 =>
xCall P f1006 xs1007 w1004 fun v1008 w1009 =>
K (.tuple #[]) w1009
theorem W_canon_each {a0 a1 : Value} {K : Value → World → Prop} {w : World} (h : S_canon_each a0 a1 K w) : Ret P n_canon_each [a0, a1] w K :=
  vcF_of mixed Tryz.func72 (show S_canon_each a0 a1 K w = vcF P Tryz.f72 [a0, a1] w K from by kernel_rfl) h
/- spunyarn/canon.Count$1 -/
abbrev S_canon_Count_1 (a0 : Value) (a1 : Value) (a2 : Value) (K : Value → World → Prop) (w0 : World) : Prop :=
Ret P n_node_Node_Val [a1] w0 fun v1000 w1001 =>
xTup v1000 0 fun v1002 =>
xTup v1000 1 fun v1003 =>
xIf v1003 (xAt a2 fun a1004 =>
XLd w1001 a1004 fun v1005 =>
xAdd v1005 (.int .i64 1) fun v1006 =>
xAt a2 fun a1008 =>
XSt w1001 a1008 v1006 fun w1007 =>
K (.tuple #[]) w1007) (K (.tuple #[]) w1001)
theorem W_canon_Count_1 {a0 a1 a2 : Value} {K : Value → World → Prop} {w : World} (h : S_canon_Count_1 a0 a1 a2 K w) : Ret P n_canon_Count_1 [a0, a1, a2] w K :=
  vcF_of mixed Tryz.func73 (show S_canon_Count_1 a0 a1 a2 K w = vcF P Tryz.f73 [a0, a1, a2] w K from by kernel_rfl) h
/- (*spunyarn/node.Node).Val -/
abbrev S_node_Node_Val (a0 : Value) (K : Value → World → Prop) (w0 : World) : Prop :=
/- 0 -/ XJ (fun J1000 =>
xPEq P w0 a0 (.pointer none) fun v1004 =>
xIf v1004 (J1000 [(.bool true)] w0) (xAt a0 fun a1005 =>
XLd w0 (a1005.add 3) fun v1006 =>
xNot v1006 fun v1007 =>
J1000 [v1007] w0)) fun vs1001 g1002 w1003 =>
xIf (vs1001.getD 0 undef) (K (.tuple #[(.int .u64 0), (.bool false)]) w1003) (xAt a0 fun a1008 =>
XLd w1003 (a1008.add 2) fun v1009 =>
K (.tuple #[v1009, (.bool true)]) w1003)
theorem W_node_Node_Val {a0 : Value} {K : Value → World → Prop} {w : World} (h : S_node_Node_Val a0 K w) : Ret P n_node_Node_Val [a0] w K :=
  vcF_of mixed Tryz.func74 (show S_node_Node_Val a0 K w = vcF P Tryz.f74 [a0] w K from by kernel_rfl) h
/- bytes.Compare -/
abbrev S_bytes_Compare (a0 : Value) (a1 : Value) (K : Value → World → Prop) (w0 : World) : Prop :=
xCall P 110 [a0, a1] w0 fun v1000 w1001 =>
K v1000 w1001
theorem W_bytes_Compare {a0 a1 : Value} {K : Value → World → Prop} {w : World} (h : S_bytes_Compare a0 a1 K w) : Ret P n_bytes_Compare [a0, a1] w K :=
  vcF_of mixed Tryz.func76 (show S_bytes_Compare a0 a1 K w = vcF P Tryz.f76 [a0, a1] w K from by kernel_rfl) h
/- bytes.Equal -/
abbrev S_bytes_Equal (a0 : Value) (a1 : Value) (K : Value → World → Prop) (w0 : World) : Prop :=
XRun P (convert 27 9 a0) w0 fun v1000 w1001 =>
XRun P (convert 27 9 a1) w1001 fun v1002 w1003 =>
xSEq v1000 v1002 fun v1004 =>
K v1004 w1003
theorem W_bytes_Equal {a0 a1 : Value} {K : Value → World → Prop} {w : World} (h : S_bytes_Equal a0 a1 K w) : Ret P n_bytes_Equal [a0, a1] w K :=
  vcF_of mixed Tryz.func77 (show S_bytes_Equal a0 a1 K w = vcF P Tryz.f77 [a0, a1] w K from by kernel_rfl) h
/- spunyarn/canon.List$1 -/
abbrev S_canon_List_1 (a0 : Value) (a1 : Value) (a2 : Value) (K : Value → World → Prop) (w0 : World) : Prop :=
Ret P n_node_Node_Val [a1] w0 fun v1000 w1001 =>
xTup v1000 0 fun v1002 =>
xTup v1000 1 fun v1003 =>
xIf v1003 (xAt a2 fun a1004 =>
XLd w1001.drew a1004 fun v1005 =>
Ret P n_bytes_Clone [a0] w1001.drew fun v1006 w1007 =>
xKeep1 w1007 a2 v1005 ∧ (xFill [(.slice none 0 0), (.int .u64 0)] [(0, 1, v1006), (1, 1, v1002)] fun c1008 =>
xFill (repL [(.slice none 0 0), (.int .u64 0)] 1) [(0, 2, (.agg c1008.toArray))] fun c1009 =>
XNew w1007 c1009 32 fun a1010 w1011 =>
xKeep1 w1011 a2 v1005 ∧ (XRun P (Builtin.append_ #[26, 26] 26 #[v1005, (.slice (some a1010) 1 1)]) w1011 fun v1012 w1013 =>
xAt a2 fun a1015 =>
XSt w1013 a1015 v1012 fun w1014 =>
K (.tuple #[]) w1014))) (K (.tuple #[]) w1001)
theorem W_canon_List_1 {a0 a1 a2 : Value} {K : Value → World → Prop} {w : World} (h : S_canon_List_1 a0 a1 a2 K w) : Ret P n_canon_List_1 [a0, a1, a2] w K :=
  vcF_of mixed Tryz.func78 (show S_canon_List_1 a0 a1 a2 K w = vcF P Tryz.f78 [a0, a1, a2] w K from by kernel_rfl) h
/- spunyarn/spunyarnref01.digits -/
abbrev S_ref01_digits (a0 : Value) (K : Value → World → Prop) (w0 : World) : Prop :=
xConv .i64 a0 fun v1000 =>
xQuo v1000 (.int .i64 16) fun v1001 =>
xConv .i64 a0 fun v1002 =>
xRem v1002 (.int .i64 16) fun v1003 =>
xAdd v1001 (.int .i64 1) fun v1004 =>
xCutStr (.string ⟨#[48, 49, 50, 51, 52, 53, 54, 55, 56, 57, 97, 98, 99, 100, 101, 102]⟩) (some v1001) (some v1004) fun v1005 =>
xAdd v1003 (.int .i64 1) fun v1006 =>
xCutStr (.string ⟨#[48, 49, 50, 51, 52, 53, 54, 55, 56, 57, 97, 98, 99, 100, 101, 102]⟩) (some v1003) (some v1006) fun v1007 =>
xSCat v1005 v1007 fun v1008 =>
K v1008 (w0.drew)
theorem W_ref01_digits {a0 : Value} {K : Value → World → Prop} {w : World} (h : S_ref01_digits a0 K w) : Ret P n_ref01_digits [a0] w K :=
  vcF_of mixed Tryz.func79 (show S_ref01_digits a0 K w = vcF P Tryz.f79 [a0] w K from by kernel_rfl) h
/- spunyarn/spunyarnref13.shared -/
/- S_ref13_shared_l1: 0=slot 4 i 1=slot 3 n -/
def S_ref13_shared_l1 (K : Value → World → Prop) (a0 : Value) (I1005 : Nat → List Value → World → Prop) (n1006 : Nat) (vs1007 : List Value) (g1008 : Nat → Value) (w1009 : World) : Prop :=
xLen a0 fun v1010 =>
xLt (vs1007.getD 0 undef) v1010 fun v1011 =>
xIf v1011 (xIxS a0 (.int .i64 0) 2 fun v1012 =>
xFld v1012 0 fun v1013 =>
xAt v1013 fun a1014 =>
XLd w1009.drew a1014 fun v1015 =>
xIxS a0 (vs1007.getD 0 undef) 2 fun v1016 =>
xFld v1016 0 fun v1017 =>
xAt v1017 fun a1018 =>
XLd w1009.drew a1018 fun v1019 =>
Ret P n_ref01_Common [v1015, v1019] w1009.drew fun v1020 w1021 =>
xMin (vs1007.getD 1 undef) v1020 fun v1022 =>
xAdd (vs1007.getD 0 undef) (.int .i64 1) fun v1023 =>
XNext I1005 n1006 [v1023, v1022] w1021) (K (vs1007.getD 1 undef) w1009)
abbrev S_ref13_shared (a0 : Value) (K : Value → World → Prop) (w0 : World) : Prop :=
xIxS a0 (.int .i64 0) 2 fun v1000 =>
xFld v1000 0 fun v1001 =>
xAt v1001 fun a1002 =>
XLd w0 a1002 fun v1003 =>
xLen v1003 fun v1004 =>
XLoop [(.int .i64 1), v1004] w0 (S_ref13_shared_l1 K a0)
theorem W_ref13_shared {a0 : Value} {K : Value → World → Prop} {w : World} (h : S_ref13_shared a0 K w) : Ret P n_ref13_shared [a0] w K :=
  vcF_of mixed Tryz.func80 (show S_ref13_shared a0 K w = vcF P Tryz.f80 [a0] w K from by kernel_rfl) h
/- spunyarn/spunyarnref11.KindOf -/
abbrev S_ref11_KindOf (a0 : Value) (K : Value → World → Prop) (w0 : World) : Prop :=
/- 0 -/ XJ (fun J1000 =>
xLt a0 (.int .i64 0) fun v1004 =>
xIf v1004 (J1000 [(.bool true)] w0) (xGt a0 (.int .i64 256) fun v1005 =>
J1000 [v1005] w0)) fun vs1001 g1002 w1003 =>
xIf (vs1001.getD 0 undef) (K (.int .i64 0) w1003) (xLe a0 (.int .i64 4) fun v1006 =>
xIf v1006 (K (.int .i64 4) w1003) (xLe a0 (.int .i64 16) fun v1007 =>
xIf v1007 (K (.int .i64 16) w1003) (xLe a0 (.int .i64 48) fun v1008 =>
xIf v1008 (K (.int .i64 48) w1003) (K (.int .i64 256) w1003))))
theorem W_ref11_KindOf {a0 : Value} {K : Value → World → Prop} {w : World} (h : S_ref11_KindOf a0 K w) : Ret P n_ref11_KindOf [a0] w K :=
  vcF_of mixed Tryz.func81 (show S_ref11_KindOf a0 K w = vcF P Tryz.f81 [a0] w K from by kernel_rfl) h
/- spunyarn/canon.check -/
/- S_canon_check_l1: 0=slot 8 1=slot 5 e 2=slot 2 -/
def S_canon_check_l1 (K : Value → World → Prop) (a0 : Value) (v1000 : Value) (I1001 : Nat → List Value → World → Prop) (n1002 : Nat) (vs1003 : List Value) (g1004 : Nat → Value) (w1005 : World) : Prop :=
xLt (vs1003.getD 0 undef) v1000 fun v1006 =>
xIf v1006 (xIxS a0 (vs1003.getD 0 undef) 2 fun v1007 =>
xAt v1007 fun a1008 =>
XLdN w1005 a1008 2 fun v1009 =>
XNew w1005 [(.slice none 0 0), (.int .u64 0)] 32 fun a1010 w1011 =>
XDo P (storeVar 32 a1010 v1009) w1011 fun w1012 =>
XLd w1012 (a1010.add 0) fun v1013 =>
Ret P n_keys_May [v1013] w1012 fun v1014 w1015 =>
xNe v1014 (.int .i64 0) fun v1016 =>
xIf v1016 (K v1014 w1015) (xAdd (vs1003.getD 0 undef) (.int .i64 1) fun v1017 =>
XNext I1001 n1002 [v1017, v1014, (vs1003.getD 2 undef)] w1015)) (Ret P n_keys_Sorted [a0] w1005 fun v1018 w1019 =>
xNot v1018 fun v1020 =>
xIf v1020 (K (.int .i64 12) w1019) (K (.int .i64 0) w1019))
abbrev S_canon_check (a0 : Value) (K : Value → World → Prop) (w0 : World) : Prop :=
xLen a0 fun v1000 =>
XLoop [(.int .i64 0), undef, (.int .i64 0)] w0 (S_canon_check_l1 K a0 v1000)
theorem W_canon_check {a0 : Value} {K : Value → World → Prop} {w : World} (h : S_canon_check a0 K w) : Ret P n_canon_check [a0] w K :=
  vcF_of mixed Tryz.func82 (show S_canon_check a0 K w = vcF P Tryz.f82 [a0] w K from by kernel_rfl) h
/- (spunyarn/canon.maker).tree -/
/- S_canon_maker_tree_l1: 0=slot 11 many -/
def S_canon_maker_tree_l1 (a1000 : Addr) (v1028 : Value) (v1033 : Value) (I1049 : Nat → List Value → World → Prop) (n1050 : Nat) (vs1051 : List Value) (v1062 : Value) (I1063 : Nat → List Value → World → Prop) (n1064 : Nat) (vs1065 : List Value) (g1066 : Nat → Value) (w1067 : World) : Prop :=
/- 0 -/ XJ (fun J1068 =>
xLen (vs1051.getD 0 undef) fun v1072 =>
xLt (vs1065.getD 0 undef) v1072 fun v1073 =>
xIf v1073 (xIxS (vs1051.getD 0 undef) (vs1065.getD 0 undef) 2 fun v1074 =>
xFld v1074 0 fun v1075 =>
xAt v1075 fun a1076 =>
XLd w1067 a1076 fun v1077 =>
xIxS v1077 v1028 1 fun v1078 =>
xAt v1078 fun a1079 =>
XLd w1067 a1079 fun v1080 =>
xEq v1080 v1062 fun v1081 =>
J1068 [v1081] w1067) (J1068 [(.bool false)] w1067)) fun vs1069 g1070 w1071 =>
xIf (vs1069.getD 0 undef) (xAdd (vs1065.getD 0 undef) (.int .i64 1) fun v1082 =>
XNext I1063 n1064 [v1082] w1071) (XLd w1071.drew (a1000.add 1) fun v1083 =>
XLdN w1071.drew a1000 2 fun v1084 =>
xCutS 2 (vs1051.getD 0 undef) none (some (vs1065.getD 0 undef)) none fun v1085 =>
xAdd v1028 (.int .i64 1) fun v1086 =>
Ret P n_canon_maker_tree [v1084, v1085, v1086] w1071.drew fun v1087 w1088 =>
xKeep1 w1088 (.pointer (some (a1000.add 1))) v1083 ∧ (Ret P n_node_Node_SetKid [v1033, v1083, v1062, v1087] w1088 fun v1089 w1090 =>
xCutS 2 (vs1051.getD 0 undef) (some (vs1065.getD 0 undef)) none none fun v1091 =>
XNext I1049 n1050 [v1091, v1062, (vs1065.getD 0 undef)] w1090))
/- S_canon_maker_tree_l2: 0=slot 1 l 1=slot 10 b 2=slot 11 many -/
def S_canon_maker_tree_l2 (K : Value → World → Prop) (a1000 : Addr) (v1028 : Value) (v1033 : Value) (I1049 : Nat → List Value → World → Prop) (n1050 : Nat) (vs1051 : List Value) (g1052 : Nat → Value) (w1053 : World) : Prop :=
xLen (vs1051.getD 0 undef) fun v1054 =>
xGt v1054 (.int .i64 0) fun v1055 =>
xIf v1055 (xIxS (vs1051.getD 0 undef) (.int .i64 0) 2 fun v1056 =>
xFld v1056 0 fun v1057 =>
xAt v1057 fun a1058 =>
XLd w1053 a1058 fun v1059 =>
xIxS v1059 v1028 1 fun v1060 =>
xAt v1060 fun a1061 =>
XLd w1053 a1061 fun v1062 =>
XLoop [(.int .i64 1)] w1053 (S_canon_maker_tree_l1 a1000 v1028 v1033 I1049 n1050 vs1051 v1062)) (K v1033 w1053)
abbrev S_canon_maker_tree (a0 : Value) (a1 : Value) (a2 : Value) (K : Value → World → Prop) (w0 : World) : Prop :=
XNew w0 (cellsV a0) 154 fun a1000 w1001 =>
xLen a1 fun v1002 =>
xEq v1002 (.int .i64 0) fun v1003 =>
xIf v1003 (K (.pointer none) w1001) (xEq v1002 (.int .i64 1) fun v1004 =>
xIf v1004 (XLd w1001.drew (a1000.add 0) fun v1005 =>
XLd w1001.drew (a1000.add 1) fun v1006 =>
xIxS a1 (.int .i64 0) 2 fun v1007 =>
xFld v1007 0 fun v1008 =>
xAt v1008 fun a1009 =>
XLd w1001.drew a1009 fun v1010 =>
xCutS 1 v1010 (some a2) none none fun v1011 =>
xIxS a1 (.int .i64 0) 2 fun v1012 =>
xFld v1012 1 fun v1013 =>
xAt v1013 fun a1014 =>
XLd w1001.drew a1014 fun v1015 =>
Ret P n_node_Leaf [v1005, v1006, v1011, v1015] w1001.drew fun v1016 w1017 =>
K v1016 w1017) (xIxS a1 (.int .i64 0) 2 fun v1018 =>
xFld v1018 0 fun v1019 =>
xAt v1019 fun a1020 =>
XLd w1001 a1020 fun v1021 =>
xLen a1 fun v1022 =>
xSub v1022 (.int .i64 1) fun v1023 =>
xIxS a1 v1023 2 fun v1024 =>
xFld v1024 0 fun v1025 =>
xAt v1025 fun a1026 =>
XLd w1001 a1026 fun v1027 =>
Ret P n_keys_Common [v1021, v1027] w1001 fun v1028 w1029 =>
XLd w1029.drew (a1000.add 0) fun v1030 =>
XLd w1029.drew (a1000.add 1) fun v1031 =>
xCutS 1 v1021 (some a2) (some v1028) none fun v1032 =>
Ret P n_node_Inner [v1030, v1031, v1032] w1029.drew fun v1033 w1034 =>
/- 0 l -/ XJ (fun J1035 =>
xLen v1021 fun v1039 =>
xEq v1039 v1028 fun v1040 =>
xIf v1040 (XLd w1034.drew (a1000.add 1) fun v1041 =>
xIxS a1 (.int .i64 0) 2 fun v1042 =>
xFld v1042 1 fun v1043 =>
xAt v1043 fun a1044 =>
XLd w1034.drew a1044 fun v1045 =>
Ret P n_node_Node_SetVal [v1033, v1041, v1045] w1034.drew fun v1046 w1047 =>
xCutS 2 a1 (some (.int .i64 1)) none none fun v1048 =>
J1035 [v1048] w1047) (J1035 [a1] w1034)) fun vs1036 g1037 w1038 =>
XLoop [(vs1036.getD 0 undef), undef, undef] w1038 (S_canon_maker_tree_l2 K a1000 v1028 v1033)))
theorem W_canon_maker_tree {a0 a1 a2 : Value} {K : Value → World → Prop} {w : World} (h : S_canon_maker_tree a0 a1 a2 K w) : Ret P n_canon_maker_tree [a0, a1, a2] w K :=
  vcF_of mixed Tryz.func83 (show S_canon_maker_tree a0 a1 a2 K w = vcF P Tryz.f83 [a0, a1, a2] w K from by kernel_rfl) h
/- spunyarn/keys.May -/
abbrev S_keys_May (a0 : Value) (K : Value → World → Prop) (w0 : World) : Prop :=
xLen a0 fun v1000 =>
xGt v1000 (.int .i64 65535) fun v1001 =>
xIf v1001 (K (.int .i64 8) w0) (K (.int .i64 0) w0)
theorem W_keys_May {a0 : Value} {K : Value → World → Prop} {w : World} (h : S_keys_May a0 K w) : Ret P n_keys_May [a0] w K :=
  vcF_of mixed Tryz.func89 (show S_keys_May a0 K w = vcF P Tryz.f89 [a0] w K from by kernel_rfl) h
/- spunyarn/find.Get -/
/- S_find_Get_l1: 0=slot 4 1=slot 5 -/
def S_find_Get_l1 (K : Value → World → Prop) (a1001 : Addr) (I1003 : Nat → List Value → World → Prop) (n1004 : Nat) (vs1005 : List Value) (g1006 : Nat → Value) (w1007 : World) : Prop :=
Ret P n_find_walk_into [(.pointer (some a1001))] w1007 fun v1008 w1009 =>
xIf v1008 (Ret P n_find_walk_ends [(.pointer (some a1001))] w1009 fun v1010 w1011 =>
xIf v1010 (XLd w1011 (a1001.add 0) fun v1012 =>
Ret P n_node_Node_Val [v1012] w1011 fun v1013 w1014 =>
xTup v1013 0 fun v1015 =>
xTup v1013 1 fun v1016 =>
K (.tuple #[v1015, v1016]) w1014) (Ret P n_find_walk_down [(.pointer (some a1001))] w1011 fun v1017 w1018 =>
XNext I1003 n1004 [(vs1005.getD 0 undef), (vs1005.getD 1 undef)] w1018)) (K (.tuple #[(.int .u64 0), (.bool false)]) w1009)
abbrev S_find_Get (a0 : Value) (a1 : Value) (K : Value → World → Prop) (w0 : World) : Prop :=
xFill [(.pointer none), (.slice none 0 0), (.int .i64 0), (.int .i64 0)] [(0, 1, a0), (1, 1, a1)] fun c1000 =>
XNew w0 (cellsV (.agg c1000.toArray)) 201 fun a1001 w1002 =>
XLoop [(.int .u64 0), (.bool false)] w1002 (S_find_Get_l1 K a1001)
theorem W_find_Get {a0 a1 : Value} {K : Value → World → Prop} {w : World} (h : S_find_Get a0 a1 K w) : Ret P n_find_Get [a0, a1] w K :=
  vcF_of mixed Tryz.func90 (show S_find_Get a0 a1 K w = vcF P Tryz.f90 [a0, a1] w K from by kernel_rfl) h
/- (spunyarn/put.putter).into -/
abbrev S_put_putter_into (a0 : Value) (a1 : Value) (a2 : Value) (K : Value → World → Prop) (w0 : World) : Prop :=
XNew w0 (cellsV a0) 165 fun a1000 w1001 =>
xPEq P w1001 a1 (.pointer none) fun v1002 =>
xIf v1002 (XLd w1001 (a1000.add 2) fun v1003 =>
XLd w1001 (a1000.add 1) fun v1004 =>
XLd w1001 (a1000.add 0) fun v1005 =>
Ret P n_node_Leaf [v1003, v1004, a2, v1005] w1001 fun v1006 w1007 =>
K v1006 w1007) (Ret P n_node_Node_Part [a1] w1001 fun v1008 w1009 =>
Ret P n_keys_Common [v1008, a2] w1009 fun v1010 w1011 =>
Ret P n_node_Node_Kind [a1] w1011 fun v1012 w1013 =>
xEq v1012 (.int .i64 1) fun v1014 =>
/- 0 1 2 3 -/ XJ (fun J1015 =>
/- 0 -/ XJ (fun J1019 =>
xLen v1008 fun v1023 =>
xEq v1010 v1023 fun v1024 =>
xIf v1024 (xLen a2 fun v1025 =>
xEq v1010 v1025 fun v1026 =>
J1019 [v1026] w1013) (J1019 [(.bool false)] w1013)) fun vs1020 g1021 w1022 =>
xIf (vs1020.getD 0 undef) (XLdN w1022 a1000 3 fun v1027 =>
Ret P n_put_putter_here [v1027, a1] w1022 fun v1028 w1029 =>
K v1028 w1029) (xLen v1008 fun v1030 =>
xLt v1010 v1030 fun v1031 =>
xIf v1031 (J1015 [(vs1020.getD 0 undef), v1031, undef, (.pointer none)] w1022) (xIf v1014 (J1015 [(vs1020.getD 0 undef), v1031, v1014, (.pointer none)] w1022) (XLdN w1022.drew a1000 3 fun v1032 =>
xCutS 1 a2 (some v1010) none none fun v1033 =>
Ret P n_put_putter_below [v1032, a1, v1033] w1022.drew fun v1034 w1035 =>
K v1034 w1035)))) fun vs1016 g1017 w1018 =>
XLdN w1018 a1000 3 fun v1036 =>
Ret P n_put_putter_split [v1036, a1, v1008, a2, v1010] w1018 fun v1037 w1038 =>
K v1037 w1038)
theorem W_put_putter_into {a0 a1 a2 : Value} {K : Value → World → Prop} {w : World} (h : S_put_putter_into a0 a1 a2 K w) : Ret P n_put_putter_into [a0, a1, a2] w K :=
  vcF_of mixed Tryz.func91 (show S_put_putter_into a0 a1 a2 K w = vcF P Tryz.f91 [a0, a1, a2] w K from by kernel_rfl) h
/- spunyarn/find.Has -/
abbrev S_find_Has (a0 : Value) (a1 : Value) (K : Value → World → Prop) (w0 : World) : Prop :=
Ret P n_find_Get [a0, a1] w0 fun v1000 w1001 =>
xTup v1000 0 fun v1002 =>
xTup v1000 1 fun v1003 =>
K v1003 w1001
theorem W_find_Has {a0 a1 : Value} {K : Value → World → Prop} {w : World} (h : S_find_Has a0 a1 K w) : Ret P n_find_Has [a0, a1] w K :=
  vcF_of mixed Tryz.func92 (show S_find_Has a0 a1 K w = vcF P Tryz.f92 [a0, a1] w K from by kernel_rfl) h
/- (*strings.Builder).WriteString -/
abbrev S_strings_Builder_WriteString (a0 : Value) (a1 : Value) (K : Value → World → Prop) (w0 : World) : Prop :=
Ret P n_strings_Builder_copyCheck [a0] w0 fun v1000 w1001 =>
xAt a0 fun a1002 =>
XLd w1001 (a1002.add 1) fun v1003 =>
XRun P (Builtin.append_ #[27, 9] 27 #[v1003, a1]) w1001 fun v1004 w1005 =>
xAt a0 fun a1006 =>
XSt w1005 (a1006.add 1) v1004 fun w1007 =>
xLenS a1 fun v1008 =>
K (.tuple #[v1008, .nilIface]) w1007
theorem W_strings_Builder_WriteString {a0 a1 : Value} {K : Value → World → Prop} {w : World} (h : S_strings_Builder_WriteString a0 a1 K w) : Ret P n_strings_Builder_WriteString [a0, a1] w K :=
  vcF_of mixed Tryz.func98 (show S_strings_Builder_WriteString a0 a1 K w = vcF P Tryz.f98 [a0, a1] w K from by kernel_rfl) h
/- (*spunyarn/node.Node).Kind -/
abbrev S_node_Node_Kind (a0 : Value) (K : Value → World → Prop) (w0 : World) : Prop :=
xPEq P w0 a0 (.pointer none) fun v1000 =>
xIf v1000 (K (.int .i64 0) w0) (Ret P n_node_Node_isLeaf [a0] w0 fun v1001 w1002 =>
xIf v1001 (K (.int .i64 1) w1002) (xAt a0 fun a1003 =>
XLd w1002 (a1003.add 4) fun v1004 =>
Ret P n_kids_Kids_Kind [v1004] w1002 fun v1005 w1006 =>
K v1005 w1006))
theorem W_node_Node_Kind {a0 : Value} {K : Value → World → Prop} {w : World} (h : S_node_Node_Kind a0 K w) : Ret P n_node_Node_Kind [a0] w K :=
  vcF_of mixed Tryz.func99 (show S_node_Node_Kind a0 K w = vcF P Tryz.f99 [a0] w K from by kernel_rfl) h
/- strconv.Itoa -/
abbrev S_strconv_Itoa (a0 : Value) (K : Value → World → Prop) (w0 : World) : Prop :=
Ret P n_istrconv_Itoa [a0] w0 fun v1000 w1001 =>
K v1000 w1001
theorem W_strconv_Itoa {a0 : Value} {K : Value → World → Prop} {w : World} (h : S_strconv_Itoa a0 K w) : Ret P n_strconv_Itoa [a0] w K :=
  vcF_of mixed Tryz.func100 (show S_strconv_Itoa a0 K w = vcF P Tryz.f100 [a0] w K from by kernel_rfl) h
/- spunyarn/keys.Text -/
/- S_keys_Text_l1: 0=slot 12 1=slot 5 c 2=slot 3 b -/
def S_keys_Text_l1 (K : Value → World → Prop) (a0 : Value) (v1004 : Value) (I1005 : Nat → List Value → World → Prop) (n1006 : Nat) (vs1007 : List Value) (g1008 : Nat → Value) (w1009 : World) : Prop :=
xLt (vs1007.getD 0 undef) v1004 fun v1010 =>
xIf v1010 (xIxS a0 (vs1007.getD 0 undef) 1 fun v1011 =>
xAt v1011 fun a1012 =>
XLd w1009 a1012 fun v1013 =>
xShr v1013 (.int .u64 4) fun v1014 =>
xIxStr (.string ⟨#[48, 49, 50, 51, 52, 53, 54, 55, 56, 57, 97, 98, 99, 100, 101, 102]⟩) v1014 fun v1015 =>
xAnd v1013 (.int .u8 15) fun v1016 =>
xIxStr (.string ⟨#[48, 49, 50, 51, 52, 53, 54, 55, 56, 57, 97, 98, 99, 100, 101, 102]⟩) v1016 fun v1017 =>
xFill (repL [(.int .u8 0)] 2) [(0, 1, v1015), (1, 1, v1017)] fun c1018 =>
XNew w1009.drew c1018 5 fun a1019 w1020 =>
XRun P (Builtin.append_ #[27, 27] 27 #[(vs1007.getD 2 undef), (.slice (some a1019) 2 2)]) w1020 fun v1021 w1022 =>
xAdd (vs1007.getD 0 undef) (.int .i64 1) fun v1023 =>
XNext I1005 n1006 [v1023, v1013, v1021] w1022) (XRun P (convert 27 9 (vs1007.getD 2 undef)) w1009 fun v1024 w1025 =>
K v1024 w1025)
abbrev S_keys_Text (a0 : Value) (K : Value → World → Prop) (w0 : World) : Prop :=
xLen a0 fun v1000 =>
xMul (.int .i64 2) v1000 fun v1001 =>
XRun P (Instr.makeSlice 27 (.int .i64 0) v1001) w0 fun v1002 w1003 =>
xLen a0 fun v1004 =>
XLoop [(.int .i64 0), undef, v1002] w1003 (S_keys_Text_l1 K a0 v1004)
theorem W_keys_Text {a0 : Value} {K : Value → World → Prop} {w : World} (h : S_keys_Text a0 K w) : Ret P n_keys_Text [a0] w K :=
  vcF_of mixed Tryz.func101 (show S_keys_Text a0 K w = vcF P Tryz.f101 [a0] w K from by kernel_rfl) h
/- (*spunyarn/node.Node).Part -/
abbrev S_node_Node_Part (a0 : Value) (K : Value → World → Prop) (w0 : World) : Prop :=
xPEq P w0 a0 (.pointer none) fun v1000 =>
xIf v1000 (K (.slice none 0 0) w0) (xAt a0 fun a1001 =>
XLd w0 (a1001.add 1) fun v1002 =>
xLen v1002 fun v1003 =>
XRun P (Instr.makeSlice 27 v1003 v1003) w0 fun v1004 w1005 =>
xAt a0 fun a1006 =>
XLd w1005 (a1006.add 1) fun v1007 =>
XRun P (Builtin.copy_ #[27, 27] 3 #[v1004, v1007]) w1005 fun v1008 w1009 =>
K v1004 w1009)
theorem W_node_Node_Part {a0 : Value} {K : Value → World → Prop} {w : World} (h : S_node_Node_Part a0 K w) : Ret P n_node_Node_Part [a0] w K :=
  vcF_of mixed Tryz.func102 (show S_node_Node_Part a0 K w = vcF P Tryz.f102 [a0] w K from by kernel_rfl) h
/- strconv.FormatUint -/
abbrev S_strconv_FormatUint (a0 : Value) (a1 : Value) (K : Value → World → Prop) (w0 : World) : Prop :=
Ret P n_istrconv_FormatUint [a0, a1] w0 fun v1000 w1001 =>
K v1000 w1001
theorem W_strconv_FormatUint {a0 a1 : Value} {K : Value → World → Prop} {w : World} (h : S_strconv_FormatUint a0 a1 K w) : Ret P n_strconv_FormatUint [a0, a1] w K :=
  vcF_of mixed Tryz.func103 (show S_strconv_FormatUint a0 a1 K w = vcF P Tryz.f103 [a0, a1] w K from by kernel_rfl) h
/- (*spunyarn/node.Node).Next -/
abbrev S_node_Node_Next (a0 : Value) (a1 : Value) (K : Value → World → Prop) (w0 : World) : Prop :=
xPEq P w0 a0 (.pointer none) fun v1000 =>
xIf v1000 (K (.tuple #[(.int .u8 0), (.pointer none)]) w0) (xAt a0 fun a1001 =>
XLd w0 (a1001.add 4) fun v1002 =>
Ret P n_kids_Kids_Next [v1002, a1] w0 fun v1003 w1004 =>
xTup v1003 0 fun v1005 =>
xTup v1003 1 fun v1006 =>
xTup v1003 2 fun v1007 =>
K (.tuple #[v1005, v1006]) w1004)
theorem W_node_Node_Next {a0 a1 : Value} {K : Value → World → Prop} {w : World} (h : S_node_Node_Next a0 a1 K w) : Ret P n_node_Node_Next [a0, a1] w K :=
  vcF_of mixed Tryz.func104 (show S_node_Node_Next a0 a1 K w = vcF P Tryz.f104 [a0, a1] w K from by kernel_rfl) h
/- (*sync/atomic.Bool).Load -/
abbrev S_atomic_Bool_Load (a0 : Value) (K : Value → World → Prop) (w0 : World) : Prop :=
xAt a0 fun a1000 =>
xCall P 132 [(.pointer (some (a1000.add 0)))] w0 fun v1001 w1002 =>
xNe v1001 (.int .u32 0) fun v1003 =>
K v1003 w1002
theorem W_atomic_Bool_Load {a0 : Value} {K : Value → World → Prop} {w : World} (h : S_atomic_Bool_Load a0 K w) : Ret P n_atomic_Bool_Load [a0] w K :=
  vcF_of mixed Tryz.func105 (show S_atomic_Bool_Load a0 K w = vcF P Tryz.f105 [a0] w K from by kernel_rfl) h
/- spunyarn/canon.each$1 -/
/- S_canon_each_1_l1: 0=slot 7 k 1=slot 6 b -/
def S_canon_each_1_l1 (K : Value → World → Prop) (a1 : Value) (a3 : Value) (v1003 : Value) (I1015 : Nat → List Value → World → Prop) (n1016 : Nat) (vs1017 : List Value) (g1018 : Nat → Value) (w1019 : World) : Prop :=
xPNe P w1019 (vs1017.getD 0 undef) (.pointer none) fun v1020 =>
xIf v1020 (xAt a3 fun a1021 =>
XLd w1019.drew a1021 fun v1022 =>
xFill (repL [(.int .u8 0)] 1) [(0, 1, (vs1017.getD 1 undef))] fun c1023 =>
XNew w1019.drew c1023 5 fun a1024 w1025 =>
xKeep1 w1025 a3 v1022 ∧ (XRun P (Builtin.append_ #[27, 27] 27 #[v1003, (.slice (some a1024) 1 1)]) w1025 fun v1026 w1027 =>
xKeep1 w1027 a3 v1022 ∧ (xFunc v1022 [v1026, (vs1017.getD 0 undef)] fun f1028 xs1029 =>
xCall P f1028 xs1029 w1027 fun v1030 w1031 =>
xConv .i64 (vs1017.getD 1 undef) fun v1032 =>
xAdd v1032 (.int .i64 1) fun v1033 =>
Ret P n_node_Node_Next [a1, v1033] w1031 fun v1034 w1035 =>
xTup v1034 0 fun v1036 =>
xTup v1034 1 fun v1037 =>
XNext I1015 n1016 [v1037, v1036] w1035))) (K (.tuple #[]) w1019)
abbrev S_canon_each_1 (a0 : Value) (a1 : Value) (a2 : Value) (a3 : Value) (K : Value → World → Prop) (w0 : World) : Prop :=
xPEq P w0 a1 (.pointer none) fun v1000 =>
xIf v1000 (K (.tuple #[]) w0) (Ret P n_node_Node_Part [a1] w0 fun v1001 w1002 =>
XRun P (Builtin.append_ #[27, 27] 27 #[a0, v1001]) w1002 fun v1003 w1004 =>
xAt a2 fun a1005 =>
XLd w1004 a1005 fun v1006 =>
xFunc v1006 [v1003, a1] fun f1007 xs1008 =>
xCall P f1007 xs1008 w1004 fun v1009 w1010 =>
Ret P n_node_Node_Next [a1, (.int .i64 0)] w1010 fun v1011 w1012 =>
xTup v1011 0 fun v1013 =>
xTup v1011 1 fun v1014 =>
XLoop [v1014, v1013] w1012 (S_canon_each_1_l1 K a1 a3 v1003))
theorem W_canon_each_1 {a0 a1 a2 a3 : Value} {K : Value → World → Prop} {w : World} (h : S_canon_each_1 a0 a1 a2 a3 K w) : Ret P n_canon_each_1 [a0, a1, a2, a3] w K :=
  vcF_of mixed Tryz.func107 (show S_canon_each_1 a0 a1 a2 a3 K w = vcF P Tryz.f107 [a0, a1, a2, a3] w K from by kernel_rfl) h
/- spunyarn/keys.Sorted -/
/- S_keys_Sorted_l1: 0=slot 3 i 1=slot 2 -/
def S_keys_Sorted_l1 (K : Value → World → Prop) (a0 : Value) (I1000 : Nat → List Value → World → Prop) (n1001 : Nat) (vs1002 : List Value) (g1003 : Nat → Value) (w1004 : World) : Prop :=
xLen a0 fun v1005 =>
xLt (vs1002.getD 0 undef) v1005 fun v1006 =>
xIf v1006 (xSub (vs1002.getD 0 undef) (.int .i64 1) fun v1007 =>
xIxS a0 v1007 2 fun v1008 =>
xFld v1008 0 fun v1009 =>
xAt v1009 fun a1010 =>
XLd w1004.drew a1010 fun v1011 =>
xIxS a0 (vs1002.getD 0 undef) 2 fun v1012 =>
xFld v1012 0 fun v1013 =>
xAt v1013 fun a1014 =>
XLd w1004.drew a1014 fun v1015 =>
Ret P n_keys_Cmp [v1011, v1015] w1004.drew fun v1016 w1017 =>
xGe v1016 (.int .i64 0) fun v1018 =>
xIf v1018 (K (.bool false) w1017) (xAdd (vs1002.getD 0 undef) (.int .i64 1) fun v1019 =>
XNext I1000 n1001 [v1019, (vs1002.getD 1 undef)] w1017)) (K (.bool true) w1004)
abbrev S_keys_Sorted (a0 : Value) (K : Value → World → Prop) (w0 : World) : Prop :=
XLoop [(.int .i64 1), (.bool false)] w0 (S_keys_Sorted_l1 K a0)
theorem W_keys_Sorted {a0 : Value} {K : Value → World → Prop} {w : World} (h : S_keys_Sorted a0 K w) : Ret P n_keys_Sorted [a0] w K :=
  vcF_of mixed Tryz.func111 (show S_keys_Sorted a0 K w = vcF P Tryz.f111 [a0] w K from by kernel_rfl) h
/- spunyarn/node.Leaf -/
abbrev S_node_Leaf (a0 : Value) (a1 : Value) (a2 : Value) (a3 : Value) (K : Value → World → Prop) (w0 : World) : Prop :=
Ret P n_meter_Meter_Made [a0, (.int .i64 1)] w0 fun v1000 w1001 =>
Ret P n_bytes_Clone [a2] w1001 fun v1002 w1003 =>
xFill [(.int .u64 0), (.slice none 0 0), (.int .u64 0), (.bool false), (.pointer none)] [(0, 1, a1), (1, 1, v1002), (2, 1, a3), (3, 1, (.bool true))] fun c1004 =>
XNew w1003 (cellsV (.agg c1004.toArray)) 189 fun a1005 w1006 =>
K (.pointer (some a1005)) w1006
theorem W_node_Leaf {a0 a1 a2 a3 : Value} {K : Value → World → Prop} {w : World} (h : S_node_Leaf a0 a1 a2 a3 K w) : Ret P n_node_Leaf [a0, a1, a2, a3] w K :=
  vcF_of mixed Tryz.func112 (show S_node_Leaf a0 a1 a2 a3 K w = vcF P Tryz.f112 [a0, a1, a2, a3] w K from by kernel_rfl) h
end Go.Proofs.YtlhjfenpmnejoaaGreatDoor
