/-  Written by gen.py for this claim: of each function a form without frames, the same as the engine's condition by reckoning.  -/
import Derived.Test.YtidkkkdlaclolaaSN
import Derived.Test.YtidkkkdlaclolaaProg
namespace Go.Proofs.Ytidkkkdlaclolaa
open Go X
set_option linter.unusedVariables false
set_option maxRecDepth 100000
/- spunyarn/spunyarnref13.Sort -/
/- S_ref13_Sort_l1: 0=slot 6 k -/
def S_ref13_Sort_l1 (a0 : Value) (vs1002 : List Value) (J1007 : List Value → World → Prop) (vs1013 : List Value) (v1062 : Value) (I1066 : Nat → List Value → World → Prop) (n1067 : Nat) (vs1068 : List Value) (g1069 : Nat → Value) (w1070 : World) : Prop :=
xGt (vs1068.getD 0 undef) (vs1013.getD 0 undef) fun v1071 =>
xIf v1071 (xSub (vs1068.getD 0 undef) (.int .i64 1) fun v1072 =>
xIxS v1062 v1072 2 fun v1073 =>
xAt v1073 fun a1074 =>
XLdN w1070 a1074 2 fun v1075 =>
xIxS v1062 (vs1068.getD 0 undef) 2 fun v1076 =>
xAt v1076 fun a1078 =>
XDo P (storeVar 54 a1078 v1075) w1070 fun w1077 =>
xSub (vs1068.getD 0 undef) (.int .i64 1) fun v1079 =>
XNext I1066 n1067 [v1079] w1077) (xIxS a0 (vs1002.getD 0 undef) 2 fun v1080 =>
xAt v1080 fun a1081 =>
XLdN w1070 a1081 2 fun v1082 =>
xIxS v1062 (vs1013.getD 0 undef) 2 fun v1083 =>
xAt v1083 fun a1085 =>
XDo P (storeVar 54 a1085 v1082) w1070 fun w1084 =>
J1007 [(vs1013.getD 0 undef), v1062, (vs1068.getD 0 undef)] w1084)
/- S_ref13_Sort_l2: 0=slot 5 j -/
def S_ref13_Sort_l2 (a0 : Value) (vs1002 : List Value) (J1007 : List Value → World → Prop) (I1011 : Nat → List Value → World → Prop) (n1012 : Nat) (vs1013 : List Value) (g1014 : Nat → Value) (w1015 : World) : Prop :=
/- 0 -/ XJ (fun J1016 =>
xLen (vs1002.getD 2 undef) fun v1020 =>
xLt (vs1013.getD 0 undef) v1020 fun v1021 =>
xIf v1021 (xIxS (vs1002.getD 2 undef) (vs1013.getD 0 undef) 2 fun v1022 =>
xFld v1022 0 fun v1023 =>
xAt v1023 fun a1024 =>
XLd w1015.drew a1024 fun v1025 =>
xIxS a0 (vs1002.getD 0 undef) 2 fun v1026 =>
xFld v1026 0 fun v1027 =>
xAt v1027 fun a1028 =>
XLd w1015.drew a1028 fun v1029 =>
Ret P n_ref01_Cmp [v1025, v1029] w1015.drew fun v1030 w1031 =>
xLt v1030 (.int .i64 0) fun v1032 =>
J1016 [v1032] w1031) (J1016 [(.bool false)] (w1015.drew))) fun vs1017 g1018 w1019 =>
xIf (vs1017.getD 0 undef) (xAdd (vs1013.getD 0 undef) (.int .i64 1) fun v1033 =>
XNext I1011 n1012 [v1033] w1019) (/- 0 -/ XJ (fun J1034 =>
xLen (vs1002.getD 2 undef) fun v1038 =>
xLt (vs1013.getD 0 undef) v1038 fun v1039 =>
xIf v1039 (xIxS (vs1002.getD 2 undef) (vs1013.getD 0 undef) 2 fun v1040 =>
xFld v1040 0 fun v1041 =>
xAt v1041 fun a1042 =>
XLd w1019.drew a1042 fun v1043 =>
xIxS a0 (vs1002.getD 0 undef) 2 fun v1044 =>
xFld v1044 0 fun v1045 =>
xAt v1045 fun a1046 =>
XLd w1019.drew a1046 fun v1047 =>
Ret P n_ref01_Same [v1043, v1047] w1019.drew fun v1048 w1049 =>
J1034 [v1048] w1049) (J1034 [(.bool false)] (w1019.drew))) fun vs1035 g1036 w1037 =>
xIf (vs1035.getD 0 undef) (xIxS a0 (vs1002.getD 0 undef) 2 fun v1050 =>
xFld v1050 1 fun v1051 =>
xAt v1051 fun a1052 =>
XLd w1037 a1052 fun v1053 =>
xIxS (vs1002.getD 2 undef) (vs1013.getD 0 undef) 2 fun v1054 =>
xFld v1054 1 fun v1055 =>
xAt v1055 fun a1057 =>
XSt w1037 a1057 v1053 fun w1056 =>
J1007 [(vs1013.getD 0 undef), (vs1002.getD 2 undef), (vs1002.getD 3 undef)] w1056) (xFill [(.slice none 0 0), (.int .u64 0)] [] fun c1058 =>
xFill (repL [(.slice none 0 0), (.int .u64 0)] 1) [(0, 2, (.agg c1058.toArray))] fun c1059 =>
XNew w1037 c1059 54 fun a1060 w1061 =>
XRun P (Builtin.append_ #[22, 22] 22 #[(vs1002.getD 2 undef), (.slice (some a1060) 1 1)]) w1061 fun v1062 w1063 =>
xLen v1062 fun v1064 =>
xSub v1064 (.int .i64 1) fun v1065 =>
XLoop [v1065] w1063 (S_ref13_Sort_l1 a0 vs1002 J1007 vs1013 v1062)))
/- S_ref13_Sort_l3: 0=slot 4 i 1=slot 5 j 2=slot 3 out 3=slot 6 k -/
def S_ref13_Sort_l3 (K : Value → World → Prop) (a0 : Value) (I1000 : Nat → List Value → World → Prop) (n1001 : Nat) (vs1002 : List Value) (g1003 : Nat → Value) (w1004 : World) : Prop :=
xLen a0 fun v1005 =>
xLt (vs1002.getD 0 undef) v1005 fun v1006 =>
xIf v1006 (/- 0 j 1 out 2 k -/ XJ (fun J1007 =>
XLoop [(.int .i64 0)] w1004 (S_ref13_Sort_l2 a0 vs1002 J1007)) fun vs1008 g1009 w1010 =>
xAdd (vs1002.getD 0 undef) (.int .i64 1) fun v1086 =>
XNext I1000 n1001 [v1086, (vs1008.getD 0 undef), (vs1008.getD 1 undef), (vs1008.getD 2 undef)] w1010) (K (vs1002.getD 2 undef) w1004)
abbrev S_ref13_Sort (a0 : Value) (K : Value → World → Prop) (w0 : World) : Prop :=
XLoop [(.int .i64 0), undef, (.slice none 0 0), undef] w0 (S_ref13_Sort_l3 K a0)
theorem W_ref13_Sort {a0 : Value} {K : Value → World → Prop} {w : World} (h : S_ref13_Sort a0 K w) : Ret P n_ref13_Sort [a0] w K :=
  vcF_of mixed Try.func6 (show S_ref13_Sort a0 K w = vcF P Try.f6 [a0] w K from by kernel_rfl) h
/- spunyarn/canon.Build -/
abbrev S_canon_Build (a0 : Value) (a1 : Value) (a2 : Value) (K : Value → World → Prop) (w0 : World) : Prop :=
Ret P n_canon_check [a2] w0 fun v1000 w1001 =>
xNe v1000 (.int .i64 0) fun v1002 =>
xIf v1002 (K (.tuple #[(.pointer none), v1000]) w1001) (xFill [(.pointer none), (.int .u64 0)] [(0, 1, a0), (1, 1, a1)] fun c1003 =>
Ret P n_canon_maker_tree [(.agg c1003.toArray), a2, (.int .i64 0)] w1001 fun v1004 w1005 =>
K (.tuple #[v1004, (.int .i64 0)]) w1005)
theorem W_canon_Build {a0 a1 a2 : Value} {K : Value → World → Prop} {w : World} (h : S_canon_Build a0 a1 a2 K w) : Ret P n_canon_Build [a0, a1, a2] w K :=
  vcF_of mixed Try.func8 (show S_canon_Build a0 a1 a2 K w = vcF P Try.f8 [a0, a1, a2] w K from by kernel_rfl) h
/- spunyarn/canon.List -/
abbrev S_canon_List (a0 : Value) (K : Value → World → Prop) (w0 : World) : Prop :=
XNew w0 [(.slice none 0 0)] 40 fun a1000 w1001 =>
Ret P n_canon_each [a0, (.func (.func 20) #[] #[(.pointer (some a1000))])] w1001 fun v1002 w1003 =>
XLd w1003 a1000 fun v1004 =>
K v1004 w1003
theorem W_canon_List {a0 : Value} {K : Value → World → Prop} {w : World} (h : S_canon_List a0 K w) : Ret P n_canon_List [a0] w K :=
  vcF_of mixed Try.func9 (show S_canon_List a0 K w = vcF P Try.f9 [a0] w K from by kernel_rfl) h
/- spunyarn/spunyarnref13.Build -/
abbrev S_ref13_Build (a0 : Value) (K : Value → World → Prop) (w0 : World) : Prop :=
XNew w0 [(.int .i64 0), (.slice none 0 0), (.bool false), (.int .u64 0), (.slice none 0 0), (.slice none 0 0)] 47 fun a1000 w1001 =>
Ret P n_ref13_build [a0, (.int .i64 0)] w1001 fun v1002 w1003 =>
XDo P (storeVar 47 a1000 v1002) w1003 fun w1004 =>
XLdN w1004 a1000 6 fun v1005 =>
K v1005 w1004
theorem W_ref13_Build {a0 : Value} {K : Value → World → Prop} {w : World} (h : S_ref13_Build a0 K w) : Ret P n_ref13_Build [a0] w K :=
  vcF_of mixed Try.func11 (show S_ref13_Build a0 K w = vcF P Try.f11 [a0] w K from by kernel_rfl) h
/- (*spunyarn/meter.Meter).Count -/
abbrev S_meter_Meter_Count (a0 : Value) (K : Value → World → Prop) (w0 : World) : Prop :=
xPEq P w0 a0 (.pointer none) fun v1000 =>
xIf v1000 (K (.int .i64 0) w0) (xAt a0 fun a1001 =>
Ret P n_atomic_Int64_Load [(.pointer (some (a1001.add 0)))] w0 fun v1002 w1003 =>
K v1002 w1003)
theorem W_meter_Meter_Count {a0 : Value} {K : Value → World → Prop} {w : World} (h : S_meter_Meter_Count a0 K w) : Ret P n_meter_Meter_Count [a0] w K :=
  vcF_of mixed Try.func14 (show S_meter_Meter_Count a0 K w = vcF P Try.f14 [a0] w K from by kernel_rfl) h
/- spunyarn/spunyarnref01.Cmp -/
abbrev S_ref01_Cmp (a0 : Value) (a1 : Value) (K : Value → World → Prop) (w0 : World) : Prop :=
Ret P n_ref01_Common [a0, a1] w0 fun v1000 w1001 =>
/- 0 -/ XJ (fun J1002 =>
xLen a0 fun v1006 =>
xEq v1000 v1006 fun v1007 =>
xIf v1007 (xLen a1 fun v1008 =>
xEq v1000 v1008 fun v1009 =>
J1002 [v1009] w1001) (J1002 [(.bool false)] w1001)) fun vs1003 g1004 w1005 =>
xIf (vs1003.getD 0 undef) (K (.int .i64 0) w1005) (xLen a0 fun v1010 =>
xEq v1000 v1010 fun v1011 =>
xIf v1011 (K (.int .i64 (-1)) w1005) (xLen a1 fun v1012 =>
xEq v1000 v1012 fun v1013 =>
xIf v1013 (K (.int .i64 1) w1005) (xIxS a0 v1000 1 fun v1014 =>
xAt v1014 fun a1015 =>
XLd w1005.drew a1015 fun v1016 =>
xIxS a1 v1000 1 fun v1017 =>
xAt v1017 fun a1018 =>
XLd w1005.drew a1018 fun v1019 =>
xLt v1016 v1019 fun v1020 =>
xIf v1020 (K (.int .i64 (-1)) (w1005.drew)) (K (.int .i64 1) (w1005.drew)))))
theorem W_ref01_Cmp {a0 a1 : Value} {K : Value → World → Prop} {w : World} (h : S_ref01_Cmp a0 a1 K w) : Ret P n_ref01_Cmp [a0, a1] w K :=
  vcF_of mixed Try.func15 (show S_ref01_Cmp a0 a1 K w = vcF P Try.f15 [a0, a1] w K from by kernel_rfl) h
/- spunyarn/spunyarnref01.Same -/
abbrev S_ref01_Same (a0 : Value) (a1 : Value) (K : Value → World → Prop) (w0 : World) : Prop :=
Ret P n_ref01_Cmp [a0, a1] w0 fun v1000 w1001 =>
xEq v1000 (.int .i64 0) fun v1002 =>
K v1002 w1001
theorem W_ref01_Same {a0 a1 : Value} {K : Value → World → Prop} {w : World} (h : S_ref01_Same a0 a1 K w) : Ret P n_ref01_Same [a0, a1] w K :=
  vcF_of mixed Try.func16 (show S_ref01_Same a0 a1 K w = vcF P Try.f16 [a0, a1] w K from by kernel_rfl) h
/- spunyarn/canon.check -/
/- S_canon_check_l1: 0=slot 8 1=slot 5 e 2=slot 2 -/
def S_canon_check_l1 (K : Value → World → Prop) (a0 : Value) (v1000 : Value) (I1001 : Nat → List Value → World → Prop) (n1002 : Nat) (vs1003 : List Value) (g1004 : Nat → Value) (w1005 : World) : Prop :=
xLt (vs1003.getD 0 undef) v1000 fun v1006 =>
xIf v1006 (xIxS a0 (vs1003.getD 0 undef) 2 fun v1007 =>
xAt v1007 fun a1008 =>
XLdN w1005 a1008 2 fun v1009 =>
XNew w1005 [(.slice none 0 0), (.int .u64 0)] 57 fun a1010 w1011 =>
XDo P (storeVar 57 a1010 v1009) w1011 fun w1012 =>
XLd w1012 (a1010.add 0) fun v1013 =>
Ret P n_keys_May [v1013] w1012 fun v1014 w1015 =>
xNe v1014 (.int .i64 0) fun v1016 =>
xIf v1016 (K v1014 w1015) (xAdd (vs1003.getD 0 undef) (.int .i64 1) fun v1017 =>
XNext I1001 n1002 [v1017, v1014, (vs1003.getD 2 undef)] w1015)) (Ret P n_keys_Sorted [a0] w1005 fun v1018 w1019 =>
xNot v1018 fun v1020 =>
xIf v1020 (K (.int .i64 12) w1019) (K (.int .i64 0) w1019))
abbrev S_canon_check (a0 : Value) (K : Value → World → Prop) (w0 : World) : Prop :=
xLen a0 fun v1000 =>
XLoop [(.int .i64 0), undef, (.int .i64 0)] w0 (S_canon_check_l1 K a0 v1000)
theorem W_canon_check {a0 : Value} {K : Value → World → Prop} {w : World} (h : S_canon_check a0 K w) : Ret P n_canon_check [a0] w K :=
  vcF_of mixed Try.func17 (show S_canon_check a0 K w = vcF P Try.f17 [a0] w K from by kernel_rfl) h
/- (spunyarn/canon.maker).tree -/
/- S_canon_maker_tree_l1: 0=slot 11 many -/
def S_canon_maker_tree_l1 (a1000 : Addr) (v1028 : Value) (v1033 : Value) (I1049 : Nat → List Value → World → Prop) (n1050 : Nat) (vs1051 : List Value) (v1062 : Value) (I1063 : Nat → List Value → World → Prop) (n1064 : Nat) (vs1065 : List Value) (g1066 : Nat → Value) (w1067 : World) : Prop :=
/- 0 -/ XJ (fun J1068 =>
xLen (vs1051.getD 0 undef) fun v1072 =>
xLt (vs1065.getD 0 undef) v1072 fun v1073 =>
xIf v1073 (xIxS (vs1051.getD 0 undef) (vs1065.getD 0 undef) 2 fun v1074 =>
xFld v1074 0 fun v1075 =>
xAt v1075 fun a1076 =>
XLd w1067 a1076 fun v1077 =>
xIxS v1077 v1028 1 fun v1078 =>
xAt v1078 fun a1079 =>
XLd w1067 a1079 fun v1080 =>
xEq v1080 v1062 fun v1081 =>
J1068 [v1081] w1067) (J1068 [(.bool false)] w1067)) fun vs1069 g1070 w1071 =>
xIf (vs1069.getD 0 undef) (xAdd (vs1065.getD 0 undef) (.int .i64 1) fun v1082 =>
XNext I1063 n1064 [v1082] w1071) (XLd w1071.drew (a1000.add 1) fun v1083 =>
XLdN w1071.drew a1000 2 fun v1084 =>
xCutS 2 (vs1051.getD 0 undef) none (some (vs1065.getD 0 undef)) none fun v1085 =>
xAdd v1028 (.int .i64 1) fun v1086 =>
Ret P n_canon_maker_tree [v1084, v1085, v1086] w1071.drew fun v1087 w1088 =>
xKeep1 w1088 (.pointer (some (a1000.add 1))) v1083 ∧ (Ret P n_node_Node_SetKid [v1033, v1083, v1062, v1087] w1088 fun v1089 w1090 =>
xCutS 2 (vs1051.getD 0 undef) (some (vs1065.getD 0 undef)) none none fun v1091 =>
XNext I1049 n1050 [v1091, v1062, (vs1065.getD 0 undef)] w1090))
/- S_canon_maker_tree_l2: 0=slot 1 l 1=slot 10 b 2=slot 11 many -/
def S_canon_maker_tree_l2 (K : Value → World → Prop) (a1000 : Addr) (v1028 : Value) (v1033 : Value) (I1049 : Nat → List Value → World → Prop) (n1050 : Nat) (vs1051 : List Value) (g1052 : Nat → Value) (w1053 : World) : Prop :=
xLen (vs1051.getD 0 undef) fun v1054 =>
xGt v1054 (.int .i64 0) fun v1055 =>
xIf v1055 (xIxS (vs1051.getD 0 undef) (.int .i64 0) 2 fun v1056 =>
xFld v1056 0 fun v1057 =>
xAt v1057 fun a1058 =>
XLd w1053 a1058 fun v1059 =>
xIxS v1059 v1028 1 fun v1060 =>
xAt v1060 fun a1061 =>
XLd w1053 a1061 fun v1062 =>
XLoop [(.int .i64 1)] w1053 (S_canon_maker_tree_l1 a1000 v1028 v1033 I1049 n1050 vs1051 v1062)) (K v1033 w1053)
abbrev S_canon_maker_tree (a0 : Value) (a1 : Value) (a2 : Value) (K : Value → World → Prop) (w0 : World) : Prop :=
XNew w0 (cellsV a0) 60 fun a1000 w1001 =>
xLen a1 fun v1002 =>
xEq v1002 (.int .i64 0) fun v1003 =>
xIf v1003 (K (.pointer none) w1001) (xEq v1002 (.int .i64 1) fun v1004 =>
xIf v1004 (XLd w1001.drew (a1000.add 0) fun v1005 =>
XLd w1001.drew (a1000.add 1) fun v1006 =>
xIxS a1 (.int .i64 0) 2 fun v1007 =>
xFld v1007 0 fun v1008 =>
xAt v1008 fun a1009 =>
XLd w1001.drew a1009 fun v1010 =>
xCutS 1 v1010 (some a2) none none fun v1011 =>
xIxS a1 (.int .i64 0) 2 fun v1012 =>
xFld v1012 1 fun v1013 =>
xAt v1013 fun a1014 =>
XLd w1001.drew a1014 fun v1015 =>
Ret P n_node_Leaf [v1005, v1006, v1011, v1015] w1001.drew fun v1016 w1017 =>
K v1016 w1017) (xIxS a1 (.int .i64 0) 2 fun v1018 =>
xFld v1018 0 fun v1019 =>
xAt v1019 fun a1020 =>
XLd w1001 a1020 fun v1021 =>
xLen a1 fun v1022 =>
xSub v1022 (.int .i64 1) fun v1023 =>
xIxS a1 v1023 2 fun v1024 =>
xFld v1024 0 fun v1025 =>
xAt v1025 fun a1026 =>
XLd w1001 a1026 fun v1027 =>
Ret P n_keys_Common [v1021, v1027] w1001 fun v1028 w1029 =>
XLd w1029.drew (a1000.add 0) fun v1030 =>
XLd w1029.drew (a1000.add 1) fun v1031 =>
xCutS 1 v1021 (some a2) (some v1028) none fun v1032 =>
Ret P n_node_Inner [v1030, v1031, v1032] w1029.drew fun v1033 w1034 =>
/- 0 l -/ XJ (fun J1035 =>
xLen v1021 fun v1039 =>
xEq v1039 v1028 fun v1040 =>
xIf v1040 (XLd w1034.drew (a1000.add 1) fun v1041 =>
xIxS a1 (.int .i64 0) 2 fun v1042 =>
xFld v1042 1 fun v1043 =>
xAt v1043 fun a1044 =>
XLd w1034.drew a1044 fun v1045 =>
Ret P n_node_Node_SetVal [v1033, v1041, v1045] w1034.drew fun v1046 w1047 =>
xCutS 2 a1 (some (.int .i64 1)) none none fun v1048 =>
J1035 [v1048] w1047) (J1035 [a1] w1034)) fun vs1036 g1037 w1038 =>
XLoop [(vs1036.getD 0 undef), undef, undef] w1038 (S_canon_maker_tree_l2 K a1000 v1028 v1033)))
theorem W_canon_maker_tree {a0 a1 a2 : Value} {K : Value → World → Prop} {w : World} (h : S_canon_maker_tree a0 a1 a2 K w) : Ret P n_canon_maker_tree [a0, a1, a2] w K :=
  vcF_of mixed Try.func18 (show S_canon_maker_tree a0 a1 a2 K w = vcF P Try.f18 [a0, a1, a2] w K from by kernel_rfl) h
/- spunyarn/canon.each -/
abbrev S_canon_each (a0 : Value) (a1 : Value) (K : Value → World → Prop) (w0 : World) : Prop :=
XNew w0 (cellsV a1) 66 fun a1000 w1001 =>
XNew w1001 [.nilFunc] 66 fun a1002 w1003 =>
XSt w1003 a1002 (.func (.func 34) #[] #[(.pointer (some a1000)), (.pointer (some a1002))]) fun w1004 =>
XLd w1004 a1002 fun v1005 =>
xFunc v1005 [(.slice none 0 0), a0] fun f1006 xs1007 =>
xCall P f1006 xs1007 w1004 fun v1008 w1009 =>
K (.tuple #[]) w1009
theorem W_canon_each {a0 a1 : Value} {K : Value → World → Prop} {w : World} (h : S_canon_each a0 a1 K w) : Ret P n_canon_each [a0, a1] w K :=
  vcF_of mixed Try.func19 (show S_canon_each a0 a1 K w = vcF P Try.f19 [a0, a1] w K from by kernel_rfl) h
/- spunyarn/canon.List$1 -/
abbrev S_canon_List_1 (a0 : Value) (a1 : Value) (a2 : Value) (K : Value → World → Prop) (w0 : World) : Prop :=
Ret P n_node_Node_Val [a1] w0 fun v1000 w1001 =>
xTup v1000 0 fun v1002 =>
xTup v1000 1 fun v1003 =>
xIf v1003 (xAt a2 fun a1004 =>
XLd w1001.drew a1004 fun v1005 =>
Ret P n_bytes_Clone [a0] w1001.drew fun v1006 w1007 =>
xKeep1 w1007 a2 v1005 ∧ (xFill [(.slice none 0 0), (.int .u64 0)] [(0, 1, v1006), (1, 1, v1002)] fun c1008 =>
xFill (repL [(.slice none 0 0), (.int .u64 0)] 1) [(0, 2, (.agg c1008.toArray))] fun c1009 =>
XNew w1007 c1009 57 fun a1010 w1011 =>
xKeep1 w1011 a2 v1005 ∧ (XRun P (Builtin.append_ #[40, 40] 40 #[v1005, (.slice (some a1010) 1 1)]) w1011 fun v1012 w1013 =>
xAt a2 fun a1015 =>
XSt w1013 a1015 v1012 fun w1014 =>
K (.tuple #[]) w1014))) (K (.tuple #[]) w1001)
theorem W_canon_List_1 {a0 a1 a2 : Value} {K : Value → World → Prop} {w : World} (h : S_canon_List_1 a0 a1 a2 K w) : Ret P n_canon_List_1 [a0, a1, a2] w K :=
  vcF_of mixed Try.func20 (show S_canon_List_1 a0 a1 a2 K w = vcF P Try.f20 [a0, a1, a2] w K from by kernel_rfl) h
/- (*spunyarn/node.Node).Val -/
abbrev S_node_Node_Val (a0 : Value) (K : Value → World → Prop) (w0 : World) : Prop :=
/- 0 -/ XJ (fun J1000 =>
xPEq P w0 a0 (.pointer none) fun v1004 =>
xIf v1004 (J1000 [(.bool true)] w0) (xAt a0 fun a1005 =>
XLd w0 (a1005.add 3) fun v1006 =>
xNot v1006 fun v1007 =>
J1000 [v1007] w0)) fun vs1001 g1002 w1003 =>
xIf (vs1001.getD 0 undef) (K (.tuple #[(.int .u64 0), (.bool false)]) w1003) (xAt a0 fun a1008 =>
XLd w1003 (a1008.add 2) fun v1009 =>
K (.tuple #[v1009, (.bool true)]) w1003)
theorem W_node_Node_Val {a0 : Value} {K : Value → World → Prop} {w : World} (h : S_node_Node_Val a0 K w) : Ret P n_node_Node_Val [a0] w K :=
  vcF_of mixed Try.func21 (show S_node_Node_Val a0 K w = vcF P Try.f21 [a0] w K from by kernel_rfl) h
/- bytes.Clone -/
abbrev S_bytes_Clone (a0 : Value) (K : Value → World → Prop) (w0 : World) : Prop :=
xLEq a0 (.slice none 0 0) fun v1000 =>
xIf v1000 (K (.slice none 0 0) w0) (xFill (repL [(.int .u8 0)] 0) [] fun c1001 =>
XNew w0 c1001 5 fun a1002 w1003 =>
XRun P (Builtin.append_ #[44, 44] 44 #[(.slice (some a1002) 0 0), a0]) w1003 fun v1004 w1005 =>
K v1004 w1005)
theorem W_bytes_Clone {a0 : Value} {K : Value → World → Prop} {w : World} (h : S_bytes_Clone a0 K w) : Ret P n_bytes_Clone [a0] w K :=
  vcF_of mixed Try.func22 (show S_bytes_Clone a0 K w = vcF P Try.f22 [a0] w K from by kernel_rfl) h
/- spunyarn/spunyarnref13.build -/
/- S_ref13_build_l1: 0=slot 8 j -/
def S_ref13_build_l1 (a0 : Value) (v1021 : Value) (a1029 : Addr) (I1048 : Nat → List Value → World → Prop) (n1049 : Nat) (vs1050 : List Value) (I1055 : Nat → List Value → World → Prop) (n1056 : Nat) (vs1057 : List Value) (g1058 : Nat → Value) (w1059 : World) : Prop :=
/- 0 -/ XJ (fun J1060 =>
xLen a0 fun v1064 =>
xLt (vs1057.getD 0 undef) v1064 fun v1065 =>
xIf v1065 (xIxS a0 (vs1057.getD 0 undef) 2 fun v1066 =>
xFld v1066 0 fun v1067 =>
xAt v1067 fun a1068 =>
XLd w1059.drew a1068 fun v1069 =>
xIxS v1069 v1021 1 fun v1070 =>
xAt v1070 fun a1071 =>
XLd w1059.drew a1071 fun v1072 =>
xIxS a0 (vs1050.getD 0 undef) 2 fun v1073 =>
xFld v1073 0 fun v1074 =>
xAt v1074 fun a1075 =>
XLd w1059.drew a1075 fun v1076 =>
xIxS v1076 v1021 1 fun v1077 =>
xAt v1077 fun a1078 =>
XLd w1059.drew a1078 fun v1079 =>
xEq v1072 v1079 fun v1080 =>
J1060 [v1080] (w1059.drew)) (J1060 [(.bool false)] (w1059.drew))) fun vs1061 g1062 w1063 =>
xIf (vs1061.getD 0 undef) (xAdd (vs1057.getD 0 undef) (.int .i64 1) fun v1081 =>
XNext I1055 n1056 [v1081] w1063) (XLd w1063.drew (a1029.add 4) fun v1082 =>
xIxS a0 (vs1050.getD 0 undef) 2 fun v1083 =>
xFld v1083 0 fun v1084 =>
xAt v1084 fun a1085 =>
XLd w1063.drew a1085 fun v1086 =>
xIxS v1086 v1021 1 fun v1087 =>
xAt v1087 fun a1088 =>
XLd w1063.drew a1088 fun v1089 =>
xFill (repL [(.int .u8 0)] 1) [(0, 1, v1089)] fun c1090 =>
XNew w1063.drew c1090 5 fun a1091 w1092 =>
xKeep1 w1092 (.pointer (some (a1029.add 4))) v1082 ∧ (XRun P (Builtin.append_ #[44, 44] 44 #[v1082, (.slice (some a1091) 1 1)]) w1092 fun v1093 w1094 =>
XSt w1094 (a1029.add 4) v1093 fun w1095 =>
XLd w1095.drew (a1029.add 5) fun v1096 =>
xCutS 2 a0 (some (vs1050.getD 0 undef)) (some (vs1057.getD 0 undef)) none fun v1097 =>
xAdd v1021 (.int .i64 1) fun v1098 =>
Ret P n_ref13_build [v1097, v1098] w1095.drew fun v1099 w1100 =>
xKeep1 w1100 (.pointer (some (a1029.add 5))) v1096 ∧ (xFill (repL [(.int .i64 0), (.slice none 0 0), (.bool false), (.int .u64 0), (.slice none 0 0), (.slice none 0 0)] 1) [(0, 6, v1099)] fun c1101 =>
XNew w1100 c1101 47 fun a1102 w1103 =>
xKeep1 w1103 (.pointer (some (a1029.add 5))) v1096 ∧ (XRun P (Builtin.append_ #[45, 45] 45 #[v1096, (.slice (some a1102) 1 1)]) w1103 fun v1104 w1105 =>
XSt w1105 (a1029.add 5) v1104 fun w1106 =>
XNext I1048 n1049 [(vs1057.getD 0 undef), (vs1057.getD 0 undef)] w1106))))
/- S_ref13_build_l2: 0=slot 7 i 1=slot 8 j -/
def S_ref13_build_l2 (K : Value → World → Prop) (a0 : Value) (a1000 : Addr) (v1021 : Value) (a1029 : Addr) (I1048 : Nat → List Value → World → Prop) (n1049 : Nat) (vs1050 : List Value) (g1051 : Nat → Value) (w1052 : World) : Prop :=
xLen a0 fun v1053 =>
xLt (vs1050.getD 0 undef) v1053 fun v1054 =>
xIf v1054 (XLoop [(vs1050.getD 0 undef)] w1052 (S_ref13_build_l1 a0 v1021 a1029 I1048 n1049 vs1050)) (XLd w1052 (a1029.add 5) fun v1107 =>
xLen v1107 fun v1108 =>
Ret P n_ref11_KindOf [v1108] w1052 fun v1109 w1110 =>
XSt w1110 (a1029.add 0) v1109 fun w1111 =>
XLdN w1111 a1029 6 fun v1112 =>
XDo P (storeVar 47 a1000 v1112) w1111 fun w1113 =>
XLdN w1113 a1000 6 fun v1114 =>
K v1114 w1113)
abbrev S_ref13_build (a0 : Value) (a1 : Value) (K : Value → World → Prop) (w0 : World) : Prop :=
XNew w0 [(.int .i64 0), (.slice none 0 0), (.bool false), (.int .u64 0), (.slice none 0 0), (.slice none 0 0)] 47 fun a1000 w1001 =>
xLen a0 fun v1002 =>
xEq v1002 (.int .i64 0) fun v1003 =>
xIf v1003 (xFill [(.int .i64 0), (.slice none 0 0), (.bool false), (.int .u64 0), (.slice none 0 0), (.slice none 0 0)] [] fun c1004 =>
XDo P (storeVar 47 a1000 (.agg c1004.toArray)) w1001 fun w1005 =>
XLdN w1005 a1000 6 fun v1006 =>
K v1006 w1005) (xLen a0 fun v1007 =>
xEq v1007 (.int .i64 1) fun v1008 =>
xIf v1008 (xIxS a0 (.int .i64 0) 2 fun v1009 =>
xFld v1009 0 fun v1010 =>
xAt v1010 fun a1011 =>
XLd w1001.drew a1011 fun v1012 =>
xCutS 1 v1012 (some a1) none none fun v1013 =>
xIxS a0 (.int .i64 0) 2 fun v1014 =>
xFld v1014 1 fun v1015 =>
xAt v1015 fun a1016 =>
XLd w1001.drew a1016 fun v1017 =>
xFill [(.int .i64 0), (.slice none 0 0), (.bool false), (.int .u64 0), (.slice none 0 0), (.slice none 0 0)] [(0, 1, (.int .i64 1)), (1, 1, v1013), (2, 1, (.bool true)), (3, 1, v1017)] fun c1018 =>
XDo P (storeVar 47 a1000 (.agg c1018.toArray)) w1001.drew fun w1019 =>
XLdN w1019 a1000 6 fun v1020 =>
K v1020 w1019) (Ret P n_ref13_shared [a0] w1001 fun v1021 w1022 =>
xIxS a0 (.int .i64 0) 2 fun v1023 =>
xFld v1023 0 fun v1024 =>
xAt v1024 fun a1025 =>
XLd w1022 a1025 fun v1026 =>
xCutS 1 v1026 (some a1) (some v1021) none fun v1027 =>
xFill [(.int .i64 0), (.slice none 0 0), (.bool false), (.int .u64 0), (.slice none 0 0), (.slice none 0 0)] [(1, 1, v1027)] fun c1028 =>
XNew w1022 [(.int .i64 0), (.slice none 0 0), (.bool false), (.int .u64 0), (.slice none 0 0), (.slice none 0 0)] 47 fun a1029 w1030 =>
XDo P (storeVar 47 a1029 (.agg c1028.toArray)) w1030 fun w1031 =>
/- 0 i -/ XJ (fun J1032 =>
xIxS a0 (.int .i64 0) 2 fun v1036 =>
xFld v1036 0 fun v1037 =>
xAt v1037 fun a1038 =>
XLd w1031 a1038 fun v1039 =>
xLen v1039 fun v1040 =>
xEq v1040 v1021 fun v1041 =>
xIf v1041 (xIxS a0 (.int .i64 0) 2 fun v1042 =>
xFld v1042 1 fun v1043 =>
xAt v1043 fun a1044 =>
XLd w1031.drew a1044 fun v1045 =>
XSt w1031.drew (a1029.add 2) (.bool true) fun w1046 =>
xKeep1 w1046 v1043 v1045 ∧ (XSt w1046 (a1029.add 3) v1045 fun w1047 =>
J1032 [(.int .i64 1)] w1047)) (J1032 [(.int .i64 0)] w1031)) fun vs1033 g1034 w1035 =>
XLoop [(vs1033.getD 0 undef), undef] w1035 (S_ref13_build_l2 K a0 a1000 v1021 a1029)))
theorem W_ref13_build {a0 a1 : Value} {K : Value → World → Prop} {w : World} (h : S_ref13_build a0 a1 K w) : Ret P n_ref13_build [a0, a1] w K :=
  vcF_of mixed Try.func23 (show S_ref13_build a0 a1 K w = vcF P Try.f23 [a0, a1] w K from by kernel_rfl) h
/- (*sync/atomic.Int64).Load -/
abbrev S_atomic_Int64_Load (a0 : Value) (K : Value → World → Prop) (w0 : World) : Prop :=
xAt a0 fun a1000 =>
xCall P 40 [(.pointer (some (a1000.add 0)))] w0 fun v1001 w1002 =>
K v1001 w1002
theorem W_atomic_Int64_Load {a0 : Value} {K : Value → World → Prop} {w : World} (h : S_atomic_Int64_Load a0 K w) : Ret P n_atomic_Int64_Load [a0] w K :=
  vcF_of mixed Try.func25 (show S_atomic_Int64_Load a0 K w = vcF P Try.f25 [a0] w K from by kernel_rfl) h
/- spunyarn/spunyarnref01.Common -/
/- S_ref01_Common_l1: 0=slot 5 n -/
def S_ref01_Common_l1 (K : Value → World → Prop) (a0 : Value) (a1 : Value) (I1000 : Nat → List Value → World → Prop) (n1001 : Nat) (vs1002 : List Value) (g1003 : Nat → Value) (w1004 : World) : Prop :=
/- 0 -/ XJ (fun J1005 =>
xLen a0 fun v1009 =>
xLt (vs1002.getD 0 undef) v1009 fun v1010 =>
xIf v1010 (xLen a1 fun v1011 =>
xLt (vs1002.getD 0 undef) v1011 fun v1012 =>
xIf v1012 (xIxS a0 (vs1002.getD 0 undef) 1 fun v1013 =>
xAt v1013 fun a1014 =>
XLd w1004.drew a1014 fun v1015 =>
xIxS a1 (vs1002.getD 0 undef) 1 fun v1016 =>
xAt v1016 fun a1017 =>
XLd w1004.drew a1017 fun v1018 =>
xEq v1015 v1018 fun v1019 =>
J1005 [v1019] (w1004.drew)) (J1005 [(.bool false)] (w1004.drew))) (J1005 [(.bool false)] (w1004.drew))) fun vs1006 g1007 w1008 =>
xIf (vs1006.getD 0 undef) (xAdd (vs1002.getD 0 undef) (.int .i64 1) fun v1020 =>
XNext I1000 n1001 [v1020] w1008) (K (vs1002.getD 0 undef) w1008)
abbrev S_ref01_Common (a0 : Value) (a1 : Value) (K : Value → World → Prop) (w0 : World) : Prop :=
XLoop [(.int .i64 0)] w0 (S_ref01_Common_l1 K a0 a1)
theorem W_ref01_Common {a0 a1 : Value} {K : Value → World → Prop} {w : World} (h : S_ref01_Common a0 a1 K w) : Ret P n_ref01_Common [a0, a1] w K :=
  vcF_of mixed Try.func26 (show S_ref01_Common a0 a1 K w = vcF P Try.f26 [a0, a1] w K from by kernel_rfl) h
/- spunyarn/keys.May -/
abbrev S_keys_May (a0 : Value) (K : Value → World → Prop) (w0 : World) : Prop :=
xLen a0 fun v1000 =>
xGt v1000 (.int .i64 65535) fun v1001 =>
xIf v1001 (K (.int .i64 8) w0) (K (.int .i64 0) w0)
theorem W_keys_May {a0 : Value} {K : Value → World → Prop} {w : World} (h : S_keys_May a0 K w) : Ret P n_keys_May [a0] w K :=
  vcF_of mixed Try.func27 (show S_keys_May a0 K w = vcF P Try.f27 [a0] w K from by kernel_rfl) h
/- spunyarn/keys.Sorted -/
/- S_keys_Sorted_l1: 0=slot 3 i 1=slot 2 -/
def S_keys_Sorted_l1 (K : Value → World → Prop) (a0 : Value) (I1000 : Nat → List Value → World → Prop) (n1001 : Nat) (vs1002 : List Value) (g1003 : Nat → Value) (w1004 : World) : Prop :=
xLen a0 fun v1005 =>
xLt (vs1002.getD 0 undef) v1005 fun v1006 =>
xIf v1006 (xSub (vs1002.getD 0 undef) (.int .i64 1) fun v1007 =>
xIxS a0 v1007 2 fun v1008 =>
xFld v1008 0 fun v1009 =>
xAt v1009 fun a1010 =>
XLd w1004.drew a1010 fun v1011 =>
xIxS a0 (vs1002.getD 0 undef) 2 fun v1012 =>
xFld v1012 0 fun v1013 =>
xAt v1013 fun a1014 =>
XLd w1004.drew a1014 fun v1015 =>
Ret P n_keys_Cmp [v1011, v1015] w1004.drew fun v1016 w1017 =>
xGe v1016 (.int .i64 0) fun v1018 =>
xIf v1018 (K (.bool false) w1017) (xAdd (vs1002.getD 0 undef) (.int .i64 1) fun v1019 =>
XNext I1000 n1001 [v1019, (vs1002.getD 1 undef)] w1017)) (K (.bool true) w1004)
abbrev S_keys_Sorted (a0 : Value) (K : Value → World → Prop) (w0 : World) : Prop :=
XLoop [(.int .i64 1), (.bool false)] w0 (S_keys_Sorted_l1 K a0)
theorem W_keys_Sorted {a0 : Value} {K : Value → World → Prop} {w : World} (h : S_keys_Sorted a0 K w) : Ret P n_keys_Sorted [a0] w K :=
  vcF_of mixed Try.func28 (show S_keys_Sorted a0 K w = vcF P Try.f28 [a0] w K from by kernel_rfl) h
/- spunyarn/node.Leaf -/
abbrev S_node_Leaf (a0 : Value) (a1 : Value) (a2 : Value) (a3 : Value) (K : Value → World → Prop) (w0 : World) : Prop :=
Ret P n_meter_Meter_Made [a0, (.int .i64 1)] w0 fun v1000 w1001 =>
Ret P n_bytes_Clone [a2] w1001 fun v1002 w1003 =>
xFill [(.int .u64 0), (.slice none 0 0), (.int .u64 0), (.bool false), (.pointer none)] [(0, 1, a1), (1, 1, v1002), (2, 1, a3), (3, 1, (.bool true))] fun c1004 =>
XNew w1003 (cellsV (.agg c1004.toArray)) 83 fun a1005 w1006 =>
K (.pointer (some a1005)) w1006
theorem W_node_Leaf {a0 a1 a2 a3 : Value} {K : Value → World → Prop} {w : World} (h : S_node_Leaf a0 a1 a2 a3 K w) : Ret P n_node_Leaf [a0, a1, a2, a3] w K :=
  vcF_of mixed Try.func29 (show S_node_Leaf a0 a1 a2 a3 K w = vcF P Try.f29 [a0, a1, a2, a3] w K from by kernel_rfl) h
/- spunyarn/keys.Common -/
/- S_keys_Common_l1: 0=slot 11 1=slot 5 i 2=slot 4 -/
def S_keys_Common_l1 (K : Value → World → Prop) (a0 : Value) (a1 : Value) (v1002 : Value) (I1003 : Nat → List Value → World → Prop) (n1004 : Nat) (vs1005 : List Value) (g1006 : Nat → Value) (w1007 : World) : Prop :=
xLt (vs1005.getD 0 undef) v1002 fun v1008 =>
xIf v1008 (xIxS a0 (vs1005.getD 0 undef) 1 fun v1009 =>
xAt v1009 fun a1010 =>
XLd w1007.drew a1010 fun v1011 =>
xIxS a1 (vs1005.getD 0 undef) 1 fun v1012 =>
xAt v1012 fun a1013 =>
XLd w1007.drew a1013 fun v1014 =>
xNe v1011 v1014 fun v1015 =>
xIf v1015 (K (vs1005.getD 0 undef) (w1007.drew)) (xAdd (vs1005.getD 0 undef) (.int .i64 1) fun v1016 =>
XNext I1003 n1004 [v1016, (vs1005.getD 0 undef), (vs1005.getD 2 undef)] (w1007.drew))) (xLen a0 fun v1017 =>
xLen a1 fun v1018 =>
xMin v1017 v1018 fun v1019 =>
K v1019 w1007)
abbrev S_keys_Common (a0 : Value) (a1 : Value) (K : Value → World → Prop) (w0 : World) : Prop :=
xLen a0 fun v1000 =>
xLen a1 fun v1001 =>
xMin v1000 v1001 fun v1002 =>
XLoop [(.int .i64 0), undef, (.int .i64 0)] w0 (S_keys_Common_l1 K a0 a1 v1002)
theorem W_keys_Common {a0 a1 : Value} {K : Value → World → Prop} {w : World} (h : S_keys_Common a0 a1 K w) : Ret P n_keys_Common [a0, a1] w K :=
  vcF_of mixed Try.func30 (show S_keys_Common a0 a1 K w = vcF P Try.f30 [a0, a1] w K from by kernel_rfl) h
/- spunyarn/node.Inner -/
abbrev S_node_Inner (a0 : Value) (a1 : Value) (a2 : Value) (K : Value → World → Prop) (w0 : World) : Prop :=
Ret P n_meter_Meter_Made [a0, (.int .i64 1)] w0 fun v1000 w1001 =>
Ret P n_bytes_Clone [a2] w1001 fun v1002 w1003 =>
Ret P n_kids_New_Node [] w1003 fun v1004 w1005 =>
xFill [(.int .u64 0), (.slice none 0 0), (.int .u64 0), (.bool false), (.pointer none)] [(0, 1, a1), (1, 1, v1002), (4, 1, v1004)] fun c1006 =>
XNew w1005 (cellsV (.agg c1006.toArray)) 83 fun a1007 w1008 =>
K (.pointer (some a1007)) w1008
theorem W_node_Inner {a0 a1 a2 : Value} {K : Value → World → Prop} {w : World} (h : S_node_Inner a0 a1 a2 K w) : Ret P n_node_Inner [a0, a1, a2] w K :=
  vcF_of mixed Try.func31 (show S_node_Inner a0 a1 a2 K w = vcF P Try.f31 [a0, a1, a2] w K from by kernel_rfl) h
/- (*spunyarn/node.Node).SetVal -/
abbrev S_node_Node_SetVal (a0 : Value) (a1 : Value) (a2 : Value) (K : Value → World → Prop) (w0 : World) : Prop :=
Ret P n_node_Node_may [a0, a1] w0 fun v1000 w1001 =>
/-  -/ XJ (fun J1002 =>
xEq v1000 (.int .i64 0) fun v1006 =>
xIf v1006 (xAt a0 fun a1007 =>
XSt w1001 (a1007.add 2) a2 fun w1008 =>
xAt a0 fun a1009 =>
XSt w1008 (a1009.add 3) (.bool true) fun w1010 =>
J1002 [] w1010) (J1002 [] w1001)) fun vs1003 g1004 w1005 =>
K v1000 w1005
theorem W_node_Node_SetVal {a0 a1 a2 : Value} {K : Value → World → Prop} {w : World} (h : S_node_Node_SetVal a0 a1 a2 K w) : Ret P n_node_Node_SetVal [a0, a1, a2] w K :=
  vcF_of mixed Try.func32 (show S_node_Node_SetVal a0 a1 a2 K w = vcF P Try.f32 [a0, a1, a2] w K from by kernel_rfl) h
/- (*spunyarn/node.Node).SetKid -/
abbrev S_node_Node_SetKid (a0 : Value) (a1 : Value) (a2 : Value) (a3 : Value) (K : Value → World → Prop) (w0 : World) : Prop :=
Ret P n_node_Node_inner [a0, a1] w0 fun v1000 w1001 =>
xNe v1000 (.int .i64 0) fun v1002 =>
xIf v1002 (K v1000 w1001) (xPEq P w1001 a3 (.pointer none) fun v1003 =>
xIf v1003 (K (.int .i64 1) w1001) (xAt a0 fun a1004 =>
XLd w1001 (a1004.add 4) fun v1005 =>
Ret P n_kids_Kids_Set [v1005, a2, a3] w1001 fun v1006 w1007 =>
K v1006 w1007))
theorem W_node_Node_SetKid {a0 a1 a2 a3 : Value} {K : Value → World → Prop} {w : World} (h : S_node_Node_SetKid a0 a1 a2 a3 K w) : Ret P n_node_Node_SetKid [a0, a1, a2, a3] w K :=
  vcF_of mixed Try.func33 (show S_node_Node_SetKid a0 a1 a2 a3 K w = vcF P Try.f33 [a0, a1, a2, a3] w K from by kernel_rfl) h
/- spunyarn/canon.each$1 -/
/- S_canon_each_1_l1: 0=slot 7 k 1=slot 6 b -/
def S_canon_each_1_l1 (K : Value → World → Prop) (a1 : Value) (a3 : Value) (v1003 : Value) (I1015 : Nat → List Value → World → Prop) (n1016 : Nat) (vs1017 : List Value) (g1018 : Nat → Value) (w1019 : World) : Prop :=
xPNe P w1019 (vs1017.getD 0 undef) (.pointer none) fun v1020 =>
xIf v1020 (xAt a3 fun a1021 =>
XLd w1019.drew a1021 fun v1022 =>
xFill (repL [(.int .u8 0)] 1) [(0, 1, (vs1017.getD 1 undef))] fun c1023 =>
XNew w1019.drew c1023 5 fun a1024 w1025 =>
xKeep1 w1025 a3 v1022 ∧ (XRun P (Builtin.append_ #[44, 44] 44 #[v1003, (.slice (some a1024) 1 1)]) w1025 fun v1026 w1027 =>
xKeep1 w1027 a3 v1022 ∧ (xFunc v1022 [v1026, (vs1017.getD 0 undef)] fun f1028 xs1029 =>
xCall P f1028 xs1029 w1027 fun v1030 w1031 =>
xConv .i64 (vs1017.getD 1 undef) fun v1032 =>
xAdd v1032 (.int .i64 1) fun v1033 =>
Ret P n_node_Node_Next [a1, v1033] w1031 fun v1034 w1035 =>
xTup v1034 0 fun v1036 =>
xTup v1034 1 fun v1037 =>
XNext I1015 n1016 [v1037, v1036] w1035))) (K (.tuple #[]) w1019)
abbrev S_canon_each_1 (a0 : Value) (a1 : Value) (a2 : Value) (a3 : Value) (K : Value → World → Prop) (w0 : World) : Prop :=
xPEq P w0 a1 (.pointer none) fun v1000 =>
xIf v1000 (K (.tuple #[]) w0) (Ret P n_node_Node_Part [a1] w0 fun v1001 w1002 =>
XRun P (Builtin.append_ #[44, 44] 44 #[a0, v1001]) w1002 fun v1003 w1004 =>
xAt a2 fun a1005 =>
XLd w1004 a1005 fun v1006 =>
xFunc v1006 [v1003, a1] fun f1007 xs1008 =>
xCall P f1007 xs1008 w1004 fun v1009 w1010 =>
Ret P n_node_Node_Next [a1, (.int .i64 0)] w1010 fun v1011 w1012 =>
xTup v1011 0 fun v1013 =>
xTup v1011 1 fun v1014 =>
XLoop [v1014, v1013] w1012 (S_canon_each_1_l1 K a1 a3 v1003))
theorem W_canon_each_1 {a0 a1 a2 a3 : Value} {K : Value → World → Prop} {w : World} (h : S_canon_each_1 a0 a1 a2 a3 K w) : Ret P n_canon_each_1 [a0, a1, a2, a3] w K :=
  vcF_of mixed Try.func34 (show S_canon_each_1 a0 a1 a2 a3 K w = vcF P Try.f34 [a0, a1, a2, a3] w K from by kernel_rfl) h
/- (*spunyarn/node.Node).Part -/
abbrev S_node_Node_Part (a0 : Value) (K : Value → World → Prop) (w0 : World) : Prop :=
xPEq P w0 a0 (.pointer none) fun v1000 =>
xIf v1000 (K (.slice none 0 0) w0) (xAt a0 fun a1001 =>
XLd w0 (a1001.add 1) fun v1002 =>
xLen v1002 fun v1003 =>
XRun P (Instr.makeSlice 44 v1003 v1003) w0 fun v1004 w1005 =>
xAt a0 fun a1006 =>
XLd w1005 (a1006.add 1) fun v1007 =>
XRun P (Builtin.copy_ #[44, 44] 3 #[v1004, v1007]) w1005 fun v1008 w1009 =>
K v1004 w1009)
theorem W_node_Node_Part {a0 : Value} {K : Value → World → Prop} {w : World} (h : S_node_Node_Part a0 K w) : Ret P n_node_Node_Part [a0] w K :=
  vcF_of mixed Try.func35 (show S_node_Node_Part a0 K w = vcF P Try.f35 [a0] w K from by kernel_rfl) h
/- (*spunyarn/node.Node).Next -/
abbrev S_node_Node_Next (a0 : Value) (a1 : Value) (K : Value → World → Prop) (w0 : World) : Prop :=
xPEq P w0 a0 (.pointer none) fun v1000 =>
xIf v1000 (K (.tuple #[(.int .u8 0), (.pointer none)]) w0) (xAt a0 fun a1001 =>
XLd w0 (a1001.add 4) fun v1002 =>
Ret P n_kids_Kids_Next [v1002, a1] w0 fun v1003 w1004 =>
xTup v1003 0 fun v1005 =>
xTup v1003 1 fun v1006 =>
xTup v1003 2 fun v1007 =>
K (.tuple #[v1005, v1006]) w1004)
theorem W_node_Node_Next {a0 a1 : Value} {K : Value → World → Prop} {w : World} (h : S_node_Node_Next a0 a1 K w) : Ret P n_node_Node_Next [a0, a1] w K :=
  vcF_of mixed Try.func36 (show S_node_Node_Next a0 a1 K w = vcF P Try.f36 [a0, a1] w K from by kernel_rfl) h
/- spunyarn/spunyarnref13.shared -/
/- S_ref13_shared_l1: 0=slot 4 i 1=slot 3 n -/
def S_ref13_shared_l1 (K : Value → World → Prop) (a0 : Value) (I1005 : Nat → List Value → World → Prop) (n1006 : Nat) (vs1007 : List Value) (g1008 : Nat → Value) (w1009 : World) : Prop :=
xLen a0 fun v1010 =>
xLt (vs1007.getD 0 undef) v1010 fun v1011 =>
xIf v1011 (xIxS a0 (.int .i64 0) 2 fun v1012 =>
xFld v1012 0 fun v1013 =>
xAt v1013 fun a1014 =>
XLd w1009.drew a1014 fun v1015 =>
xIxS a0 (vs1007.getD 0 undef) 2 fun v1016 =>
xFld v1016 0 fun v1017 =>
xAt v1017 fun a1018 =>
XLd w1009.drew a1018 fun v1019 =>
Ret P n_ref01_Common [v1015, v1019] w1009.drew fun v1020 w1021 =>
xMin (vs1007.getD 1 undef) v1020 fun v1022 =>
xAdd (vs1007.getD 0 undef) (.int .i64 1) fun v1023 =>
XNext I1005 n1006 [v1023, v1022] w1021) (K (vs1007.getD 1 undef) w1009)
abbrev S_ref13_shared (a0 : Value) (K : Value → World → Prop) (w0 : World) : Prop :=
xIxS a0 (.int .i64 0) 2 fun v1000 =>
xFld v1000 0 fun v1001 =>
xAt v1001 fun a1002 =>
XLd w0 a1002 fun v1003 =>
xLen v1003 fun v1004 =>
XLoop [(.int .i64 1), v1004] w0 (S_ref13_shared_l1 K a0)
theorem W_ref13_shared {a0 : Value} {K : Value → World → Prop} {w : World} (h : S_ref13_shared a0 K w) : Ret P n_ref13_shared [a0] w K :=
  vcF_of mixed Try.func37 (show S_ref13_shared a0 K w = vcF P Try.f37 [a0] w K from by kernel_rfl) h
/- spunyarn/spunyarnref11.KindOf -/
abbrev S_ref11_KindOf (a0 : Value) (K : Value → World → Prop) (w0 : World) : Prop :=
/- 0 -/ XJ (fun J1000 =>
xLt a0 (.int .i64 0) fun v1004 =>
xIf v1004 (J1000 [(.bool true)] w0) (xGt a0 (.int .i64 256) fun v1005 =>
J1000 [v1005] w0)) fun vs1001 g1002 w1003 =>
xIf (vs1001.getD 0 undef) (K (.int .i64 0) w1003) (xLe a0 (.int .i64 4) fun v1006 =>
xIf v1006 (K (.int .i64 4) w1003) (xLe a0 (.int .i64 16) fun v1007 =>
xIf v1007 (K (.int .i64 16) w1003) (xLe a0 (.int .i64 48) fun v1008 =>
xIf v1008 (K (.int .i64 48) w1003) (K (.int .i64 256) w1003))))
theorem W_ref11_KindOf {a0 : Value} {K : Value → World → Prop} {w : World} (h : S_ref11_KindOf a0 K w) : Ret P n_ref11_KindOf [a0] w K :=
  vcF_of mixed Try.func38 (show S_ref11_KindOf a0 K w = vcF P Try.f38 [a0] w K from by kernel_rfl) h
/- spunyarn/keys.Cmp -/
abbrev S_keys_Cmp (a0 : Value) (a1 : Value) (K : Value → World → Prop) (w0 : World) : Prop :=
Ret P n_bytes_Compare [a0, a1] w0 fun v1000 w1001 =>
K v1000 w1001
theorem W_keys_Cmp {a0 a1 : Value} {K : Value → World → Prop} {w : World} (h : S_keys_Cmp a0 a1 K w) : Ret P n_keys_Cmp [a0, a1] w K :=
  vcF_of mixed Try.func41 (show S_keys_Cmp a0 a1 K w = vcF P Try.f41 [a0, a1] w K from by kernel_rfl) h
/- (*spunyarn/meter.Meter).Made -/
abbrev S_meter_Meter_Made (a0 : Value) (a1 : Value) (K : Value → World → Prop) (w0 : World) : Prop :=
/- 0 -/ XJ (fun J1000 =>
xPNe P w0 a0 (.pointer none) fun v1004 =>
xIf v1004 (xGt a1 (.int .i64 0) fun v1005 =>
J1000 [v1005] w0) (J1000 [(.bool false)] w0)) fun vs1001 g1002 w1003 =>
xIf (vs1001.getD 0 undef) (xAt a0 fun a1006 =>
Ret P n_atomic_Int64_Add [(.pointer (some (a1006.add 0))), a1] w1003 fun v1007 w1008 =>
K (.tuple #[]) w1008) (K (.tuple #[]) w1003)
theorem W_meter_Meter_Made {a0 a1 : Value} {K : Value → World → Prop} {w : World} (h : S_meter_Meter_Made a0 a1 K w) : Ret P n_meter_Meter_Made [a0, a1] w K :=
  vcF_of mixed Try.func42 (show S_meter_Meter_Made a0 a1 K w = vcF P Try.f42 [a0, a1] w K from by kernel_rfl) h
/- spunyarn/kids.New[*spunyarn/node.Node] -/
abbrev S_kids_New_Node  (K : Value → World → Prop) (w0 : World) : Prop :=
Ret P n_kids_room_Node [(.int .i64 4)] w0 fun v1000 w1001 =>
K v1000 w1001
theorem W_kids_New_Node {K : Value → World → Prop} {w : World} (h : S_kids_New_Node  K w) : Ret P n_kids_New_Node [] w K :=
  vcF_of mixed Try.func43 (show S_kids_New_Node  K w = vcF P Try.f43 [] w K from by kernel_rfl) h
/- (*spunyarn/node.Node).may -/
abbrev S_node_Node_may (a0 : Value) (a1 : Value) (K : Value → World → Prop) (w0 : World) : Prop :=
xPEq P w0 a0 (.pointer none) fun v1000 =>
xIf v1000 (K (.int .i64 2) w0) (/- 0 -/ XJ (fun J1001 =>
xEq a1 (.int .u64 0) fun v1005 =>
xIf v1005 (J1001 [(.bool true)] w0) (xAt a0 fun a1006 =>
XLd w0 (a1006.add 0) fun v1007 =>
xNe a1 v1007 fun v1008 =>
J1001 [v1008] w0)) fun vs1002 g1003 w1004 =>
xIf (vs1002.getD 0 undef) (K (.int .i64 11) w1004) (K (.int .i64 0) w1004))
theorem W_node_Node_may {a0 a1 : Value} {K : Value → World → Prop} {w : World} (h : S_node_Node_may a0 a1 K w) : Ret P n_node_Node_may [a0, a1] w K :=
  vcF_of mixed Try.func44 (show S_node_Node_may a0 a1 K w = vcF P Try.f44 [a0, a1] w K from by kernel_rfl) h
/- (*spunyarn/node.Node).inner -/
abbrev S_node_Node_inner (a0 : Value) (a1 : Value) (K : Value → World → Prop) (w0 : World) : Prop :=
Ret P n_node_Node_may [a0, a1] w0 fun v1000 w1001 =>
/- 0 -/ XJ (fun J1002 =>
xEq v1000 (.int .i64 0) fun v1006 =>
xIf v1006 (Ret P n_node_Node_isLeaf [a0] w1001 fun v1007 w1008 =>
J1002 [v1007] w1008) (J1002 [(.bool false)] w1001)) fun vs1003 g1004 w1005 =>
xIf (vs1003.getD 0 undef) (K (.int .i64 9) w1005) (K v1000 w1005)
theorem W_node_Node_inner {a0 a1 : Value} {K : Value → World → Prop} {w : World} (h : S_node_Node_inner a0 a1 K w) : Ret P n_node_Node_inner [a0, a1] w K :=
  vcF_of mixed Try.func45 (show S_node_Node_inner a0 a1 K w = vcF P Try.f45 [a0, a1] w K from by kernel_rfl) h
/- (*spunyarn/kids.Kids[*spunyarn/node.Node]).Set -/
abbrev S_kids_Kids_Set (a0 : Value) (a1 : Value) (a2 : Value) (K : Value → World → Prop) (w0 : World) : Prop :=
Ret P n_kids_Kids_ok [a0] w0 fun v1000 w1001 =>
xNot v1000 fun v1002 =>
xIf v1002 (K (.int .i64 2) w1001) (/- 0 _ 1 is -/ XJ (fun J1003 =>
Ret P n_kids_Kids_Get [a0, a1] w1001 fun v1007 w1008 =>
xTup v1007 0 fun v1009 =>
xTup v1007 1 fun v1010 =>
/- 0 -/ XJ (fun J1011 =>
xNot v1010 fun v1015 =>
xIf v1015 (Ret P n_kids_Kids_Len [a0] w1008 fun v1016 w1017 =>
Ret P n_kids_Kids_Kind [a0] w1017 fun v1018 w1019 =>
xEq v1016 v1018 fun v1020 =>
J1011 [v1020] w1019) (J1011 [(.bool false)] w1008)) fun vs1012 g1013 w1014 =>
xIf (vs1012.getD 0 undef) (Ret P n_kids_Kids_Len [a0] w1014 fun v1021 w1022 =>
xAdd v1021 (.int .i64 1) fun v1023 =>
Ret P n_kids_KindOf [v1023] w1022 fun v1024 w1025 =>
Ret P n_kids_move_Node [a0, v1024] w1025 fun v1026 w1027 =>
J1003 [v1009, v1010] w1027) (J1003 [v1009, v1010] w1014)) fun vs1004 g1005 w1006 =>
Ret P n_kids_Kids_put [a0, a1, a2] w1006 fun v1028 w1029 =>
K (.int .i64 0) w1029)
theorem W_kids_Kids_Set {a0 a1 a2 : Value} {K : Value → World → Prop} {w : World} (h : S_kids_Kids_Set a0 a1 a2 K w) : Ret P n_kids_Kids_Set [a0, a1, a2] w K :=
  vcF_of mixed Try.func46 (show S_kids_Kids_Set a0 a1 a2 K w = vcF P Try.f46 [a0, a1, a2] w K from by kernel_rfl) h
/- (*spunyarn/kids.Kids[*spunyarn/node.Node]).Next -/
abbrev S_kids_Kids_Next (a0 : Value) (a1 : Value) (K : Value → World → Prop) (w0 : World) : Prop :=
Ret P n_kids_Kids_ok [a0] w0 fun v1000 w1001 =>
xNot v1000 fun v1002 =>
xIf v1002 (K (.tuple #[(.int .u8 0), (.pointer none), (.bool false)]) w1001) (xAt a0 fun a1003 =>
XLd w1001 (a1003.add 0) fun v1004 =>
xPNe P w1001 v1004 (.pointer none) fun v1005 =>
xIf v1005 (xAt a0 fun a1006 =>
XLd w1001 (a1006.add 0) fun v1007 =>
Ret P n_small_Row_Next [v1007, a1] w1001 fun v1008 w1009 =>
xTup v1008 0 fun v1010 =>
xTup v1008 1 fun v1011 =>
xTup v1008 2 fun v1012 =>
K (.tuple #[v1010, v1011, v1012]) w1009) (xAt a0 fun a1013 =>
XLd w1001 (a1013.add 1) fun v1014 =>
Ret P n_wide_Board_Next [v1014, a1] w1001 fun v1015 w1016 =>
xTup v1015 0 fun v1017 =>
xTup v1015 1 fun v1018 =>
xTup v1015 2 fun v1019 =>
K (.tuple #[v1017, v1018, v1019]) w1016))
theorem W_kids_Kids_Next {a0 a1 : Value} {K : Value → World → Prop} {w : World} (h : S_kids_Kids_Next a0 a1 K w) : Ret P n_kids_Kids_Next [a0, a1] w K :=
  vcF_of mixed Try.func47 (show S_kids_Kids_Next a0 a1 K w = vcF P Try.f47 [a0, a1] w K from by kernel_rfl) h
/- (*spunyarn/node.Node).Kind -/
abbrev S_node_Node_Kind (a0 : Value) (K : Value → World → Prop) (w0 : World) : Prop :=
xPEq P w0 a0 (.pointer none) fun v1000 =>
xIf v1000 (K (.int .i64 0) w0) (Ret P n_node_Node_isLeaf [a0] w0 fun v1001 w1002 =>
xIf v1001 (K (.int .i64 1) w1002) (xAt a0 fun a1003 =>
XLd w1002 (a1003.add 4) fun v1004 =>
Ret P n_kids_Kids_Kind [v1004] w1002 fun v1005 w1006 =>
K v1005 w1006))
theorem W_node_Node_Kind {a0 : Value} {K : Value → World → Prop} {w : World} (h : S_node_Node_Kind a0 K w) : Ret P n_node_Node_Kind [a0] w K :=
  vcF_of mixed Try.func48 (show S_node_Node_Kind a0 K w = vcF P Try.f48 [a0] w K from by kernel_rfl) h
/- (*spunyarn/node.Node).Len -/
abbrev S_node_Node_Len (a0 : Value) (K : Value → World → Prop) (w0 : World) : Prop :=
xPEq P w0 a0 (.pointer none) fun v1000 =>
xIf v1000 (K (.int .i64 0) w0) (xAt a0 fun a1001 =>
XLd w0 (a1001.add 4) fun v1002 =>
Ret P n_kids_Kids_Len [v1002] w0 fun v1003 w1004 =>
K v1003 w1004)
theorem W_node_Node_Len {a0 : Value} {K : Value → World → Prop} {w : World} (h : S_node_Node_Len a0 K w) : Ret P n_node_Node_Len [a0] w K :=
  vcF_of mixed Try.func49 (show S_node_Node_Len a0 K w = vcF P Try.f49 [a0] w K from by kernel_rfl) h
/- spunyarn/keys.Same -/
abbrev S_keys_Same (a0 : Value) (a1 : Value) (K : Value → World → Prop) (w0 : World) : Prop :=
Ret P n_bytes_Equal [a0, a1] w0 fun v1000 w1001 =>
K v1000 w1001
theorem W_keys_Same {a0 a1 : Value} {K : Value → World → Prop} {w : World} (h : S_keys_Same a0 a1 K w) : Ret P n_keys_Same [a0, a1] w K :=
  vcF_of mixed Try.func50 (show S_keys_Same a0 a1 K w = vcF P Try.f50 [a0, a1] w K from by kernel_rfl) h
/- bytes.Compare -/
abbrev S_bytes_Compare (a0 : Value) (a1 : Value) (K : Value → World → Prop) (w0 : World) : Prop :=
xCall P 65 [a0, a1] w0 fun v1000 w1001 =>
K v1000 w1001
theorem W_bytes_Compare {a0 a1 : Value} {K : Value → World → Prop} {w : World} (h : S_bytes_Compare a0 a1 K w) : Ret P n_bytes_Compare [a0, a1] w K :=
  vcF_of mixed Try.func51 (show S_bytes_Compare a0 a1 K w = vcF P Try.f51 [a0, a1] w K from by kernel_rfl) h
/- (*sync/atomic.Int64).Add -/
abbrev S_atomic_Int64_Add (a0 : Value) (a1 : Value) (K : Value → World → Prop) (w0 : World) : Prop :=
xAt a0 fun a1000 =>
xCall P 66 [(.pointer (some (a1000.add 0))), a1] w0 fun v1001 w1002 =>
K v1001 w1002
theorem W_atomic_Int64_Add {a0 a1 : Value} {K : Value → World → Prop} {w : World} (h : S_atomic_Int64_Add a0 a1 K w) : Ret P n_atomic_Int64_Add [a0, a1] w K :=
  vcF_of mixed Try.func52 (show S_atomic_Int64_Add a0 a1 K w = vcF P Try.f52 [a0, a1] w K from by kernel_rfl) h
/- spunyarn/kids.room[*spunyarn/node.Node] -/
abbrev S_kids_room_Node (a0 : Value) (K : Value → World → Prop) (w0 : World) : Prop :=
xFill [(.pointer none), (.pointer none)] [] fun c1000 =>
XNew w0 (cellsV (.agg c1000.toArray)) 104 fun a1001 w1002 =>
/-  -/ XJ (fun J1003 =>
xLe a0 (.int .i64 16) fun v1007 =>
xIf v1007 (Ret P n_small_New_Node [a0] w1002 fun v1008 w1009 =>
xTup v1008 0 fun v1010 =>
xTup v1008 1 fun v1011 =>
XSt w1009 (a1001.add 0) v1010 fun w1012 =>
J1003 [] w1012) (Ret P n_wide_New_Node [a0] w1002 fun v1013 w1014 =>
xTup v1013 0 fun v1015 =>
xTup v1013 1 fun v1016 =>
XSt w1014 (a1001.add 1) v1015 fun w1017 =>
J1003 [] w1017)) fun vs1004 g1005 w1006 =>
K (.pointer (some a1001)) w1006
theorem W_kids_room_Node {a0 : Value} {K : Value → World → Prop} {w : World} (h : S_kids_room_Node a0 K w) : Ret P n_kids_room_Node [a0] w K :=
  vcF_of mixed Try.func53 (show S_kids_room_Node a0 K w = vcF P Try.f53 [a0] w K from by kernel_rfl) h
/- (*spunyarn/node.Node).isLeaf -/
abbrev S_node_Node_isLeaf (a0 : Value) (K : Value → World → Prop) (w0 : World) : Prop :=
xAt a0 fun a1000 =>
XLd w0 (a1000.add 4) fun v1001 =>
xPEq P w0 v1001 (.pointer none) fun v1002 =>
K v1002 w0
theorem W_node_Node_isLeaf {a0 : Value} {K : Value → World → Prop} {w : World} (h : S_node_Node_isLeaf a0 K w) : Ret P n_node_Node_isLeaf [a0] w K :=
  vcF_of mixed Try.func54 (show S_node_Node_isLeaf a0 K w = vcF P Try.f54 [a0] w K from by kernel_rfl) h
/- (*spunyarn/kids.Kids[*spunyarn/node.Node]).ok -/
abbrev S_kids_Kids_ok (a0 : Value) (K : Value → World → Prop) (w0 : World) : Prop :=
/- 0 -/ XJ (fun J1000 =>
xPNe P w0 a0 (.pointer none) fun v1004 =>
xIf v1004 (xAt a0 fun a1005 =>
XLd w0 (a1005.add 0) fun v1006 =>
xPNe P w0 v1006 (.pointer none) fun v1007 =>
xIf v1007 (J1000 [(.bool true)] w0) (xAt a0 fun a1008 =>
XLd w0 (a1008.add 1) fun v1009 =>
xPNe P w0 v1009 (.pointer none) fun v1010 =>
J1000 [v1010] w0)) (J1000 [(.bool false)] w0)) fun vs1001 g1002 w1003 =>
K (vs1001.getD 0 undef) w1003
theorem W_kids_Kids_ok {a0 : Value} {K : Value → World → Prop} {w : World} (h : S_kids_Kids_ok a0 K w) : Ret P n_kids_Kids_ok [a0] w K :=
  vcF_of mixed Try.func55 (show S_kids_Kids_ok a0 K w = vcF P Try.f55 [a0] w K from by kernel_rfl) h
/- (*spunyarn/kids.Kids[*spunyarn/node.Node]).Get -/
abbrev S_kids_Kids_Get (a0 : Value) (a1 : Value) (K : Value → World → Prop) (w0 : World) : Prop :=
Ret P n_kids_Kids_ok [a0] w0 fun v1000 w1001 =>
xNot v1000 fun v1002 =>
xIf v1002 (K (.tuple #[(.pointer none), (.bool false)]) w1001) (xAt a0 fun a1003 =>
XLd w1001 (a1003.add 0) fun v1004 =>
xPNe P w1001 v1004 (.pointer none) fun v1005 =>
xIf v1005 (xAt a0 fun a1006 =>
XLd w1001 (a1006.add 0) fun v1007 =>
Ret P n_small_Row_Get [v1007, a1] w1001 fun v1008 w1009 =>
xTup v1008 0 fun v1010 =>
xTup v1008 1 fun v1011 =>
K (.tuple #[v1010, v1011]) w1009) (xAt a0 fun a1012 =>
XLd w1001 (a1012.add 1) fun v1013 =>
Ret P n_wide_Board_Get [v1013, a1] w1001 fun v1014 w1015 =>
xTup v1014 0 fun v1016 =>
xTup v1014 1 fun v1017 =>
K (.tuple #[v1016, v1017]) w1015))
theorem W_kids_Kids_Get {a0 a1 : Value} {K : Value → World → Prop} {w : World} (h : S_kids_Kids_Get a0 a1 K w) : Ret P n_kids_Kids_Get [a0, a1] w K :=
  vcF_of mixed Try.func56 (show S_kids_Kids_Get a0 a1 K w = vcF P Try.f56 [a0, a1] w K from by kernel_rfl) h
/- (*spunyarn/kids.Kids[*spunyarn/node.Node]).Len -/
abbrev S_kids_Kids_Len (a0 : Value) (K : Value → World → Prop) (w0 : World) : Prop :=
Ret P n_kids_Kids_ok [a0] w0 fun v1000 w1001 =>
xNot v1000 fun v1002 =>
xIf v1002 (K (.int .i64 0) w1001) (xAt a0 fun a1003 =>
XLd w1001 (a1003.add 0) fun v1004 =>
xPNe P w1001 v1004 (.pointer none) fun v1005 =>
xIf v1005 (xAt a0 fun a1006 =>
XLd w1001 (a1006.add 0) fun v1007 =>
Ret P n_small_Row_Len [v1007] w1001 fun v1008 w1009 =>
K v1008 w1009) (xAt a0 fun a1010 =>
XLd w1001 (a1010.add 1) fun v1011 =>
Ret P n_wide_Board_Len [v1011] w1001 fun v1012 w1013 =>
K v1012 w1013))
theorem W_kids_Kids_Len {a0 : Value} {K : Value → World → Prop} {w : World} (h : S_kids_Kids_Len a0 K w) : Ret P n_kids_Kids_Len [a0] w K :=
  vcF_of mixed Try.func57 (show S_kids_Kids_Len a0 K w = vcF P Try.f57 [a0] w K from by kernel_rfl) h
/- (*spunyarn/kids.Kids[*spunyarn/node.Node]).Kind -/
abbrev S_kids_Kids_Kind (a0 : Value) (K : Value → World → Prop) (w0 : World) : Prop :=
Ret P n_kids_Kids_ok [a0] w0 fun v1000 w1001 =>
xNot v1000 fun v1002 =>
xIf v1002 (K (.int .i64 0) w1001) (xAt a0 fun a1003 =>
XLd w1001 (a1003.add 0) fun v1004 =>
xPNe P w1001 v1004 (.pointer none) fun v1005 =>
xIf v1005 (xAt a0 fun a1006 =>
XLd w1001 (a1006.add 0) fun v1007 =>
Ret P n_small_Row_Room [v1007] w1001 fun v1008 w1009 =>
K v1008 w1009) (xAt a0 fun a1010 =>
XLd w1001 (a1010.add 1) fun v1011 =>
Ret P n_wide_Board_Room [v1011] w1001 fun v1012 w1013 =>
K v1012 w1013))
theorem W_kids_Kids_Kind {a0 : Value} {K : Value → World → Prop} {w : World} (h : S_kids_Kids_Kind a0 K w) : Ret P n_kids_Kids_Kind [a0] w K :=
  vcF_of mixed Try.func58 (show S_kids_Kids_Kind a0 K w = vcF P Try.f58 [a0] w K from by kernel_rfl) h
/- spunyarn/kids.move[*spunyarn/node.Node] -/
/- S_kids_move_Node_l1: 0=slot 5 at 1=slot 6 b 2=slot 7 x 3=slot 8 is -/
def S_kids_move_Node_l1 (a0 : Value) (v1000 : Value) (J1002 : List Value → World → Prop) (I1006 : Nat → List Value → World → Prop) (n1007 : Nat) (vs1008 : List Value) (g1009 : Nat → Value) (w1010 : World) : Prop :=
xLt (vs1008.getD 0 undef) (.int .i64 256) fun v1011 =>
xIf v1011 (Ret P n_kids_Kids_Next [a0, (vs1008.getD 0 undef)] w1010 fun v1012 w1013 =>
xTup v1012 0 fun v1014 =>
xTup v1012 1 fun v1015 =>
xTup v1012 2 fun v1016 =>
xNot v1016 fun v1017 =>
xIf v1017 (J1002 [(vs1008.getD 0 undef), v1014, v1015, v1016] w1013) (Ret P n_kids_Kids_put [v1000, v1014, v1015] w1013 fun v1018 w1019 =>
xConv .i64 v1014 fun v1020 =>
xAdd v1020 (.int .i64 1) fun v1021 =>
XNext I1006 n1007 [v1021, v1014, v1015, v1016] w1019)) (J1002 [(vs1008.getD 0 undef), (vs1008.getD 1 undef), (vs1008.getD 2 undef), (vs1008.getD 3 undef)] w1010)
abbrev S_kids_move_Node (a0 : Value) (a1 : Value) (K : Value → World → Prop) (w0 : World) : Prop :=
Ret P n_kids_room_Node [a1] w0 fun v1000 w1001 =>
/- 0 at 1 b 2 x 3 is -/ XJ (fun J1002 =>
XLoop [(.int .i64 0), undef, undef, undef] w1001 (S_kids_move_Node_l1 a0 v1000 J1002)) fun vs1003 g1004 w1005 =>
xAt v1000 fun a1022 =>
XLdN w1005 a1022 2 fun v1023 =>
xAt a0 fun a1024 =>
XDo P (storeVar 104 a1024 v1023) w1005 fun w1025 =>
K (.tuple #[]) w1025
theorem W_kids_move_Node {a0 a1 : Value} {K : Value → World → Prop} {w : World} (h : S_kids_move_Node a0 a1 K w) : Ret P n_kids_move_Node [a0, a1] w K :=
  vcF_of mixed Try.func59 (show S_kids_move_Node a0 a1 K w = vcF P Try.f59 [a0, a1] w K from by kernel_rfl) h
/- spunyarn/kids.KindOf -/
/- S_kids_KindOf_l1: 0=slot 8 1=slot 4 kind 2=slot 2 -/
def S_kids_KindOf_l1 (K : Value → World → Prop) (a0 : Value) (c1001 : List Value) (I1002 : Nat → List Value → World → Prop) (n1003 : Nat) (vs1004 : List Value) (g1005 : Nat → Value) (w1006 : World) : Prop :=
xLt (vs1004.getD 0 undef) (.int .i64 4) fun v1007 =>
xIf v1007 (XRun P (Instr.index 110 (.agg c1001.toArray) (vs1004.getD 0 undef)) w1006 fun v1008 w1009 =>
xLe a0 v1008 fun v1010 =>
xIf v1010 (K v1008 w1009) (xAdd (vs1004.getD 0 undef) (.int .i64 1) fun v1011 =>
XNext I1002 n1003 [v1011, v1008, (vs1004.getD 2 undef)] w1009)) (K (.int .i64 0) w1006)
abbrev S_kids_KindOf (a0 : Value) (K : Value → World → Prop) (w0 : World) : Prop :=
xLt a0 (.int .i64 0) fun v1000 =>
xIf v1000 (K (.int .i64 0) w0) (xFill [(.int .i64 0), (.int .i64 0), (.int .i64 0), (.int .i64 0)] [(0, 1, (.int .i64 4)), (1, 1, (.int .i64 16)), (2, 1, (.int .i64 48)), (3, 1, (.int .i64 256))] fun c1001 =>
XLoop [(.int .i64 0), undef, (.int .i64 0)] w0 (S_kids_KindOf_l1 K a0 c1001))
theorem W_kids_KindOf {a0 : Value} {K : Value → World → Prop} {w : World} (h : S_kids_KindOf a0 K w) : Ret P n_kids_KindOf [a0] w K :=
  vcF_of mixed Try.func60 (show S_kids_KindOf a0 K w = vcF P Try.f60 [a0] w K from by kernel_rfl) h
/- (*spunyarn/kids.Kids[*spunyarn/node.Node]).put -/
abbrev S_kids_Kids_put (a0 : Value) (a1 : Value) (a2 : Value) (K : Value → World → Prop) (w0 : World) : Prop :=
xAt a0 fun a1000 =>
XLd w0 (a1000.add 0) fun v1001 =>
xPNe P w0 v1001 (.pointer none) fun v1002 =>
xIf v1002 (xAt a0 fun a1003 =>
XLd w0 (a1003.add 0) fun v1004 =>
Ret P n_small_Row_Set [v1004, a1, a2] w0 fun v1005 w1006 =>
K (.tuple #[]) w1006) (xAt a0 fun a1007 =>
XLd w0 (a1007.add 1) fun v1008 =>
Ret P n_wide_Board_Set [v1008, a1, a2] w0 fun v1009 w1010 =>
K (.tuple #[]) w1010)
theorem W_kids_Kids_put {a0 a1 a2 : Value} {K : Value → World → Prop} {w : World} (h : S_kids_Kids_put a0 a1 a2 K w) : Ret P n_kids_Kids_put [a0, a1, a2] w K :=
  vcF_of mixed Try.func61 (show S_kids_Kids_put a0 a1 a2 K w = vcF P Try.f61 [a0, a1, a2] w K from by kernel_rfl) h
/- (*spunyarn/small.Row[*spunyarn/node.Node]).Next -/
abbrev S_small_Row_Next (a0 : Value) (a1 : Value) (K : Value → World → Prop) (w0 : World) : Prop :=
/- 0 -/ XJ (fun J1000 =>
Ret P n_small_Row_ok [a0] w0 fun v1004 w1005 =>
xNot v1004 fun v1006 =>
xIf v1006 (J1000 [(.bool true)] w1005) (xGt a1 (.int .i64 255) fun v1007 =>
J1000 [v1007] w1005)) fun vs1001 g1002 w1003 =>
xIf (vs1001.getD 0 undef) (K (.tuple #[(.int .u8 0), (.pointer none), (.bool false)]) w1003) (xMax a1 (.int .i64 0) fun v1008 =>
xConv .u8 v1008 fun v1009 =>
Ret P n_small_Row_place [a0, v1009] w1003 fun v1010 w1011 =>
xTup v1010 0 fun v1012 =>
xTup v1010 1 fun v1013 =>
Ret P n_small_Row_at [a0, v1012] w1011 fun v1014 w1015 =>
xTup v1014 0 fun v1016 =>
xTup v1014 1 fun v1017 =>
xTup v1014 2 fun v1018 =>
K (.tuple #[v1016, v1017, v1018]) w1015)
theorem W_small_Row_Next {a0 a1 : Value} {K : Value → World → Prop} {w : World} (h : S_small_Row_Next a0 a1 K w) : Ret P n_small_Row_Next [a0, a1] w K :=
  vcF_of mixed Try.func62 (show S_small_Row_Next a0 a1 K w = vcF P Try.f62 [a0, a1] w K from by kernel_rfl) h
/- (*spunyarn/wide.Board[*spunyarn/node.Node]).Next -/
/- S_wide_Board_Next_l1: 0=slot 7 b 1=slot 8 x 2=slot 9 is 3=slot 4 4=slot 5 5=slot 6 -/
def S_wide_Board_Next_l1 (K : Value → World → Prop) (a0 : Value) (J1000 : List Value → World → Prop) (I1007 : Nat → List Value → World → Prop) (n1008 : Nat) (vs1009 : List Value) (g1010 : Nat → Value) (w1011 : World) : Prop :=
xLt (vs1009.getD 0 undef) (.int .i64 256) fun v1012 =>
xIf v1012 (xConv .u8 (vs1009.getD 0 undef) fun v1013 =>
Ret P n_wide_Board_Get [a0, v1013] w1011 fun v1014 w1015 =>
xTup v1014 0 fun v1016 =>
xTup v1014 1 fun v1017 =>
xIf v1017 (xConv .u8 (vs1009.getD 0 undef) fun v1018 =>
K (.tuple #[v1018, v1016, (.bool true)]) w1015) (xAdd (vs1009.getD 0 undef) (.int .i64 1) fun v1019 =>
XNext I1007 n1008 [v1019, v1016, v1017, (vs1009.getD 3 undef), (vs1009.getD 4 undef), (vs1009.getD 5 undef)] w1015)) (J1000 [(vs1009.getD 0 undef), (vs1009.getD 1 undef), (vs1009.getD 2 undef), (vs1009.getD 3 undef), (vs1009.getD 4 undef), (vs1009.getD 5 undef)] w1011)
abbrev S_wide_Board_Next (a0 : Value) (a1 : Value) (K : Value → World → Prop) (w0 : World) : Prop :=
/- 0 b 1 x 2 is 3 4 5 -/ XJ (fun J1000 =>
Ret P n_wide_Board_ok [a0] w0 fun v1004 w1005 =>
xIf v1004 (xMax a1 (.int .i64 0) fun v1006 =>
XLoop [v1006, undef, undef, (.int .u8 0), (.pointer none), (.bool false)] w1005 (S_wide_Board_Next_l1 K a0 J1000)) (J1000 [undef, undef, undef, (.int .u8 0), (.pointer none), (.bool false)] w1005)) fun vs1001 g1002 w1003 =>
K (.tuple #[(.int .u8 0), (.pointer none), (.bool false)]) w1003
theorem W_wide_Board_Next {a0 a1 : Value} {K : Value → World → Prop} {w : World} (h : S_wide_Board_Next a0 a1 K w) : Ret P n_wide_Board_Next [a0, a1] w K :=
  vcF_of mixed Try.func63 (show S_wide_Board_Next a0 a1 K w = vcF P Try.f63 [a0, a1] w K from by kernel_rfl) h
/- bytes.Equal -/
abbrev S_bytes_Equal (a0 : Value) (a1 : Value) (K : Value → World → Prop) (w0 : World) : Prop :=
XRun P (convert 44 9 a0) w0 fun v1000 w1001 =>
XRun P (convert 44 9 a1) w1001 fun v1002 w1003 =>
xSEq v1000 v1002 fun v1004 =>
K v1004 w1003
theorem W_bytes_Equal {a0 a1 : Value} {K : Value → World → Prop} {w : World} (h : S_bytes_Equal a0 a1 K w) : Ret P n_bytes_Equal [a0, a1] w K :=
  vcF_of mixed Try.func64 (show S_bytes_Equal a0 a1 K w = vcF P Try.f64 [a0, a1] w K from by kernel_rfl) h
/- spunyarn/small.New[*spunyarn/node.Node] -/
abbrev S_small_New_Node (a0 : Value) (K : Value → World → Prop) (w0 : World) : Prop :=
/- 0 -/ XJ (fun J1000 =>
xLt a0 (.int .i64 1) fun v1004 =>
xIf v1004 (J1000 [(.bool true)] w0) (xGt a0 (.int .i64 16) fun v1005 =>
J1000 [v1005] w0)) fun vs1001 g1002 w1003 =>
xIf (vs1001.getD 0 undef) (K (.tuple #[(.pointer none), (.int .i64 1)]) w1003) (xFill z_small_Row [(0, 1, a0)] fun c1006 =>
XNew w1003 (cellsV (.agg c1006.toArray)) 116 fun a1007 w1008 =>
K (.tuple #[(.pointer (some a1007)), (.int .i64 0)]) w1008)
theorem W_small_New_Node {a0 : Value} {K : Value → World → Prop} {w : World} (h : S_small_New_Node a0 K w) : Ret P n_small_New_Node [a0] w K :=
  vcF_of mixed Try.func67 (show S_small_New_Node a0 K w = vcF P Try.f67 [a0] w K from by kernel_rfl) h
/- spunyarn/wide.New[*spunyarn/node.Node] -/
abbrev S_wide_New_Node (a0 : Value) (K : Value → World → Prop) (w0 : World) : Prop :=
/- 0 -/ XJ (fun J1000 =>
xNe a0 (.int .i64 48) fun v1004 =>
xIf v1004 (xNe a0 (.int .i64 256) fun v1005 =>
J1000 [v1005] w0) (J1000 [(.bool false)] w0)) fun vs1001 g1002 w1003 =>
xIf (vs1001.getD 0 undef) (K (.tuple #[(.pointer none), (.int .i64 1)]) w1003) (xFill z_wide_Board [(0, 1, a0)] fun c1006 =>
XNew w1003 (cellsV (.agg c1006.toArray)) 122 fun a1007 w1008 =>
K (.tuple #[(.pointer (some a1007)), (.int .i64 0)]) w1008)
theorem W_wide_New_Node {a0 : Value} {K : Value → World → Prop} {w : World} (h : S_wide_New_Node a0 K w) : Ret P n_wide_New_Node [a0] w K :=
  vcF_of mixed Try.func68 (show S_wide_New_Node a0 K w = vcF P Try.f68 [a0] w K from by kernel_rfl) h
end Go.Proofs.Ytidkkkdlaclolaa
