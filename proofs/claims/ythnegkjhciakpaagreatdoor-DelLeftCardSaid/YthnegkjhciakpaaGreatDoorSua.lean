/-  Written by gen.py for this claim: of each function a form without frames, the same as the engine's condition by reckoning.  -/
import Derived.Test.YthnegkjhciakpaaGreatDoorSN
import Derived.Test.YthnegkjhciakpaaGreatDoorProg
namespace Go.Proofs.YthnegkjhciakpaaGreatDoor
open Go X
set_option linter.unusedVariables false
set_option maxRecDepth 100000
/- spunyarn/union.Pick -/
abbrev S_union_Pick (a0 : Value) (a1 : Value) (a2 : Value) (K : Value → World → Prop) (w0 : World) : Prop :=
Ret P n_union_find [a0] w0 fun v1000 w1001 =>
xTup v1000 0 fun v1002 =>
xTup v1000 1 fun v1003 =>
XNew w1001 [.nilFunc, (.bool false)] 150 fun a1004 w1005 =>
XDo P (storeVar 150 a1004 v1002) w1005 fun w1006 =>
xNe v1003 (.int .i64 0) fun v1007 =>
xIf v1007 (K (.tuple #[(.int .u64 0), v1003]) w1006) (XLd w1006 (a1004.add 0) fun v1008 =>
xFunc v1008 [a1, a2] fun f1009 xs1010 =>
xCall P f1009 xs1010 w1006 fun v1011 w1012 =>
K (.tuple #[v1011, (.int .i64 0)]) w1012)
theorem W_union_Pick {a0 a1 a2 : Value} {K : Value → World → Prop} {w : World} (h : S_union_Pick a0 a1 a2 K w) : Ret P n_union_Pick [a0, a1, a2] w K :=
  vcF_of mixed Tryz.func14 (show S_union_Pick a0 a1 a2 K w = vcF P Tryz.f14 [a0, a1, a2] w K from by kernel_rfl) h
/- spunyarn/spunyarnref24.Pick -/
abbrev S_ref24_Pick (a0 : Value) (a1 : Value) (a2 : Value) (K : Value → World → Prop) (w0 : World) : Prop :=
xEq a0 (.int .i64 1) fun v1000 =>
xIf v1000 (K (.tuple #[a1, (.int .i64 0)]) w0) (xEq a0 (.int .i64 2) fun v1001 =>
xIf v1001 (K (.tuple #[a2, (.int .i64 0)]) w0) (xEq a0 (.int .i64 3) fun v1002 =>
xIf v1002 (xAdd a1 a2 fun v1003 =>
K (.tuple #[v1003, (.int .i64 0)]) w0) (xEq a0 (.int .i64 4) fun v1004 =>
xIf v1004 (xMin a1 a2 fun v1005 =>
K (.tuple #[v1005, (.int .i64 0)]) w0) (xEq a0 (.int .i64 5) fun v1006 =>
xIf v1006 (xMax a1 a2 fun v1007 =>
K (.tuple #[v1007, (.int .i64 0)]) w0) (K (.tuple #[(.int .u64 0), (.int .i64 1)]) w0)))))
theorem W_ref24_Pick {a0 a1 a2 : Value} {K : Value → World → Prop} {w : World} (h : S_ref24_Pick a0 a1 a2 K w) : Ret P n_ref24_Pick [a0, a1, a2] w K :=
  vcF_of mixed Tryz.func15 (show S_ref24_Pick a0 a1 a2 K w = vcF P Tryz.f15 [a0, a1, a2] w K from by kernel_rfl) h
/- spunyarn/union.Of -/
abbrev S_union_Of (a0 : Value) (a1 : Value) (a2 : Value) (a3 : Value) (a4 : Value) (K : Value → World → Prop) (w0 : World) : Prop :=
Ret P n_union_find [a0] w0 fun v1000 w1001 =>
xTup v1000 0 fun v1002 =>
xTup v1000 1 fun v1003 =>
XNew w1001 [.nilFunc, (.bool false)] 150 fun a1004 w1005 =>
XDo P (storeVar 150 a1004 v1002) w1005 fun w1006 =>
/- 0 -/ XJ (fun J1007 =>
xNe v1003 (.int .i64 0) fun v1011 =>
xIf v1011 (J1007 [(.bool true)] w1006) (xEq a3 (.int .u64 0) fun v1012 =>
J1007 [v1012] w1006)) fun vs1008 g1009 w1010 =>
xIf (vs1008.getD 0 undef) (K (.tuple #[(.pointer none), (.int .i64 1)]) w1010) (XLdN w1010 a1004 2 fun v1013 =>
xFill [.nilFunc, (.bool false), (.int .u64 0), (.pointer none)] [(0, 2, v1013), (2, 1, a3), (3, 1, a4)] fun c1014 =>
xFill [(.pointer none), (.int .i64 0)] [(0, 1, a1)] fun c1015 =>
xFill [(.pointer none), (.int .i64 0)] [(0, 1, a2)] fun c1016 =>
Ret P n_union_joiner_of [(.agg c1014.toArray), (.agg c1015.toArray), (.agg c1016.toArray)] w1010 fun v1017 w1018 =>
K (.tuple #[v1017, (.int .i64 0)]) w1018)
theorem W_union_Of {a0 a1 a2 a3 a4 : Value} {K : Value → World → Prop} {w : World} (h : S_union_Of a0 a1 a2 a3 a4 K w) : Ret P n_union_Of [a0, a1, a2, a3, a4] w K :=
  vcF_of mixed Tryz.func16 (show S_union_Of a0 a1 a2 a3 a4 K w = vcF P Tryz.f16 [a0, a1, a2, a3, a4] w K from by kernel_rfl) h
/- spunyarn/spunyarnref24.Union -/
/- S_ref24_Union_l1: 0=slot 8 i 1=slot 9 v 2=slot 10 w 3=slot 11 has 4=slot 7 out -/
def S_ref24_Union_l1 (K : Value → World → Prop) (a0 : Value) (a1 : Value) (a2 : Value) (I1002 : Nat → List Value → World → Prop) (n1003 : Nat) (vs1004 : List Value) (g1005 : Nat → Value) (w1006 : World) : Prop :=
xLen a2 fun v1007 =>
xLt (vs1004.getD 0 undef) v1007 fun v1008 =>
xIf v1008 (xIxS a2 (vs1004.getD 0 undef) 2 fun v1009 =>
xFld v1009 1 fun v1010 =>
xAt v1010 fun a1011 =>
XLd w1006 a1011 fun v1012 =>
/- 0 w 1 has 2 v -/ XJ (fun J1013 =>
xIxS a2 (vs1004.getD 0 undef) 2 fun v1017 =>
xFld v1017 0 fun v1018 =>
xAt v1018 fun a1019 =>
XLd w1006 a1019 fun v1020 =>
Ret P n_ref14_Get [a1, v1020] w1006 fun v1021 w1022 =>
xTup v1021 0 fun v1023 =>
xTup v1021 1 fun v1024 =>
xIf v1024 (xIxS a2 (vs1004.getD 0 undef) 2 fun v1025 =>
xFld v1025 1 fun v1026 =>
xAt v1026 fun a1027 =>
XLd w1022 a1027 fun v1028 =>
Ret P n_ref24_Pick [a0, v1023, v1028] w1022 fun v1029 w1030 =>
xTup v1029 0 fun v1031 =>
xTup v1029 1 fun v1032 =>
J1013 [v1023, v1024, v1031] w1030) (J1013 [v1023, v1024, v1012] w1022)) fun vs1014 g1015 w1016 =>
xIxS a2 (vs1004.getD 0 undef) 2 fun v1033 =>
xFld v1033 0 fun v1034 =>
xAt v1034 fun a1035 =>
XLd w1016 a1035 fun v1036 =>
xFill [(.slice none 0 0), (.int .u64 0)] [(0, 1, v1036), (1, 1, (vs1014.getD 2 undef))] fun c1037 =>
xFill (repL [(.slice none 0 0), (.int .u64 0)] 1) [(0, 2, (.agg c1037.toArray))] fun c1038 =>
XNew w1016 c1038 86 fun a1039 w1040 =>
XRun P (Builtin.append_ #[33, 33] 33 #[(vs1004.getD 4 undef), (.slice (some a1039) 1 1)]) w1040 fun v1041 w1042 =>
xAdd (vs1004.getD 0 undef) (.int .i64 1) fun v1043 =>
XNext I1002 n1003 [v1043, (vs1014.getD 2 undef), (vs1014.getD 0 undef), (vs1014.getD 1 undef), v1041] w1042) (Ret P n_ref13_Sort [(vs1004.getD 4 undef)] w1006 fun v1044 w1045 =>
K v1044 w1045)
abbrev S_ref24_Union (a0 : Value) (a1 : Value) (a2 : Value) (K : Value → World → Prop) (w0 : World) : Prop :=
XRun P (Builtin.append_ #[33, 33] 33 #[(.slice none 0 0), a1]) w0 fun v1000 w1001 =>
XLoop [(.int .i64 0), undef, undef, undef, v1000] w1001 (S_ref24_Union_l1 K a0 a1 a2)
theorem W_ref24_Union {a0 a1 a2 : Value} {K : Value → World → Prop} {w : World} (h : S_ref24_Union a0 a1 a2 K w) : Ret P n_ref24_Union [a0, a1, a2] w K :=
  vcF_of mixed Tryz.func35 (show S_ref24_Union a0 a1 a2 K w = vcF P Tryz.f35 [a0, a1, a2] w K from by kernel_rfl) h
/- spunyarn/union.find -/
abbrev S_union_find (a0 : Value) (K : Value → World → Prop) (w0 : World) : Prop :=
XNew w0 [.nilFunc, (.bool false)] 150 fun a1000 w1001 =>
xEq a0 (.int .i64 1) fun v1002 =>
xIf v1002 (xFill [.nilFunc, (.bool false)] [(0, 1, (.func (.func 130) #[] #[])), (1, 1, (.bool true))] fun c1003 =>
XDo P (storeVar 150 a1000 (.agg c1003.toArray)) w1001 fun w1004 =>
XLdN w1004 a1000 2 fun v1005 =>
K (.tuple #[v1005, (.int .i64 0)]) w1004) (xEq a0 (.int .i64 2) fun v1006 =>
xIf v1006 (xFill [.nilFunc, (.bool false)] [(0, 1, (.func (.func 131) #[] #[])), (1, 1, (.bool true))] fun c1007 =>
XDo P (storeVar 150 a1000 (.agg c1007.toArray)) w1001 fun w1008 =>
XLdN w1008 a1000 2 fun v1009 =>
K (.tuple #[v1009, (.int .i64 0)]) w1008) (xEq a0 (.int .i64 3) fun v1010 =>
xIf v1010 (xFill [.nilFunc, (.bool false)] [(0, 1, (.func (.func 132) #[] #[])), (1, 1, (.bool false))] fun c1011 =>
XDo P (storeVar 150 a1000 (.agg c1011.toArray)) w1001 fun w1012 =>
XLdN w1012 a1000 2 fun v1013 =>
K (.tuple #[v1013, (.int .i64 0)]) w1012) (xEq a0 (.int .i64 4) fun v1014 =>
xIf v1014 (xFill [.nilFunc, (.bool false)] [(0, 1, (.func (.func 133) #[] #[])), (1, 1, (.bool true))] fun c1015 =>
XDo P (storeVar 150 a1000 (.agg c1015.toArray)) w1001 fun w1016 =>
XLdN w1016 a1000 2 fun v1017 =>
K (.tuple #[v1017, (.int .i64 0)]) w1016) (xEq a0 (.int .i64 5) fun v1018 =>
xIf v1018 (xFill [.nilFunc, (.bool false)] [(0, 1, (.func (.func 134) #[] #[])), (1, 1, (.bool true))] fun c1019 =>
XDo P (storeVar 150 a1000 (.agg c1019.toArray)) w1001 fun w1020 =>
XLdN w1020 a1000 2 fun v1021 =>
K (.tuple #[v1021, (.int .i64 0)]) w1020) (xFill [.nilFunc, (.bool false)] [] fun c1022 =>
XDo P (storeVar 150 a1000 (.agg c1022.toArray)) w1001 fun w1023 =>
XLdN w1023 a1000 2 fun v1024 =>
K (.tuple #[v1024, (.int .i64 1)]) w1023)))))
theorem W_union_find {a0 : Value} {K : Value → World → Prop} {w : World} (h : S_union_find a0 K w) : Ret P n_union_find [a0] w K :=
  vcF_of mixed Tryz.func69 (show S_union_find a0 K w = vcF P Tryz.f69 [a0] w K from by kernel_rfl) h
/- (spunyarn/union.joiner).of -/
abbrev S_union_joiner_of (a0 : Value) (a1 : Value) (a2 : Value) (K : Value → World → Prop) (w0 : World) : Prop :=
XNew w0 (cellsV a0) 154 fun a1000 w1001 =>
XNew w1001 (cellsV a1) 157 fun a1002 w1003 =>
XNew w1003 (cellsV a2) 157 fun a1004 w1005 =>
XLd w1005 (a1002.add 0) fun v1006 =>
xPEq P w1005 v1006 (.pointer none) fun v1007 =>
xIf v1007 (XLdN w1005 a1000 4 fun v1008 =>
XLdN w1005 a1004 2 fun v1009 =>
Ret P n_union_joiner_whole [v1008, v1009] w1005 fun v1010 w1011 =>
K v1010 w1011) (/- 0 -/ XJ (fun J1012 =>
XLd w1005 (a1004.add 0) fun v1016 =>
xPEq P w1005 v1016 (.pointer none) fun v1017 =>
xIf v1017 (J1012 [v1017] w1005) (XLdN w1005 a1002 2 fun v1018 =>
XLdN w1005 a1004 2 fun v1019 =>
XEqv P .eql 157 (.tmp 21) (.tmp 22) v1018 v1019 w1005 fun r1020 =>
xIf (.bool r1020) (XLd w1005 ((a1000.add 0).add 1) fun v1021 =>
J1012 [v1021] w1005) (J1012 [(.bool false)] w1005))) fun vs1013 g1014 w1015 =>
xIf (vs1013.getD 0 undef) (XLdN w1015 a1000 4 fun v1022 =>
XLdN w1015 a1002 2 fun v1023 =>
Ret P n_union_joiner_whole [v1022, v1023] w1015 fun v1024 w1025 =>
K v1024 w1025) (XLdN w1015.drew a1002 2 fun v1026 =>
XLdN w1015.drew a1004 2 fun v1027 =>
Ret P n_union_end_part [v1026] w1015.drew fun v1028 w1029 =>
xKeepN w1029 (.pointer (some a1004)) v1027 ∧ (Ret P n_union_end_part [v1027] w1029 fun v1030 w1031 =>
Ret P n_keys_Common [v1028, v1030] w1031 fun v1032 w1033 =>
/- 0 -/ XJ (fun J1034 =>
xLen v1028 fun v1038 =>
xLt v1032 v1038 fun v1039 =>
xIf v1039 (xLen v1030 fun v1040 =>
xLt v1032 v1040 fun v1041 =>
J1034 [v1041] w1033) (J1034 [(.bool false)] w1033)) fun vs1035 g1036 w1037 =>
xIf (vs1035.getD 0 undef) (XLdN w1037.drew a1000 4 fun v1042 =>
xCutS 1 v1028 none (some v1032) none fun v1043 =>
xIxS v1028 v1032 1 fun v1044 =>
xAt v1044 fun a1045 =>
XLd w1037.drew a1045 fun v1046 =>
XLdN w1037.drew a1002 2 fun v1047 =>
xIxS v1030 v1032 1 fun v1048 =>
xAt v1048 fun a1049 =>
XLd w1037.drew a1049 fun v1050 =>
XLdN w1037.drew a1004 2 fun v1051 =>
Ret P n_union_end_behind [v1047, v1032] w1037.drew fun v1052 w1053 =>
xKeepN w1053 (.pointer (some a1004)) v1051 ∧ (xKeep1 w1053 v1048 v1050 ∧ (xKeep1 w1053 v1044 v1046 ∧ (xKeepN w1053 (.pointer (some a1000)) v1042 ∧ (Ret P n_union_end_behind [v1051, v1032] w1053 fun v1054 w1055 =>
xKeep1 w1055 v1048 v1050 ∧ (xKeep1 w1055 v1044 v1046 ∧ (xKeepN w1055 (.pointer (some a1000)) v1042 ∧ (Ret P n_union_joiner_fork [v1042, v1043, v1046, v1052, v1050, v1054] w1055 fun v1056 w1057 =>
K v1056 w1057)))))))) (xLen v1030 fun v1058 =>
xLt v1032 v1058 fun v1059 =>
xIf v1059 (XLdN w1037.drew a1000 4 fun v1060 =>
XLdN w1037.drew a1002 2 fun v1061 =>
xIxS v1030 v1032 1 fun v1062 =>
xAt v1062 fun a1063 =>
XLd w1037.drew a1063 fun v1064 =>
XLdN w1037.drew a1004 2 fun v1065 =>
Ret P n_union_end_behind [v1065, v1032] w1037.drew fun v1066 w1067 =>
xKeep1 w1067 v1062 v1064 ∧ (xKeepN w1067 (.pointer (some a1002)) v1061 ∧ (xKeepN w1067 (.pointer (some a1000)) v1060 ∧ (Ret P n_union_joiner_under [v1060, v1061, v1064, v1066, (.bool false)] w1067 fun v1068 w1069 =>
K v1068 w1069)))) (xLen v1028 fun v1070 =>
xLt v1032 v1070 fun v1071 =>
xIf v1071 (XLdN w1037.drew a1000 4 fun v1072 =>
XLdN w1037.drew a1004 2 fun v1073 =>
xIxS v1028 v1032 1 fun v1074 =>
xAt v1074 fun a1075 =>
XLd w1037.drew a1075 fun v1076 =>
XLdN w1037.drew a1002 2 fun v1077 =>
Ret P n_union_end_behind [v1077, v1032] w1037.drew fun v1078 w1079 =>
xKeep1 w1079 v1074 v1076 ∧ (xKeepN w1079 (.pointer (some a1004)) v1073 ∧ (xKeepN w1079 (.pointer (some a1000)) v1072 ∧ (Ret P n_union_joiner_under [v1072, v1073, v1076, v1078, (.bool true)] w1079 fun v1080 w1081 =>
K v1080 w1081)))) (XLdN w1037 a1000 4 fun v1082 =>
XLdN w1037 a1002 2 fun v1083 =>
XLdN w1037 a1004 2 fun v1084 =>
Ret P n_union_joiner_level [v1082, v1083, v1084] w1037 fun v1085 w1086 =>
K v1085 w1086))))))
theorem W_union_joiner_of {a0 a1 a2 : Value} {K : Value → World → Prop} {w : World} (h : S_union_joiner_of a0 a1 a2 K w) : Ret P n_union_joiner_of [a0, a1, a2] w K :=
  vcF_of mixed Tryz.func70 (show S_union_joiner_of a0 a1 a2 K w = vcF P Tryz.f70 [a0, a1, a2] w K from by kernel_rfl) h
/- spunyarn/union.find$1 -/
abbrev S_union_find_1 (a0 : Value) (a1 : Value) (K : Value → World → Prop) (w0 : World) : Prop :=
K a0 w0
theorem W_union_find_1 {a0 a1 : Value} {K : Value → World → Prop} {w : World} (h : S_union_find_1 a0 a1 K w) : Ret P n_union_find_1 [a0, a1] w K :=
  vcF_of mixed Tryz.func130 (show S_union_find_1 a0 a1 K w = vcF P Tryz.f130 [a0, a1] w K from by kernel_rfl) h
/- spunyarn/union.find$2 -/
abbrev S_union_find_2 (a0 : Value) (a1 : Value) (K : Value → World → Prop) (w0 : World) : Prop :=
K a1 w0
theorem W_union_find_2 {a0 a1 : Value} {K : Value → World → Prop} {w : World} (h : S_union_find_2 a0 a1 K w) : Ret P n_union_find_2 [a0, a1] w K :=
  vcF_of mixed Tryz.func131 (show S_union_find_2 a0 a1 K w = vcF P Tryz.f131 [a0, a1] w K from by kernel_rfl) h
/- spunyarn/union.find$3 -/
abbrev S_union_find_3 (a0 : Value) (a1 : Value) (K : Value → World → Prop) (w0 : World) : Prop :=
xAdd a0 a1 fun v1000 =>
K v1000 w0
theorem W_union_find_3 {a0 a1 : Value} {K : Value → World → Prop} {w : World} (h : S_union_find_3 a0 a1 K w) : Ret P n_union_find_3 [a0, a1] w K :=
  vcF_of mixed Tryz.func132 (show S_union_find_3 a0 a1 K w = vcF P Tryz.f132 [a0, a1] w K from by kernel_rfl) h
/- spunyarn/union.find$4 -/
abbrev S_union_find_4 (a0 : Value) (a1 : Value) (K : Value → World → Prop) (w0 : World) : Prop :=
xMin a0 a1 fun v1000 =>
K v1000 w0
theorem W_union_find_4 {a0 a1 : Value} {K : Value → World → Prop} {w : World} (h : S_union_find_4 a0 a1 K w) : Ret P n_union_find_4 [a0, a1] w K :=
  vcF_of mixed Tryz.func133 (show S_union_find_4 a0 a1 K w = vcF P Tryz.f133 [a0, a1] w K from by kernel_rfl) h
/- spunyarn/union.find$5 -/
abbrev S_union_find_5 (a0 : Value) (a1 : Value) (K : Value → World → Prop) (w0 : World) : Prop :=
xMax a0 a1 fun v1000 =>
K v1000 w0
theorem W_union_find_5 {a0 a1 : Value} {K : Value → World → Prop} {w : World} (h : S_union_find_5 a0 a1 K w) : Ret P n_union_find_5 [a0, a1] w K :=
  vcF_of mixed Tryz.func134 (show S_union_find_5 a0 a1 K w = vcF P Tryz.f134 [a0, a1] w K from by kernel_rfl) h
/- (spunyarn/union.joiner).whole -/
abbrev S_union_joiner_whole (a0 : Value) (a1 : Value) (K : Value → World → Prop) (w0 : World) : Prop :=
XNew w0 (cellsV a0) 154 fun a1000 w1001 =>
XNew w1001 (cellsV a1) 157 fun a1002 w1003 =>
XLd w1003 (a1002.add 1) fun v1004 =>
xEq v1004 (.int .i64 0) fun v1005 =>
xIf v1005 (XLd w1003 (a1002.add 0) fun v1006 =>
K v1006 w1003) (XLdN w1003 a1000 4 fun v1007 =>
XLdN w1003 a1002 2 fun v1008 =>
Ret P n_union_joiner_copy [v1007, v1008] w1003 fun v1009 w1010 =>
K v1009 w1010)
theorem W_union_joiner_whole {a0 a1 : Value} {K : Value → World → Prop} {w : World} (h : S_union_joiner_whole a0 a1 K w) : Ret P n_union_joiner_whole [a0, a1] w K :=
  vcF_of mixed Tryz.func135 (show S_union_joiner_whole a0 a1 K w = vcF P Tryz.f135 [a0, a1] w K from by kernel_rfl) h
/- (spunyarn/union.end).part -/
abbrev S_union_end_part (a0 : Value) (K : Value → World → Prop) (w0 : World) : Prop :=
XNew w0 (cellsV a0) 157 fun a1000 w1001 =>
XLd w1001.drew (a1000.add 0) fun v1002 =>
XLd w1001.drew (a1000.add 1) fun v1003 =>
Ret P n_node_Node_Part [v1002] w1001.drew fun v1004 w1005 =>
xKeep1 w1005 (.pointer (some (a1000.add 1))) v1003 ∧ (xCutS 1 v1004 (some v1003) none none fun v1006 =>
K v1006 w1005)
theorem W_union_end_part {a0 : Value} {K : Value → World → Prop} {w : World} (h : S_union_end_part a0 K w) : Ret P n_union_end_part [a0] w K :=
  vcF_of mixed Tryz.func136 (show S_union_end_part a0 K w = vcF P Tryz.f136 [a0] w K from by kernel_rfl) h
/- (spunyarn/union.joiner).fork -/
abbrev S_union_joiner_fork (a0 : Value) (a1 : Value) (a2 : Value) (a3 : Value) (a4 : Value) (a5 : Value) (K : Value → World → Prop) (w0 : World) : Prop :=
XNew w0 (cellsV a0) 154 fun a1000 w1001 =>
XNew w1001 (cellsV a3) 157 fun a1002 w1003 =>
XNew w1003 (cellsV a5) 157 fun a1004 w1005 =>
XLd w1005 (a1000.add 3) fun v1006 =>
XLd w1005 (a1000.add 2) fun v1007 =>
Ret P n_node_Inner [v1006, v1007, a1] w1005 fun v1008 w1009 =>
XLd w1009.drew (a1000.add 2) fun v1010 =>
XLdN w1009.drew a1000 4 fun v1011 =>
XLdN w1009.drew a1002 2 fun v1012 =>
Ret P n_union_joiner_whole [v1011, v1012] w1009.drew fun v1013 w1014 =>
xKeep1 w1014 (.pointer (some (a1000.add 2))) v1010 ∧ (Ret P n_node_Node_SetKid [v1008, v1010, a2, v1013] w1014 fun v1015 w1016 =>
XLd w1016.drew (a1000.add 2) fun v1017 =>
XLdN w1016.drew a1000 4 fun v1018 =>
XLdN w1016.drew a1004 2 fun v1019 =>
Ret P n_union_joiner_whole [v1018, v1019] w1016.drew fun v1020 w1021 =>
xKeep1 w1021 (.pointer (some (a1000.add 2))) v1017 ∧ (Ret P n_node_Node_SetKid [v1008, v1017, a4, v1020] w1021 fun v1022 w1023 =>
K v1008 w1023))
theorem W_union_joiner_fork {a0 a1 a2 a3 a4 a5 : Value} {K : Value → World → Prop} {w : World} (h : S_union_joiner_fork a0 a1 a2 a3 a4 a5 K w) : Ret P n_union_joiner_fork [a0, a1, a2, a3, a4, a5] w K :=
  vcF_of mixed Tryz.func138 (show S_union_joiner_fork a0 a1 a2 a3 a4 a5 K w = vcF P Tryz.f138 [a0, a1, a2, a3, a4, a5] w K from by kernel_rfl) h
/- (spunyarn/union.end).behind -/
abbrev S_union_end_behind (a0 : Value) (a1 : Value) (K : Value → World → Prop) (w0 : World) : Prop :=
XNew w0 (cellsV a0) 157 fun a1000 w1001 =>
XNew w1001 [(.pointer none), (.int .i64 0)] 157 fun a1002 w1003 =>
XLd w1003 (a1000.add 0) fun v1004 =>
XLd w1003 (a1000.add 1) fun v1005 =>
xAdd v1005 a1 fun v1006 =>
xAdd v1006 (.int .i64 1) fun v1007 =>
xFill [(.pointer none), (.int .i64 0)] [(0, 1, v1004), (1, 1, v1007)] fun c1008 =>
XDo P (storeVar 157 a1002 (.agg c1008.toArray)) w1003 fun w1009 =>
XLdN w1009 a1002 2 fun v1010 =>
K v1010 w1009
theorem W_union_end_behind {a0 a1 : Value} {K : Value → World → Prop} {w : World} (h : S_union_end_behind a0 a1 K w) : Ret P n_union_end_behind [a0, a1] w K :=
  vcF_of mixed Tryz.func139 (show S_union_end_behind a0 a1 K w = vcF P Tryz.f139 [a0, a1] w K from by kernel_rfl) h
/- (spunyarn/union.joiner).under -/
abbrev S_union_joiner_under (a0 : Value) (a1 : Value) (a2 : Value) (a3 : Value) (a4 : Value) (K : Value → World → Prop) (w0 : World) : Prop :=
XNew w0 (cellsV a0) 154 fun a1000 w1001 =>
XNew w1001 (cellsV a1) 157 fun a1002 w1003 =>
XNew w1003 (cellsV a3) 157 fun a1004 w1005 =>
XLdN w1005 a1002 2 fun v1006 =>
Ret P n_union_end_leaf [v1006] w1005 fun v1007 w1008 =>
xIf v1007 (XLd w1008.drew (a1000.add 3) fun v1009 =>
XLd w1008.drew (a1000.add 2) fun v1010 =>
XLdN w1008.drew a1002 2 fun v1011 =>
Ret P n_union_end_part [v1011] w1008.drew fun v1012 w1013 =>
xKeep1 w1013 (.pointer (some (a1000.add 2))) v1010 ∧ (xKeep1 w1013 (.pointer (some (a1000.add 3))) v1009 ∧ (Ret P n_node_Inner [v1009, v1010, v1012] w1013 fun v1014 w1015 =>
XLd w1015 (a1002.add 0) fun v1016 =>
Ret P n_node_Node_Val [v1016] w1015 fun v1017 w1018 =>
xTup v1017 0 fun v1019 =>
xTup v1017 1 fun v1020 =>
XLd w1018 (a1000.add 2) fun v1021 =>
Ret P n_node_Node_SetVal [v1014, v1021, v1019] w1018 fun v1022 w1023 =>
XLd w1023.drew (a1000.add 2) fun v1024 =>
XLdN w1023.drew a1000 4 fun v1025 =>
XLdN w1023.drew a1004 2 fun v1026 =>
Ret P n_union_joiner_whole [v1025, v1026] w1023.drew fun v1027 w1028 =>
xKeep1 w1028 (.pointer (some (a1000.add 2))) v1024 ∧ (Ret P n_node_Node_SetKid [v1014, v1024, a2, v1027] w1028 fun v1029 w1030 =>
K v1014 w1030)))) (XLdN w1008 a1002 2 fun v1031 =>
Ret P n_union_end_kid [v1031, a2] w1008 fun v1032 w1033 =>
XNew w1033 [(.pointer none), (.int .i64 0)] 157 fun a1034 w1035 =>
XDo P (storeVar 157 a1034 v1032) w1035 fun w1036 =>
XLdN w1036.drew a1034 2 fun v1037 =>
XLdN w1036.drew a1004 2 fun v1038 =>
(XNew w1036.drew [(.pointer none), (.int .i64 0)] 157 fun a1039 w1040 =>
xKeepN w1040 (.pointer (some a1004)) v1038 ∧ (xKeepN w1040 (.pointer (some a1034)) v1037 ∧ (XNew w1040 [(.pointer none), (.int .i64 0)] 157 fun a1041 w1042 =>
xKeepN w1042 (.pointer (some a1004)) v1038 ∧ (xKeepN w1042 (.pointer (some a1034)) v1037 ∧ (XDo P (storeVar 157 a1039 v1037) w1042 fun w1043 =>
xKeepN w1043 (.pointer (some a1004)) v1038 ∧ (XDo P (storeVar 157 a1041 v1038) w1043 fun w1044 =>
/-  -/ XJ (fun J1045 =>
xIf a4 (XLdN w1044.drew a1004 2 fun v1049 =>
XLdN w1044.drew a1034 2 fun v1050 =>
XDo P (storeVar 157 a1039 v1049) w1044.drew fun w1051 =>
xKeepN w1051 (.pointer (some a1034)) v1050 ∧ (XDo P (storeVar 157 a1041 v1050) w1051 fun w1052 =>
J1045 [] w1052)) (J1045 [] w1044)) fun vs1046 g1047 w1048 =>
XLdN w1048 a1000 4 fun v1053 =>
XLdN w1048 a1039 2 fun v1054 =>
XLdN w1048 a1041 2 fun v1055 =>
Ret P n_union_joiner_of [v1053, v1054, v1055] w1048 fun v1056 w1057 =>
XLd w1057 (a1034.add 0) fun v1058 =>
xPEq P w1057 v1056 v1058 fun v1059 =>
xIf v1059 (XLdN w1057 a1000 4 fun v1060 =>
XLdN w1057 a1002 2 fun v1061 =>
Ret P n_union_joiner_whole [v1060, v1061] w1057 fun v1062 w1063 =>
K v1062 w1063) (XLdN w1057 a1000 4 fun v1064 =>
XLdN w1057 a1002 2 fun v1065 =>
Ret P n_union_joiner_copy [v1064, v1065] w1057 fun v1066 w1067 =>
XLd w1067 (a1000.add 2) fun v1068 =>
Ret P n_node_Node_SetKid [v1066, v1068, a2, v1056] w1067 fun v1069 w1070 =>
K v1066 w1070))))))) ∧ (XNew w1036.drew [(.pointer none), (.int .i64 0)] 157 fun a1071 w1072 =>
xKeepN w1072 (.pointer (some a1004)) v1038 ∧ (xKeepN w1072 (.pointer (some a1034)) v1037 ∧ (XNew w1072 [(.pointer none), (.int .i64 0)] 157 fun a1073 w1074 =>
xKeepN w1074 (.pointer (some a1004)) v1038 ∧ (xKeepN w1074 (.pointer (some a1034)) v1037 ∧ (XDo P (storeVar 157 a1073 v1037) w1074 fun w1075 =>
xKeepN w1075 (.pointer (some a1004)) v1038 ∧ (XDo P (storeVar 157 a1071 v1038) w1075 fun w1076 =>
/-  -/ XJ (fun J1077 =>
xIf a4 (XLdN w1076.drew a1004 2 fun v1081 =>
XLdN w1076.drew a1034 2 fun v1082 =>
XDo P (storeVar 157 a1073 v1081) w1076.drew fun w1083 =>
xKeepN w1083 (.pointer (some a1034)) v1082 ∧ (XDo P (storeVar 157 a1071 v1082) w1083 fun w1084 =>
J1077 [] w1084)) (J1077 [] w1076)) fun vs1078 g1079 w1080 =>
XLdN w1080 a1000 4 fun v1085 =>
XLdN w1080 a1073 2 fun v1086 =>
XLdN w1080 a1071 2 fun v1087 =>
Ret P n_union_joiner_of [v1085, v1086, v1087] w1080 fun v1088 w1089 =>
XLd w1089 (a1034.add 0) fun v1090 =>
xPEq P w1089 v1088 v1090 fun v1091 =>
xIf v1091 (XLdN w1089 a1000 4 fun v1092 =>
XLdN w1089 a1002 2 fun v1093 =>
Ret P n_union_joiner_whole [v1092, v1093] w1089 fun v1094 w1095 =>
K v1094 w1095) (XLdN w1089 a1000 4 fun v1096 =>
XLdN w1089 a1002 2 fun v1097 =>
Ret P n_union_joiner_copy [v1096, v1097] w1089 fun v1098 w1099 =>
XLd w1099 (a1000.add 2) fun v1100 =>
Ret P n_node_Node_SetKid [v1098, v1100, a2, v1088] w1099 fun v1101 w1102 =>
K v1098 w1102))))))))
theorem W_union_joiner_under {a0 a1 a2 a3 a4 : Value} {K : Value → World → Prop} {w : World} (h : S_union_joiner_under a0 a1 a2 a3 a4 K w) : Ret P n_union_joiner_under [a0, a1, a2, a3, a4] w K :=
  vcF_of mixed Tryz.func140 (show S_union_joiner_under a0 a1 a2 a3 a4 K w = vcF P Tryz.f140 [a0, a1, a2, a3, a4] w K from by kernel_rfl) h
/- (spunyarn/union.joiner).level -/
/- S_union_joiner_level_l1: 0=slot 15 kid 1=slot 14 c 2=slot 16 mine 3=slot 17 now 4=slot 13 n -/
def S_union_joiner_level_l1 (K : Value → World → Prop) (a1000 : Addr) (a1008 : Addr) (a1010 : Addr) (I1074 : Nat → List Value → World → Prop) (n1075 : Nat) (vs1076 : List Value) (g1077 : Nat → Value) (w1078 : World) : Prop :=
xPNe P w1078 (vs1076.getD 0 undef) (.pointer none) fun v1079 =>
xIf v1079 (/- 0 mine 1 now 2 n -/ XJ (fun J1080 =>
XLd w1078 (a1008.add 0) fun v1084 =>
Ret P n_node_Node_Kid [v1084, (vs1076.getD 1 undef)] w1078 fun v1085 w1086 =>
XLdN w1086 a1000 4 fun v1087 =>
xFill [(.pointer none), (.int .i64 0)] [(0, 1, v1085)] fun c1088 =>
xFill [(.pointer none), (.int .i64 0)] [(0, 1, (vs1076.getD 0 undef))] fun c1089 =>
Ret P n_union_joiner_of [v1087, (.agg c1088.toArray), (.agg c1089.toArray)] w1086 fun v1090 w1091 =>
xPNe P w1091 v1090 v1085 fun v1092 =>
xIf v1092 (XLdN w1091 a1000 4 fun v1093 =>
XLdN w1091 a1008 2 fun v1094 =>
Ret P n_union_joiner_write [v1093, (vs1076.getD 4 undef), v1094] w1091 fun v1095 w1096 =>
XLd w1096 (a1000.add 2) fun v1097 =>
Ret P n_node_Node_SetKid [v1095, v1097, (vs1076.getD 1 undef), v1090] w1096 fun v1098 w1099 =>
J1080 [v1085, v1090, v1095] w1099) (J1080 [v1085, v1090, (vs1076.getD 4 undef)] w1091)) fun vs1081 g1082 w1083 =>
XLd w1083 (a1010.add 0) fun v1100 =>
xConv .i64 (vs1076.getD 1 undef) fun v1101 =>
xAdd v1101 (.int .i64 1) fun v1102 =>
Ret P n_node_Node_Next [v1100, v1102] w1083 fun v1103 w1104 =>
xTup v1103 0 fun v1105 =>
xTup v1103 1 fun v1106 =>
XNext I1074 n1075 [v1106, v1105, (vs1081.getD 0 undef), (vs1081.getD 1 undef), (vs1081.getD 2 undef)] w1104) (XLdN w1078 a1000 4 fun v1107 =>
XLdN w1078 a1008 2 fun v1108 =>
Ret P n_union_joiner_done [v1107, (vs1076.getD 4 undef), v1108] w1078 fun v1109 w1110 =>
K v1109 w1110)
/- S_union_joiner_level_l2: 0=slot 15 kid 1=slot 14 c 2=slot 16 mine 3=slot 17 now 4=slot 13 n -/
def S_union_joiner_level_l2 (K : Value → World → Prop) (a1000 : Addr) (a1111 : Addr) (a1113 : Addr) (I1177 : Nat → List Value → World → Prop) (n1178 : Nat) (vs1179 : List Value) (g1180 : Nat → Value) (w1181 : World) : Prop :=
xPNe P w1181 (vs1179.getD 0 undef) (.pointer none) fun v1182 =>
xIf v1182 (/- 0 mine 1 now 2 n -/ XJ (fun J1183 =>
XLd w1181 (a1113.add 0) fun v1187 =>
Ret P n_node_Node_Kid [v1187, (vs1179.getD 1 undef)] w1181 fun v1188 w1189 =>
XLdN w1189 a1000 4 fun v1190 =>
xFill [(.pointer none), (.int .i64 0)] [(0, 1, v1188)] fun c1191 =>
xFill [(.pointer none), (.int .i64 0)] [(0, 1, (vs1179.getD 0 undef))] fun c1192 =>
Ret P n_union_joiner_of [v1190, (.agg c1191.toArray), (.agg c1192.toArray)] w1189 fun v1193 w1194 =>
xPNe P w1194 v1193 v1188 fun v1195 =>
xIf v1195 (XLdN w1194 a1000 4 fun v1196 =>
XLdN w1194 a1113 2 fun v1197 =>
Ret P n_union_joiner_write [v1196, (vs1179.getD 4 undef), v1197] w1194 fun v1198 w1199 =>
XLd w1199 (a1000.add 2) fun v1200 =>
Ret P n_node_Node_SetKid [v1198, v1200, (vs1179.getD 1 undef), v1193] w1199 fun v1201 w1202 =>
J1183 [v1188, v1193, v1198] w1202) (J1183 [v1188, v1193, (vs1179.getD 4 undef)] w1194)) fun vs1184 g1185 w1186 =>
XLd w1186 (a1111.add 0) fun v1203 =>
xConv .i64 (vs1179.getD 1 undef) fun v1204 =>
xAdd v1204 (.int .i64 1) fun v1205 =>
Ret P n_node_Node_Next [v1203, v1205] w1186 fun v1206 w1207 =>
xTup v1206 0 fun v1208 =>
xTup v1206 1 fun v1209 =>
XNext I1177 n1178 [v1209, v1208, (vs1184.getD 0 undef), (vs1184.getD 1 undef), (vs1184.getD 2 undef)] w1207) (XLdN w1181 a1000 4 fun v1210 =>
XLdN w1181 a1113 2 fun v1211 =>
Ret P n_union_joiner_done [v1210, (vs1179.getD 4 undef), v1211] w1181 fun v1212 w1213 =>
K v1212 w1213)
abbrev S_union_joiner_level (a0 : Value) (a1 : Value) (a2 : Value) (K : Value → World → Prop) (w0 : World) : Prop :=
XNew w0 (cellsV a0) 154 fun a1000 w1001 =>
XNew w1001 (cellsV a1) 157 fun a1002 w1003 =>
XNew w1003 (cellsV a2) 157 fun a1004 w1005 =>
XLdN w1005.drew a1002 2 fun v1006 =>
XLdN w1005.drew a1004 2 fun v1007 =>
(XNew w1005.drew [(.pointer none), (.int .i64 0)] 157 fun a1008 w1009 =>
xKeepN w1009 (.pointer (some a1004)) v1007 ∧ (xKeepN w1009 (.pointer (some a1002)) v1006 ∧ (XNew w1009 [(.pointer none), (.int .i64 0)] 157 fun a1010 w1011 =>
xKeepN w1011 (.pointer (some a1004)) v1007 ∧ (xKeepN w1011 (.pointer (some a1002)) v1006 ∧ (XDo P (storeVar 157 a1008 v1006) w1011 fun w1012 =>
xKeepN w1012 (.pointer (some a1004)) v1007 ∧ (XDo P (storeVar 157 a1010 v1007) w1012 fun w1013 =>
/-  -/ XJ (fun J1014 =>
/- 0 -/ XJ (fun J1018 =>
XLdN w1013 a1002 2 fun v1022 =>
Ret P n_union_end_leaf [v1022] w1013 fun v1023 w1024 =>
xIf v1023 (XLdN w1024 a1004 2 fun v1025 =>
Ret P n_union_end_leaf [v1025] w1024 fun v1026 w1027 =>
xNot v1026 fun v1028 =>
J1018 [v1028] w1027) (J1018 [(.bool false)] w1024)) fun vs1019 g1020 w1021 =>
xIf (vs1019.getD 0 undef) (XLdN w1021.drew a1004 2 fun v1029 =>
XLdN w1021.drew a1002 2 fun v1030 =>
XDo P (storeVar 157 a1008 v1029) w1021.drew fun w1031 =>
xKeepN w1031 (.pointer (some a1002)) v1030 ∧ (XDo P (storeVar 157 a1010 v1030) w1031 fun w1032 =>
J1014 [] w1032)) (J1014 [] w1021)) fun vs1015 g1016 w1017 =>
XLdN w1017 a1000 4 fun v1033 =>
XLd w1017 (a1002.add 0) fun v1034 =>
XLd w1017 (a1004.add 0) fun v1035 =>
Ret P n_union_joiner_value [v1033, v1034, v1035] w1017 fun v1036 w1037 =>
xTup v1036 0 fun v1038 =>
xTup v1036 1 fun v1039 =>
XLd w1037 (a1008.add 0) fun v1040 =>
Ret P n_node_Node_Val [v1040] w1037 fun v1041 w1042 =>
xTup v1041 0 fun v1043 =>
xTup v1041 1 fun v1044 =>
/- 0 n -/ XJ (fun J1045 =>
/- 0 -/ XJ (fun J1049 =>
xBNe v1039 v1044 fun v1053 =>
xIf v1053 (J1049 [(.bool true)] w1042) (xNe v1038 v1043 fun v1054 =>
J1049 [v1054] w1042)) fun vs1050 g1051 w1052 =>
xIf (vs1050.getD 0 undef) (XLdN w1052 a1000 4 fun v1055 =>
XLdN w1052 a1008 2 fun v1056 =>
Ret P n_union_joiner_write [v1055, (.pointer none), v1056] w1052 fun v1057 w1058 =>
XLd w1058 (a1000.add 2) fun v1059 =>
Ret P n_node_Node_SetVal [v1057, v1059, v1038] w1058 fun v1060 w1061 =>
J1045 [v1057] w1061) (J1045 [(.pointer none)] w1052)) fun vs1046 g1047 w1048 =>
XLdN w1048 a1010 2 fun v1062 =>
Ret P n_union_end_leaf [v1062] w1048 fun v1063 w1064 =>
xIf v1063 (XLdN w1064 a1000 4 fun v1065 =>
XLdN w1064 a1008 2 fun v1066 =>
Ret P n_union_joiner_done [v1065, (vs1046.getD 0 undef), v1066] w1064 fun v1067 w1068 =>
K v1067 w1068) (XLd w1064 (a1010.add 0) fun v1069 =>
Ret P n_node_Node_Next [v1069, (.int .i64 0)] w1064 fun v1070 w1071 =>
xTup v1070 0 fun v1072 =>
xTup v1070 1 fun v1073 =>
XLoop [v1073, v1072, undef, undef, (vs1046.getD 0 undef)] w1071 (S_union_joiner_level_l1 K a1000 a1008 a1010)))))))) ∧ (XNew w1005.drew [(.pointer none), (.int .i64 0)] 157 fun a1111 w1112 =>
xKeepN w1112 (.pointer (some a1004)) v1007 ∧ (xKeepN w1112 (.pointer (some a1002)) v1006 ∧ (XNew w1112 [(.pointer none), (.int .i64 0)] 157 fun a1113 w1114 =>
xKeepN w1114 (.pointer (some a1004)) v1007 ∧ (xKeepN w1114 (.pointer (some a1002)) v1006 ∧ (XDo P (storeVar 157 a1113 v1006) w1114 fun w1115 =>
xKeepN w1115 (.pointer (some a1004)) v1007 ∧ (XDo P (storeVar 157 a1111 v1007) w1115 fun w1116 =>
/-  -/ XJ (fun J1117 =>
/- 0 -/ XJ (fun J1121 =>
XLdN w1116 a1002 2 fun v1125 =>
Ret P n_union_end_leaf [v1125] w1116 fun v1126 w1127 =>
xIf v1126 (XLdN w1127 a1004 2 fun v1128 =>
Ret P n_union_end_leaf [v1128] w1127 fun v1129 w1130 =>
xNot v1129 fun v1131 =>
J1121 [v1131] w1130) (J1121 [(.bool false)] w1127)) fun vs1122 g1123 w1124 =>
xIf (vs1122.getD 0 undef) (XLdN w1124.drew a1004 2 fun v1132 =>
XLdN w1124.drew a1002 2 fun v1133 =>
XDo P (storeVar 157 a1113 v1132) w1124.drew fun w1134 =>
xKeepN w1134 (.pointer (some a1002)) v1133 ∧ (XDo P (storeVar 157 a1111 v1133) w1134 fun w1135 =>
J1117 [] w1135)) (J1117 [] w1124)) fun vs1118 g1119 w1120 =>
XLdN w1120 a1000 4 fun v1136 =>
XLd w1120 (a1002.add 0) fun v1137 =>
XLd w1120 (a1004.add 0) fun v1138 =>
Ret P n_union_joiner_value [v1136, v1137, v1138] w1120 fun v1139 w1140 =>
xTup v1139 0 fun v1141 =>
xTup v1139 1 fun v1142 =>
XLd w1140 (a1113.add 0) fun v1143 =>
Ret P n_node_Node_Val [v1143] w1140 fun v1144 w1145 =>
xTup v1144 0 fun v1146 =>
xTup v1144 1 fun v1147 =>
/- 0 n -/ XJ (fun J1148 =>
/- 0 -/ XJ (fun J1152 =>
xBNe v1142 v1147 fun v1156 =>
xIf v1156 (J1152 [(.bool true)] w1145) (xNe v1141 v1146 fun v1157 =>
J1152 [v1157] w1145)) fun vs1153 g1154 w1155 =>
xIf (vs1153.getD 0 undef) (XLdN w1155 a1000 4 fun v1158 =>
XLdN w1155 a1113 2 fun v1159 =>
Ret P n_union_joiner_write [v1158, (.pointer none), v1159] w1155 fun v1160 w1161 =>
XLd w1161 (a1000.add 2) fun v1162 =>
Ret P n_node_Node_SetVal [v1160, v1162, v1141] w1161 fun v1163 w1164 =>
J1148 [v1160] w1164) (J1148 [(.pointer none)] w1155)) fun vs1149 g1150 w1151 =>
XLdN w1151 a1111 2 fun v1165 =>
Ret P n_union_end_leaf [v1165] w1151 fun v1166 w1167 =>
xIf v1166 (XLdN w1167 a1000 4 fun v1168 =>
XLdN w1167 a1113 2 fun v1169 =>
Ret P n_union_joiner_done [v1168, (vs1149.getD 0 undef), v1169] w1167 fun v1170 w1171 =>
K v1170 w1171) (XLd w1167 (a1111.add 0) fun v1172 =>
Ret P n_node_Node_Next [v1172, (.int .i64 0)] w1167 fun v1173 w1174 =>
xTup v1173 0 fun v1175 =>
xTup v1173 1 fun v1176 =>
XLoop [v1176, v1175, undef, undef, (vs1149.getD 0 undef)] w1174 (S_union_joiner_level_l2 K a1000 a1111 a1113))))))))
theorem W_union_joiner_level {a0 a1 a2 : Value} {K : Value → World → Prop} {w : World} (h : S_union_joiner_level a0 a1 a2 K w) : Ret P n_union_joiner_level [a0, a1, a2] w K :=
  vcF_of mixed Tryz.func141 (show S_union_joiner_level a0 a1 a2 K w = vcF P Tryz.f141 [a0, a1, a2] w K from by kernel_rfl) h
/- (spunyarn/union.joiner).copy -/
abbrev S_union_joiner_copy (a0 : Value) (a1 : Value) (K : Value → World → Prop) (w0 : World) : Prop :=
XNew w0 (cellsV a0) 154 fun a1000 w1001 =>
XNew w1001 (cellsV a1) 157 fun a1002 w1003 =>
XLd w1003 (a1002.add 0) fun v1004 =>
XLd w1003 (a1000.add 3) fun v1005 =>
XLd w1003 (a1000.add 2) fun v1006 =>
Ret P n_node_Node_Copy [v1004, v1005, v1006] w1003 fun v1007 w1008 =>
/-  -/ XJ (fun J1009 =>
XLd w1008 (a1002.add 1) fun v1013 =>
xGt v1013 (.int .i64 0) fun v1014 =>
xIf v1014 (XLd w1008.drew (a1000.add 2) fun v1015 =>
XLdN w1008.drew a1002 2 fun v1016 =>
Ret P n_union_end_part [v1016] w1008.drew fun v1017 w1018 =>
xKeep1 w1018 (.pointer (some (a1000.add 2))) v1015 ∧ (Ret P n_node_Node_SetPart [v1007, v1015, v1017] w1018 fun v1019 w1020 =>
J1009 [] w1020)) (J1009 [] w1008)) fun vs1010 g1011 w1012 =>
K v1007 w1012
theorem W_union_joiner_copy {a0 a1 : Value} {K : Value → World → Prop} {w : World} (h : S_union_joiner_copy a0 a1 K w) : Ret P n_union_joiner_copy [a0, a1] w K :=
  vcF_of mixed Tryz.func188 (show S_union_joiner_copy a0 a1 K w = vcF P Tryz.f188 [a0, a1] w K from by kernel_rfl) h
/- (spunyarn/union.end).leaf -/
abbrev S_union_end_leaf (a0 : Value) (K : Value → World → Prop) (w0 : World) : Prop :=
XNew w0 (cellsV a0) 157 fun a1000 w1001 =>
XLd w1001 (a1000.add 0) fun v1002 =>
Ret P n_node_Node_Kind [v1002] w1001 fun v1003 w1004 =>
xEq v1003 (.int .i64 1) fun v1005 =>
K v1005 w1004
theorem W_union_end_leaf {a0 : Value} {K : Value → World → Prop} {w : World} (h : S_union_end_leaf a0 K w) : Ret P n_union_end_leaf [a0] w K :=
  vcF_of mixed Tryz.func189 (show S_union_end_leaf a0 K w = vcF P Tryz.f189 [a0] w K from by kernel_rfl) h
/- (spunyarn/union.end).kid -/
abbrev S_union_end_kid (a0 : Value) (a1 : Value) (K : Value → World → Prop) (w0 : World) : Prop :=
XNew w0 (cellsV a0) 157 fun a1000 w1001 =>
XNew w1001 [(.pointer none), (.int .i64 0)] 157 fun a1002 w1003 =>
XLd w1003 (a1000.add 0) fun v1004 =>
Ret P n_node_Node_Kid [v1004, a1] w1003 fun v1005 w1006 =>
xFill [(.pointer none), (.int .i64 0)] [(0, 1, v1005)] fun c1007 =>
XDo P (storeVar 157 a1002 (.agg c1007.toArray)) w1006 fun w1008 =>
XLdN w1008 a1002 2 fun v1009 =>
K v1009 w1008
theorem W_union_end_kid {a0 a1 : Value} {K : Value → World → Prop} {w : World} (h : S_union_end_kid a0 a1 K w) : Ret P n_union_end_kid [a0, a1] w K :=
  vcF_of mixed Tryz.func190 (show S_union_end_kid a0 a1 K w = vcF P Tryz.f190 [a0, a1] w K from by kernel_rfl) h
/- (spunyarn/union.joiner).value -/
abbrev S_union_joiner_value (a0 : Value) (a1 : Value) (a2 : Value) (K : Value → World → Prop) (w0 : World) : Prop :=
XNew w0 (cellsV a0) 154 fun a1000 w1001 =>
Ret P n_node_Node_Val [a1] w1001 fun v1002 w1003 =>
xTup v1002 0 fun v1004 =>
xTup v1002 1 fun v1005 =>
Ret P n_node_Node_Val [a2] w1003 fun v1006 w1007 =>
xTup v1006 0 fun v1008 =>
xTup v1006 1 fun v1009 =>
/- 0 -/ XJ (fun J1010 =>
xIf v1005 (J1010 [v1009] w1007) (J1010 [(.bool false)] w1007)) fun vs1011 g1012 w1013 =>
xIf (vs1011.getD 0 undef) (XLd w1013 ((a1000.add 0).add 0) fun v1014 =>
xFunc v1014 [v1004, v1008] fun f1015 xs1016 =>
xCall P f1015 xs1016 w1013 fun v1017 w1018 =>
K (.tuple #[v1017, (.bool true)]) w1018) (xIf v1009 (K (.tuple #[v1008, (.bool true)]) w1013) (K (.tuple #[v1004, v1005]) w1013))
theorem W_union_joiner_value {a0 a1 a2 : Value} {K : Value → World → Prop} {w : World} (h : S_union_joiner_value a0 a1 a2 K w) : Ret P n_union_joiner_value [a0, a1, a2] w K :=
  vcF_of mixed Tryz.func191 (show S_union_joiner_value a0 a1 a2 K w = vcF P Tryz.f191 [a0, a1, a2] w K from by kernel_rfl) h
/- (spunyarn/union.joiner).write -/
abbrev S_union_joiner_write (a0 : Value) (a1 : Value) (a2 : Value) (K : Value → World → Prop) (w0 : World) : Prop :=
XNew w0 (cellsV a0) 154 fun a1000 w1001 =>
XNew w1001 (cellsV a2) 157 fun a1002 w1003 =>
xPEq P w1003 a1 (.pointer none) fun v1004 =>
xIf v1004 (XLdN w1003 a1000 4 fun v1005 =>
XLdN w1003 a1002 2 fun v1006 =>
Ret P n_union_joiner_copy [v1005, v1006] w1003 fun v1007 w1008 =>
K v1007 w1008) (K a1 w1003)
theorem W_union_joiner_write {a0 a1 a2 : Value} {K : Value → World → Prop} {w : World} (h : S_union_joiner_write a0 a1 a2 K w) : Ret P n_union_joiner_write [a0, a1, a2] w K :=
  vcF_of mixed Tryz.func192 (show S_union_joiner_write a0 a1 a2 K w = vcF P Tryz.f192 [a0, a1, a2] w K from by kernel_rfl) h
/- (spunyarn/union.joiner).done -/
abbrev S_union_joiner_done (a0 : Value) (a1 : Value) (a2 : Value) (K : Value → World → Prop) (w0 : World) : Prop :=
XNew w0 (cellsV a0) 154 fun a1000 w1001 =>
XNew w1001 (cellsV a2) 157 fun a1002 w1003 =>
xPEq P w1003 a1 (.pointer none) fun v1004 =>
xIf v1004 (XLdN w1003 a1000 4 fun v1005 =>
XLdN w1003 a1002 2 fun v1006 =>
Ret P n_union_joiner_whole [v1005, v1006] w1003 fun v1007 w1008 =>
K v1007 w1008) (K a1 w1003)
theorem W_union_joiner_done {a0 a1 a2 : Value} {K : Value → World → Prop} {w : World} (h : S_union_joiner_done a0 a1 a2 K w) : Ret P n_union_joiner_done [a0, a1, a2] w K :=
  vcF_of mixed Tryz.func193 (show S_union_joiner_done a0 a1 a2 K w = vcF P Tryz.f193 [a0, a1, a2] w K from by kernel_rfl) h
end Go.Proofs.YthnegkjhciakpaaGreatDoor
