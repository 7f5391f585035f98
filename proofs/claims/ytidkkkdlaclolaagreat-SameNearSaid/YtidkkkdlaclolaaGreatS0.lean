/-  Written by gen.py for this claim: of each function a form without frames, the same as the engine's condition by reckoning.  -/
import Derived.Test.YtidkkkdlaclolaaGreatSN
import Derived.Test.YtidkkkdlaclolaaGreatProg
namespace Go.Proofs.YtidkkkdlaclolaaGreat
open Go X
set_option linter.unusedVariables false
set_option maxRecDepth 100000
/- spunyarn/spunyarnref13.Sort -/
/- S_ref13_Sort_l1: 0=slot 6 k -/
def S_ref13_Sort_l1 (a0 : Value) (vs1002 : List Value) (J1007 : List Value → World → Prop) (vs1013 : List Value) (v1062 : Value) (I1066 : Nat → List Value → World → Prop) (n1067 : Nat) (vs1068 : List Value) (g1069 : Nat → Value) (w1070 : World) : Prop :=
xGt (vs1068.getD 0 undef) (vs1013.getD 0 undef) fun v1071 =>
xIf v1071 (xSub (vs1068.getD 0 undef) (.int .i64 1) fun v1072 =>
xIxS v1062 v1072 2 fun v1073 =>
xAt v1073 fun a1074 =>
XLdN w1070 a1074 2 fun v1075 =>
xIxS v1062 (vs1068.getD 0 undef) 2 fun v1076 =>
xAt v1076 fun a1078 =>
XDo P (storeVar 26 a1078 v1075) w1070 fun w1077 =>
xSub (vs1068.getD 0 undef) (.int .i64 1) fun v1079 =>
XNext I1066 n1067 [v1079] w1077) (xIxS a0 (vs1002.getD 0 undef) 2 fun v1080 =>
xAt v1080 fun a1081 =>
XLdN w1070 a1081 2 fun v1082 =>
xIxS v1062 (vs1013.getD 0 undef) 2 fun v1083 =>
xAt v1083 fun a1085 =>
XDo P (storeVar 26 a1085 v1082) w1070 fun w1084 =>
J1007 [(vs1013.getD 0 undef), v1062, (vs1068.getD 0 undef)] w1084)
/- S_ref13_Sort_l2: 0=slot 5 j -/
def S_ref13_Sort_l2 (a0 : Value) (vs1002 : List Value) (J1007 : List Value → World → Prop) (I1011 : Nat → List Value → World → Prop) (n1012 : Nat) (vs1013 : List Value) (g1014 : Nat → Value) (w1015 : World) : Prop :=
/- 0 -/ XJ (fun J1016 =>
xLen (vs1002.getD 2 undef) fun v1020 =>
xLt (vs1013.getD 0 undef) v1020 fun v1021 =>
xIf v1021 (xIxS (vs1002.getD 2 undef) (vs1013.getD 0 undef) 2 fun v1022 =>
xFld v1022 0 fun v1023 =>
xAt v1023 fun a1024 =>
XLd w1015.drew a1024 fun v1025 =>
xIxS a0 (vs1002.getD 0 undef) 2 fun v1026 =>
xFld v1026 0 fun v1027 =>
xAt v1027 fun a1028 =>
XLd w1015.drew a1028 fun v1029 =>
Ret P n_ref01_Cmp [v1025, v1029] w1015.drew fun v1030 w1031 =>
xLt v1030 (.int .i64 0) fun v1032 =>
J1016 [v1032] w1031) (J1016 [(.bool false)] (w1015.drew))) fun vs1017 g1018 w1019 =>
xIf (vs1017.getD 0 undef) (xAdd (vs1013.getD 0 undef) (.int .i64 1) fun v1033 =>
XNext I1011 n1012 [v1033] w1019) (/- 0 -/ XJ (fun J1034 =>
xLen (vs1002.getD 2 undef) fun v1038 =>
xLt (vs1013.getD 0 undef) v1038 fun v1039 =>
xIf v1039 (xIxS (vs1002.getD 2 undef) (vs1013.getD 0 undef) 2 fun v1040 =>
xFld v1040 0 fun v1041 =>
xAt v1041 fun a1042 =>
XLd w1019.drew a1042 fun v1043 =>
xIxS a0 (vs1002.getD 0 undef) 2 fun v1044 =>
xFld v1044 0 fun v1045 =>
xAt v1045 fun a1046 =>
XLd w1019.drew a1046 fun v1047 =>
Ret P n_ref01_Same [v1043, v1047] w1019.drew fun v1048 w1049 =>
J1034 [v1048] w1049) (J1034 [(.bool false)] (w1019.drew))) fun vs1035 g1036 w1037 =>
xIf (vs1035.getD 0 undef) (xIxS a0 (vs1002.getD 0 undef) 2 fun v1050 =>
xFld v1050 1 fun v1051 =>
xAt v1051 fun a1052 =>
XLd w1037 a1052 fun v1053 =>
xIxS (vs1002.getD 2 undef) (vs1013.getD 0 undef) 2 fun v1054 =>
xFld v1054 1 fun v1055 =>
xAt v1055 fun a1057 =>
XSt w1037 a1057 v1053 fun w1056 =>
J1007 [(vs1013.getD 0 undef), (vs1002.getD 2 undef), (vs1002.getD 3 undef)] w1056) (xFill [(.slice none 0 0), (.int .u64 0)] [] fun c1058 =>
xFill (repL [(.slice none 0 0), (.int .u64 0)] 1) [(0, 2, (.agg c1058.toArray))] fun c1059 =>
XNew w1037 c1059 26 fun a1060 w1061 =>
XRun P (Builtin.append_ #[22, 22] 22 #[(vs1002.getD 2 undef), (.slice (some a1060) 1 1)]) w1061 fun v1062 w1063 =>
xLen v1062 fun v1064 =>
xSub v1064 (.int .i64 1) fun v1065 =>
XLoop [v1065] w1063 (S_ref13_Sort_l1 a0 vs1002 J1007 vs1013 v1062)))
/- S_ref13_Sort_l3: 0=slot 4 i 1=slot 5 j 2=slot 3 out 3=slot 6 k -/
def S_ref13_Sort_l3 (K : Value → World → Prop) (a0 : Value) (I1000 : Nat → List Value → World → Prop) (n1001 : Nat) (vs1002 : List Value) (g1003 : Nat → Value) (w1004 : World) : Prop :=
xLen a0 fun v1005 =>
xLt (vs1002.getD 0 undef) v1005 fun v1006 =>
xIf v1006 (/- 0 j 1 out 2 k -/ XJ (fun J1007 =>
XLoop [(.int .i64 0)] w1004 (S_ref13_Sort_l2 a0 vs1002 J1007)) fun vs1008 g1009 w1010 =>
xAdd (vs1002.getD 0 undef) (.int .i64 1) fun v1086 =>
XNext I1000 n1001 [v1086, (vs1008.getD 0 undef), (vs1008.getD 1 undef), (vs1008.getD 2 undef)] w1010) (K (vs1002.getD 2 undef) w1004)
abbrev S_ref13_Sort (a0 : Value) (K : Value → World → Prop) (w0 : World) : Prop :=
XLoop [(.int .i64 0), undef, (.slice none 0 0), undef] w0 (S_ref13_Sort_l3 K a0)
theorem W_ref13_Sort {a0 : Value} {K : Value → World → Prop} {w : World} (h : S_ref13_Sort a0 K w) : Ret P n_ref13_Sort [a0] w K :=
  vcF_of mixed Tryz.func7 (show S_ref13_Sort a0 K w = vcF P Tryz.f7 [a0] w K from by kernel_rfl) h
/- spunyarn/put.Put -/
abbrev S_put_Put (a0 : Value) (a1 : Value) (a2 : Value) (a3 : Value) (a4 : Value) (K : Value → World → Prop) (w0 : World) : Prop :=
xEq a3 (.int .u64 0) fun v1000 =>
xIf v1000 (K (.tuple #[(.pointer none), (.int .i64 1)]) w0) (Ret P n_keys_May [a1] w0 fun v1001 w1002 =>
xNe v1001 (.int .i64 0) fun v1003 =>
xIf v1003 (K (.tuple #[(.pointer none), v1001]) w1002) (Ret P n_find_Get [a0, a1] w1002 fun v1004 w1005 =>
xTup v1004 0 fun v1006 =>
xTup v1004 1 fun v1007 =>
/- 0 -/ XJ (fun J1008 =>
xIf v1007 (xEq v1006 a2 fun v1012 =>
J1008 [v1012] w1005) (J1008 [(.bool false)] w1005)) fun vs1009 g1010 w1011 =>
xIf (vs1009.getD 0 undef) (K (.tuple #[a0, (.int .i64 0)]) w1011) (xFill [(.int .u64 0), (.int .u64 0), (.pointer none)] [(0, 1, a2), (1, 1, a3), (2, 1, a4)] fun c1013 =>
Ret P n_put_putter_into [(.agg c1013.toArray), a0, a1] w1011 fun v1014 w1015 =>
K (.tuple #[v1014, (.int .i64 0)]) w1015)))
theorem W_put_Put {a0 a1 a2 a3 a4 : Value} {K : Value → World → Prop} {w : World} (h : S_put_Put a0 a1 a2 a3 a4 K w) : Ret P n_put_Put [a0, a1, a2, a3, a4] w K :=
  vcF_of mixed Tryz.func8 (show S_put_Put a0 a1 a2 a3 a4 K w = vcF P Tryz.f8 [a0, a1, a2, a3, a4] w K from by kernel_rfl) h
/- spunyarn/del.Del -/
abbrev S_del_Del (a0 : Value) (a1 : Value) (a2 : Value) (a3 : Value) (K : Value → World → Prop) (w0 : World) : Prop :=
xEq a2 (.int .u64 0) fun v1000 =>
xIf v1000 (K (.tuple #[(.pointer none), (.bool false), (.int .i64 1)]) w0) (Ret P n_keys_May [a1] w0 fun v1001 w1002 =>
xNe v1001 (.int .i64 0) fun v1003 =>
xIf v1003 (K (.tuple #[(.pointer none), (.bool false), v1001]) w1002) (Ret P n_find_Has [a0, a1] w1002 fun v1004 w1005 =>
xNot v1004 fun v1006 =>
xIf v1006 (K (.tuple #[a0, (.bool false), (.int .i64 0)]) w1005) (xFill [(.int .u64 0), (.pointer none)] [(0, 1, a2), (1, 1, a3)] fun c1007 =>
Ret P n_del_taker_out [(.agg c1007.toArray), a0, a1] w1005 fun v1008 w1009 =>
K (.tuple #[v1008, (.bool true), (.int .i64 0)]) w1009)))
theorem W_del_Del {a0 a1 a2 a3 : Value} {K : Value → World → Prop} {w : World} (h : S_del_Del a0 a1 a2 a3 K w) : Ret P n_del_Del [a0, a1, a2, a3] w K :=
  vcF_of mixed Tryz.func9 (show S_del_Del a0 a1 a2 a3 K w = vcF P Tryz.f9 [a0, a1, a2, a3] w K from by kernel_rfl) h
/- spunyarn/find.Steps -/
abbrev S_find_Steps (a0 : Value) (a1 : Value) (K : Value → World → Prop) (w0 : World) : Prop :=
Ret P n_find_each [a0, a1, (.func (.func 22) #[] #[])] w0 fun v1000 w1001 =>
K v1000 w1001
theorem W_find_Steps {a0 a1 : Value} {K : Value → World → Prop} {w : World} (h : S_find_Steps a0 a1 K w) : Ret P n_find_Steps [a0, a1] w K :=
  vcF_of mixed Tryz.func10 (show S_find_Steps a0 a1 K w = vcF P Tryz.f10 [a0, a1] w K from by kernel_rfl) h
/- spunyarn/find.Get -/
/- S_find_Get_l1: 0=slot 4 1=slot 5 -/
def S_find_Get_l1 (K : Value → World → Prop) (a1001 : Addr) (I1003 : Nat → List Value → World → Prop) (n1004 : Nat) (vs1005 : List Value) (g1006 : Nat → Value) (w1007 : World) : Prop :=
Ret P n_find_walk_into [(.pointer (some a1001))] w1007 fun v1008 w1009 =>
xIf v1008 (Ret P n_find_walk_ends [(.pointer (some a1001))] w1009 fun v1010 w1011 =>
xIf v1010 (XLd w1011 (a1001.add 0) fun v1012 =>
Ret P n_node_Node_Val [v1012] w1011 fun v1013 w1014 =>
xTup v1013 0 fun v1015 =>
xTup v1013 1 fun v1016 =>
K (.tuple #[v1015, v1016]) w1014) (Ret P n_find_walk_down [(.pointer (some a1001))] w1011 fun v1017 w1018 =>
XNext I1003 n1004 [(vs1005.getD 0 undef), (vs1005.getD 1 undef)] w1018)) (K (.tuple #[(.int .u64 0), (.bool false)]) w1009)
abbrev S_find_Get (a0 : Value) (a1 : Value) (K : Value → World → Prop) (w0 : World) : Prop :=
xFill [(.pointer none), (.slice none 0 0), (.int .i64 0), (.int .i64 0)] [(0, 1, a0), (1, 1, a1)] fun c1000 =>
XNew w0 (cellsV (.agg c1000.toArray)) 60 fun a1001 w1002 =>
XLoop [(.int .u64 0), (.bool false)] w1002 (S_find_Get_l1 K a1001)
theorem W_find_Get {a0 a1 : Value} {K : Value → World → Prop} {w : World} (h : S_find_Get a0 a1 K w) : Ret P n_find_Get [a0, a1] w K :=
  vcF_of mixed Tryz.func11 (show S_find_Get a0 a1 K w = vcF P Tryz.f11 [a0, a1] w K from by kernel_rfl) h
/- spunyarn/canon.Build -/
abbrev S_canon_Build (a0 : Value) (a1 : Value) (a2 : Value) (K : Value → World → Prop) (w0 : World) : Prop :=
Ret P n_canon_check [a2] w0 fun v1000 w1001 =>
xNe v1000 (.int .i64 0) fun v1002 =>
xIf v1002 (K (.tuple #[(.pointer none), v1000]) w1001) (xFill [(.pointer none), (.int .u64 0)] [(0, 1, a0), (1, 1, a1)] fun c1003 =>
Ret P n_canon_maker_tree [(.agg c1003.toArray), a2, (.int .i64 0)] w1001 fun v1004 w1005 =>
K (.tuple #[v1004, (.int .i64 0)]) w1005)
theorem W_canon_Build {a0 a1 a2 : Value} {K : Value → World → Prop} {w : World} (h : S_canon_Build a0 a1 a2 K w) : Ret P n_canon_Build [a0, a1, a2] w K :=
  vcF_of mixed Tryz.func14 (show S_canon_Build a0 a1 a2 K w = vcF P Tryz.f14 [a0, a1, a2] w K from by kernel_rfl) h
/- spunyarn/spunyarnref01.Cmp -/
abbrev S_ref01_Cmp (a0 : Value) (a1 : Value) (K : Value → World → Prop) (w0 : World) : Prop :=
Ret P n_ref01_Common [a0, a1] w0 fun v1000 w1001 =>
/- 0 -/ XJ (fun J1002 =>
xLen a0 fun v1006 =>
xEq v1000 v1006 fun v1007 =>
xIf v1007 (xLen a1 fun v1008 =>
xEq v1000 v1008 fun v1009 =>
J1002 [v1009] w1001) (J1002 [(.bool false)] w1001)) fun vs1003 g1004 w1005 =>
xIf (vs1003.getD 0 undef) (K (.int .i64 0) w1005) (xLen a0 fun v1010 =>
xEq v1000 v1010 fun v1011 =>
xIf v1011 (K (.int .i64 (-1)) w1005) (xLen a1 fun v1012 =>
xEq v1000 v1012 fun v1013 =>
xIf v1013 (K (.int .i64 1) w1005) (xIxS a0 v1000 1 fun v1014 =>
xAt v1014 fun a1015 =>
XLd w1005.drew a1015 fun v1016 =>
xIxS a1 v1000 1 fun v1017 =>
xAt v1017 fun a1018 =>
XLd w1005.drew a1018 fun v1019 =>
xLt v1016 v1019 fun v1020 =>
xIf v1020 (K (.int .i64 (-1)) (w1005.drew)) (K (.int .i64 1) (w1005.drew)))))
theorem W_ref01_Cmp {a0 a1 : Value} {K : Value → World → Prop} {w : World} (h : S_ref01_Cmp a0 a1 K w) : Ret P n_ref01_Cmp [a0, a1] w K :=
  vcF_of mixed Tryz.func15 (show S_ref01_Cmp a0 a1 K w = vcF P Tryz.f15 [a0, a1] w K from by kernel_rfl) h
/- spunyarn/spunyarnref01.Same -/
abbrev S_ref01_Same (a0 : Value) (a1 : Value) (K : Value → World → Prop) (w0 : World) : Prop :=
Ret P n_ref01_Cmp [a0, a1] w0 fun v1000 w1001 =>
xEq v1000 (.int .i64 0) fun v1002 =>
K v1002 w1001
theorem W_ref01_Same {a0 a1 : Value} {K : Value → World → Prop} {w : World} (h : S_ref01_Same a0 a1 K w) : Ret P n_ref01_Same [a0, a1] w K :=
  vcF_of mixed Tryz.func16 (show S_ref01_Same a0 a1 K w = vcF P Tryz.f16 [a0, a1] w K from by kernel_rfl) h
/- spunyarn/keys.May -/
abbrev S_keys_May (a0 : Value) (K : Value → World → Prop) (w0 : World) : Prop :=
xLen a0 fun v1000 =>
xGt v1000 (.int .i64 65535) fun v1001 =>
xIf v1001 (K (.int .i64 8) w0) (K (.int .i64 0) w0)
theorem W_keys_May {a0 : Value} {K : Value → World → Prop} {w : World} (h : S_keys_May a0 K w) : Ret P n_keys_May [a0] w K :=
  vcF_of mixed Tryz.func17 (show S_keys_May a0 K w = vcF P Tryz.f17 [a0] w K from by kernel_rfl) h
/- (spunyarn/put.putter).into -/
abbrev S_put_putter_into (a0 : Value) (a1 : Value) (a2 : Value) (K : Value → World → Prop) (w0 : World) : Prop :=
XNew w0 (cellsV a0) 51 fun a1000 w1001 =>
xPEq P w1001 a1 (.pointer none) fun v1002 =>
xIf v1002 (XLd w1001 (a1000.add 2) fun v1003 =>
XLd w1001 (a1000.add 1) fun v1004 =>
XLd w1001 (a1000.add 0) fun v1005 =>
Ret P n_node_Leaf [v1003, v1004, a2, v1005] w1001 fun v1006 w1007 =>
K v1006 w1007) (Ret P n_node_Node_Part [a1] w1001 fun v1008 w1009 =>
Ret P n_keys_Common [v1008, a2] w1009 fun v1010 w1011 =>
Ret P n_node_Node_Kind [a1] w1011 fun v1012 w1013 =>
xEq v1012 (.int .i64 1) fun v1014 =>
/- 0 1 2 3 -/ XJ (fun J1015 =>
/- 0 -/ XJ (fun J1019 =>
xLen v1008 fun v1023 =>
xEq v1010 v1023 fun v1024 =>
xIf v1024 (xLen a2 fun v1025 =>
xEq v1010 v1025 fun v1026 =>
J1019 [v1026] w1013) (J1019 [(.bool false)] w1013)) fun vs1020 g1021 w1022 =>
xIf (vs1020.getD 0 undef) (XLdN w1022 a1000 3 fun v1027 =>
Ret P n_put_putter_here [v1027, a1] w1022 fun v1028 w1029 =>
K v1028 w1029) (xLen v1008 fun v1030 =>
xLt v1010 v1030 fun v1031 =>
xIf v1031 (J1015 [(vs1020.getD 0 undef), v1031, undef, (.pointer none)] w1022) (xIf v1014 (J1015 [(vs1020.getD 0 undef), v1031, v1014, (.pointer none)] w1022) (XLdN w1022.drew a1000 3 fun v1032 =>
xCutS 1 a2 (some v1010) none none fun v1033 =>
Ret P n_put_putter_below [v1032, a1, v1033] w1022.drew fun v1034 w1035 =>
K v1034 w1035)))) fun vs1016 g1017 w1018 =>
XLdN w1018 a1000 3 fun v1036 =>
Ret P n_put_putter_split [v1036, a1, v1008, a2, v1010] w1018 fun v1037 w1038 =>
K v1037 w1038)
theorem W_put_putter_into {a0 a1 a2 : Value} {K : Value → World → Prop} {w : World} (h : S_put_putter_into a0 a1 a2 K w) : Ret P n_put_putter_into [a0, a1, a2] w K :=
  vcF_of mixed Tryz.func18 (show S_put_putter_into a0 a1 a2 K w = vcF P Tryz.f18 [a0, a1, a2] w K from by kernel_rfl) h
/- spunyarn/find.Has -/
abbrev S_find_Has (a0 : Value) (a1 : Value) (K : Value → World → Prop) (w0 : World) : Prop :=
Ret P n_find_Get [a0, a1] w0 fun v1000 w1001 =>
xTup v1000 0 fun v1002 =>
xTup v1000 1 fun v1003 =>
K v1003 w1001
theorem W_find_Has {a0 a1 : Value} {K : Value → World → Prop} {w : World} (h : S_find_Has a0 a1 K w) : Ret P n_find_Has [a0, a1] w K :=
  vcF_of mixed Tryz.func19 (show S_find_Has a0 a1 K w = vcF P Tryz.f19 [a0, a1] w K from by kernel_rfl) h
/- (spunyarn/del.taker).out -/
abbrev S_del_taker_out (a0 : Value) (a1 : Value) (a2 : Value) (K : Value → World → Prop) (w0 : World) : Prop :=
XNew w0 (cellsV a0) 55 fun a1000 w1001 =>
Ret P n_node_Node_Part [a1] w1001 fun v1002 w1003 =>
xLen v1002 fun v1004 =>
xCutS 1 a2 (some v1004) none none fun v1005 =>
xLen v1005 fun v1006 =>
xEq v1006 (.int .i64 0) fun v1007 =>
xIf v1007 (XLdN w1003 a1000 2 fun v1008 =>
Ret P n_del_taker_here [v1008, a1] w1003 fun v1009 w1010 =>
K v1009 w1010) (xIxS v1005 (.int .i64 0) 1 fun v1011 =>
xAt v1011 fun a1012 =>
XLd w1003 a1012 fun v1013 =>
Ret P n_node_Node_Kid [a1, v1013] w1003 fun v1014 w1015 =>
XLdN w1015.drew a1000 2 fun v1016 =>
xCutS 1 v1005 (some (.int .i64 1)) none none fun v1017 =>
Ret P n_del_taker_out [v1016, v1014, v1017] w1015.drew fun v1018 w1019 =>
xPEq P w1019 v1018 v1014 fun v1020 =>
xIf v1020 (K a1 w1019) (xPNe P w1019 v1018 (.pointer none) fun v1021 =>
xIf v1021 (XLd w1019 (a1000.add 1) fun v1022 =>
XLd w1019 (a1000.add 0) fun v1023 =>
Ret P n_node_Node_Own [a1, v1022, v1023] w1019 fun v1024 w1025 =>
XLd w1025.drew (a1000.add 0) fun v1026 =>
xIxS v1005 (.int .i64 0) 1 fun v1027 =>
xAt v1027 fun a1028 =>
XLd w1025.drew a1028 fun v1029 =>
Ret P n_node_Node_SetKid [v1024, v1026, v1029, v1018] w1025.drew fun v1030 w1031 =>
K v1024 w1031) (XLdN w1019.drew a1000 2 fun v1032 =>
xIxS v1005 (.int .i64 0) 1 fun v1033 =>
xAt v1033 fun a1034 =>
XLd w1019.drew a1034 fun v1035 =>
Ret P n_del_taker_without [v1032, a1, v1035] w1019.drew fun v1036 w1037 =>
K v1036 w1037)))
theorem W_del_taker_out {a0 a1 a2 : Value} {K : Value → World → Prop} {w : World} (h : S_del_taker_out a0 a1 a2 K w) : Ret P n_del_taker_out [a0, a1, a2] w K :=
  vcF_of mixed Tryz.func20 (show S_del_taker_out a0 a1 a2 K w = vcF P Tryz.f20 [a0, a1, a2] w K from by kernel_rfl) h
/- spunyarn/find.each -/
/- S_find_each_l1: 0=slot 8 v 1=slot 9 has -/
def S_find_each_l1 (a2 : Value) (a1001 : Addr) (J1003 : List Value → World → Prop) (I1007 : Nat → List Value → World → Prop) (n1008 : Nat) (vs1009 : List Value) (g1010 : Nat → Value) (w1011 : World) : Prop :=
Ret P n_find_walk_into [(.pointer (some a1001))] w1011 fun v1012 w1013 =>
xIf v1012 (/- 0 v 1 has -/ XJ (fun J1014 =>
XLd w1013 (a1001.add 0) fun v1018 =>
Ret P n_node_Node_Val [v1018] w1013 fun v1019 w1020 =>
xTup v1019 0 fun v1021 =>
xTup v1019 1 fun v1022 =>
xIf v1022 (XLd w1020 (a1001.add 2) fun v1023 =>
xFunc a2 [v1023, v1021] fun f1024 xs1025 =>
xCall P f1024 xs1025 w1020 fun v1026 w1027 =>
J1014 [v1021, v1022] w1027) (J1014 [v1021, v1022] w1020)) fun vs1015 g1016 w1017 =>
Ret P n_find_walk_ends [(.pointer (some a1001))] w1017 fun v1028 w1029 =>
xIf v1028 (J1003 [(vs1015.getD 0 undef), (vs1015.getD 1 undef)] w1029) (Ret P n_find_walk_down [(.pointer (some a1001))] w1029 fun v1030 w1031 =>
XNext I1007 n1008 [(vs1015.getD 0 undef), (vs1015.getD 1 undef)] w1031)) (J1003 [(vs1009.getD 0 undef), (vs1009.getD 1 undef)] w1013)
abbrev S_find_each (a0 : Value) (a1 : Value) (a2 : Value) (K : Value → World → Prop) (w0 : World) : Prop :=
xFill [(.pointer none), (.slice none 0 0), (.int .i64 0), (.int .i64 0)] [(0, 1, a0), (1, 1, a1)] fun c1000 =>
XNew w0 (cellsV (.agg c1000.toArray)) 60 fun a1001 w1002 =>
/- 0 v 1 has -/ XJ (fun J1003 =>
XLoop [undef, undef] w1002 (S_find_each_l1 a2 a1001 J1003)) fun vs1004 g1005 w1006 =>
XLd w1006 (a1001.add 3) fun v1032 =>
K v1032 w1006
theorem W_find_each {a0 a1 a2 : Value} {K : Value → World → Prop} {w : World} (h : S_find_each a0 a1 a2 K w) : Ret P n_find_each [a0, a1, a2] w K :=
  vcF_of mixed Tryz.func21 (show S_find_each a0 a1 a2 K w = vcF P Tryz.f21 [a0, a1, a2] w K from by kernel_rfl) h
/- spunyarn/find.Steps$1 -/
abbrev S_find_Steps_1 (a0 : Value) (a1 : Value) (K : Value → World → Prop) (w0 : World) : Prop :=
K (.tuple #[]) w0
theorem W_find_Steps_1 {a0 a1 : Value} {K : Value → World → Prop} {w : World} (h : S_find_Steps_1 a0 a1 K w) : Ret P n_find_Steps_1 [a0, a1] w K :=
  vcF_of mixed Tryz.func22 (show S_find_Steps_1 a0 a1 K w = vcF P Tryz.f22 [a0, a1] w K from by kernel_rfl) h
/- (*spunyarn/find.walk).into -/
abbrev S_find_walk_into (a0 : Value) (K : Value → World → Prop) (w0 : World) : Prop :=
xAt a0 fun a1000 =>
XLd w0 (a1000.add 0) fun v1001 =>
xPEq P w0 v1001 (.pointer none) fun v1002 =>
xIf v1002 (K (.bool false) w0) (xAt a0 fun a1003 =>
XLd w0 (a1003.add 3) fun v1004 =>
xAdd v1004 (.int .i64 1) fun v1005 =>
xAt a0 fun a1006 =>
XSt w0 (a1006.add 3) v1005 fun w1007 =>
xAt a0 fun a1008 =>
XLd w1007 (a1008.add 0) fun v1009 =>
Ret P n_node_Node_Part [v1009] w1007 fun v1010 w1011 =>
xAt a0 fun a1012 =>
XLd w1011.drew (a1012.add 1) fun v1013 =>
xAt a0 fun a1014 =>
XLd w1011.drew (a1014.add 2) fun v1015 =>
xCutS 1 v1013 (some v1015) none none fun v1016 =>
Ret P n_bytes_HasPrefix [v1016, v1010] w1011.drew fun v1017 w1018 =>
xNot v1017 fun v1019 =>
xIf v1019 (K (.bool false) w1018) (xAt a0 fun a1020 =>
XLd w1018 (a1020.add 2) fun v1021 =>
xLen v1010 fun v1022 =>
xAdd v1021 v1022 fun v1023 =>
xAt a0 fun a1024 =>
XSt w1018 (a1024.add 2) v1023 fun w1025 =>
K (.bool true) w1025))
theorem W_find_walk_into {a0 : Value} {K : Value → World → Prop} {w : World} (h : S_find_walk_into a0 K w) : Ret P n_find_walk_into [a0] w K :=
  vcF_of mixed Tryz.func23 (show S_find_walk_into a0 K w = vcF P Tryz.f23 [a0] w K from by kernel_rfl) h
/- (*spunyarn/find.walk).ends -/
abbrev S_find_walk_ends (a0 : Value) (K : Value → World → Prop) (w0 : World) : Prop :=
xAt a0 fun a1000 =>
XLd w0.drew (a1000.add 2) fun v1001 =>
xAt a0 fun a1002 =>
XLd w0.drew (a1002.add 1) fun v1003 =>
xLen v1003 fun v1004 =>
xEq v1001 v1004 fun v1005 =>
K v1005 (w0.drew)
theorem W_find_walk_ends {a0 : Value} {K : Value → World → Prop} {w : World} (h : S_find_walk_ends a0 K w) : Ret P n_find_walk_ends [a0] w K :=
  vcF_of mixed Tryz.func24 (show S_find_walk_ends a0 K w = vcF P Tryz.f24 [a0] w K from by kernel_rfl) h
/- (*spunyarn/node.Node).Val -/
abbrev S_node_Node_Val (a0 : Value) (K : Value → World → Prop) (w0 : World) : Prop :=
/- 0 -/ XJ (fun J1000 =>
xPEq P w0 a0 (.pointer none) fun v1004 =>
xIf v1004 (J1000 [(.bool true)] w0) (xAt a0 fun a1005 =>
XLd w0 (a1005.add 3) fun v1006 =>
xNot v1006 fun v1007 =>
J1000 [v1007] w0)) fun vs1001 g1002 w1003 =>
xIf (vs1001.getD 0 undef) (K (.tuple #[(.int .u64 0), (.bool false)]) w1003) (xAt a0 fun a1008 =>
XLd w1003 (a1008.add 2) fun v1009 =>
K (.tuple #[v1009, (.bool true)]) w1003)
theorem W_node_Node_Val {a0 : Value} {K : Value → World → Prop} {w : World} (h : S_node_Node_Val a0 K w) : Ret P n_node_Node_Val [a0] w K :=
  vcF_of mixed Tryz.func25 (show S_node_Node_Val a0 K w = vcF P Tryz.f25 [a0] w K from by kernel_rfl) h
/- (*spunyarn/find.walk).down -/
abbrev S_find_walk_down (a0 : Value) (K : Value → World → Prop) (w0 : World) : Prop :=
xAt a0 fun a1000 =>
XLd w0.drew (a1000.add 0) fun v1001 =>
xAt a0 fun a1002 =>
XLd w0.drew (a1002.add 1) fun v1003 =>
xAt a0 fun a1004 =>
XLd w0.drew (a1004.add 2) fun v1005 =>
xIxS v1003 v1005 1 fun v1006 =>
xAt v1006 fun a1007 =>
XLd w0.drew a1007 fun v1008 =>
Ret P n_node_Node_Kid [v1001, v1008] w0.drew fun v1009 w1010 =>
xAt a0 fun a1011 =>
XSt w1010 (a1011.add 0) v1009 fun w1012 =>
xAt a0 fun a1013 =>
XLd w1012 (a1013.add 2) fun v1014 =>
xAdd v1014 (.int .i64 1) fun v1015 =>
xAt a0 fun a1016 =>
XSt w1012 (a1016.add 2) v1015 fun w1017 =>
K (.tuple #[]) w1017
theorem W_find_walk_down {a0 : Value} {K : Value → World → Prop} {w : World} (h : S_find_walk_down a0 K w) : Ret P n_find_walk_down [a0] w K :=
  vcF_of mixed Tryz.func26 (show S_find_walk_down a0 K w = vcF P Tryz.f26 [a0] w K from by kernel_rfl) h
/- spunyarn/canon.check -/
/- S_canon_check_l1: 0=slot 8 1=slot 5 e 2=slot 2 -/
def S_canon_check_l1 (K : Value → World → Prop) (a0 : Value) (v1000 : Value) (I1001 : Nat → List Value → World → Prop) (n1002 : Nat) (vs1003 : List Value) (g1004 : Nat → Value) (w1005 : World) : Prop :=
xLt (vs1003.getD 0 undef) v1000 fun v1006 =>
xIf v1006 (xIxS a0 (vs1003.getD 0 undef) 2 fun v1007 =>
xAt v1007 fun a1008 =>
XLdN w1005 a1008 2 fun v1009 =>
XNew w1005 [(.slice none 0 0), (.int .u64 0)] 44 fun a1010 w1011 =>
XDo P (storeVar 44 a1010 v1009) w1011 fun w1012 =>
XLd w1012 (a1010.add 0) fun v1013 =>
Ret P n_keys_May [v1013] w1012 fun v1014 w1015 =>
xNe v1014 (.int .i64 0) fun v1016 =>
xIf v1016 (K v1014 w1015) (xAdd (vs1003.getD 0 undef) (.int .i64 1) fun v1017 =>
XNext I1001 n1002 [v1017, v1014, (vs1003.getD 2 undef)] w1015)) (Ret P n_keys_Sorted [a0] w1005 fun v1018 w1019 =>
xNot v1018 fun v1020 =>
xIf v1020 (K (.int .i64 12) w1019) (K (.int .i64 0) w1019))
abbrev S_canon_check (a0 : Value) (K : Value → World → Prop) (w0 : World) : Prop :=
xLen a0 fun v1000 =>
XLoop [(.int .i64 0), undef, (.int .i64 0)] w0 (S_canon_check_l1 K a0 v1000)
theorem W_canon_check {a0 : Value} {K : Value → World → Prop} {w : World} (h : S_canon_check a0 K w) : Ret P n_canon_check [a0] w K :=
  vcF_of mixed Tryz.func28 (show S_canon_check a0 K w = vcF P Tryz.f28 [a0] w K from by kernel_rfl) h
/- (spunyarn/canon.maker).tree -/
/- S_canon_maker_tree_l1: 0=slot 11 many -/
def S_canon_maker_tree_l1 (a1000 : Addr) (v1028 : Value) (v1033 : Value) (I1049 : Nat → List Value → World → Prop) (n1050 : Nat) (vs1051 : List Value) (v1062 : Value) (I1063 : Nat → List Value → World → Prop) (n1064 : Nat) (vs1065 : List Value) (g1066 : Nat → Value) (w1067 : World) : Prop :=
/- 0 -/ XJ (fun J1068 =>
xLen (vs1051.getD 0 undef) fun v1072 =>
xLt (vs1065.getD 0 undef) v1072 fun v1073 =>
xIf v1073 (xIxS (vs1051.getD 0 undef) (vs1065.getD 0 undef) 2 fun v1074 =>
xFld v1074 0 fun v1075 =>
xAt v1075 fun a1076 =>
XLd w1067 a1076 fun v1077 =>
xIxS v1077 v1028 1 fun v1078 =>
xAt v1078 fun a1079 =>
XLd w1067 a1079 fun v1080 =>
xEq v1080 v1062 fun v1081 =>
J1068 [v1081] w1067) (J1068 [(.bool false)] w1067)) fun vs1069 g1070 w1071 =>
xIf (vs1069.getD 0 undef) (xAdd (vs1065.getD 0 undef) (.int .i64 1) fun v1082 =>
XNext I1063 n1064 [v1082] w1071) (XLd w1071.drew (a1000.add 1) fun v1083 =>
XLdN w1071.drew a1000 2 fun v1084 =>
xCutS 2 (vs1051.getD 0 undef) none (some (vs1065.getD 0 undef)) none fun v1085 =>
xAdd v1028 (.int .i64 1) fun v1086 =>
Ret P n_canon_maker_tree [v1084, v1085, v1086] w1071.drew fun v1087 w1088 =>
xKeep1 w1088 (.pointer (some (a1000.add 1))) v1083 ∧ (Ret P n_node_Node_SetKid [v1033, v1083, v1062, v1087] w1088 fun v1089 w1090 =>
xCutS 2 (vs1051.getD 0 undef) (some (vs1065.getD 0 undef)) none none fun v1091 =>
XNext I1049 n1050 [v1091, v1062, (vs1065.getD 0 undef)] w1090))
/- S_canon_maker_tree_l2: 0=slot 1 l 1=slot 10 b 2=slot 11 many -/
def S_canon_maker_tree_l2 (K : Value → World → Prop) (a1000 : Addr) (v1028 : Value) (v1033 : Value) (I1049 : Nat → List Value → World → Prop) (n1050 : Nat) (vs1051 : List Value) (g1052 : Nat → Value) (w1053 : World) : Prop :=
xLen (vs1051.getD 0 undef) fun v1054 =>
xGt v1054 (.int .i64 0) fun v1055 =>
xIf v1055 (xIxS (vs1051.getD 0 undef) (.int .i64 0) 2 fun v1056 =>
xFld v1056 0 fun v1057 =>
xAt v1057 fun a1058 =>
XLd w1053 a1058 fun v1059 =>
xIxS v1059 v1028 1 fun v1060 =>
xAt v1060 fun a1061 =>
XLd w1053 a1061 fun v1062 =>
XLoop [(.int .i64 1)] w1053 (S_canon_maker_tree_l1 a1000 v1028 v1033 I1049 n1050 vs1051 v1062)) (K v1033 w1053)
abbrev S_canon_maker_tree (a0 : Value) (a1 : Value) (a2 : Value) (K : Value → World → Prop) (w0 : World) : Prop :=
XNew w0 (cellsV a0) 67 fun a1000 w1001 =>
xLen a1 fun v1002 =>
xEq v1002 (.int .i64 0) fun v1003 =>
xIf v1003 (K (.pointer none) w1001) (xEq v1002 (.int .i64 1) fun v1004 =>
xIf v1004 (XLd w1001.drew (a1000.add 0) fun v1005 =>
XLd w1001.drew (a1000.add 1) fun v1006 =>
xIxS a1 (.int .i64 0) 2 fun v1007 =>
xFld v1007 0 fun v1008 =>
xAt v1008 fun a1009 =>
XLd w1001.drew a1009 fun v1010 =>
xCutS 1 v1010 (some a2) none none fun v1011 =>
xIxS a1 (.int .i64 0) 2 fun v1012 =>
xFld v1012 1 fun v1013 =>
xAt v1013 fun a1014 =>
XLd w1001.drew a1014 fun v1015 =>
Ret P n_node_Leaf [v1005, v1006, v1011, v1015] w1001.drew fun v1016 w1017 =>
K v1016 w1017) (xIxS a1 (.int .i64 0) 2 fun v1018 =>
xFld v1018 0 fun v1019 =>
xAt v1019 fun a1020 =>
XLd w1001 a1020 fun v1021 =>
xLen a1 fun v1022 =>
xSub v1022 (.int .i64 1) fun v1023 =>
xIxS a1 v1023 2 fun v1024 =>
xFld v1024 0 fun v1025 =>
xAt v1025 fun a1026 =>
XLd w1001 a1026 fun v1027 =>
Ret P n_keys_Common [v1021, v1027] w1001 fun v1028 w1029 =>
XLd w1029.drew (a1000.add 0) fun v1030 =>
XLd w1029.drew (a1000.add 1) fun v1031 =>
xCutS 1 v1021 (some a2) (some v1028) none fun v1032 =>
Ret P n_node_Inner [v1030, v1031, v1032] w1029.drew fun v1033 w1034 =>
/- 0 l -/ XJ (fun J1035 =>
xLen v1021 fun v1039 =>
xEq v1039 v1028 fun v1040 =>
xIf v1040 (XLd w1034.drew (a1000.add 1) fun v1041 =>
xIxS a1 (.int .i64 0) 2 fun v1042 =>
xFld v1042 1 fun v1043 =>
xAt v1043 fun a1044 =>
XLd w1034.drew a1044 fun v1045 =>
Ret P n_node_Node_SetVal [v1033, v1041, v1045] w1034.drew fun v1046 w1047 =>
xCutS 2 a1 (some (.int .i64 1)) none none fun v1048 =>
J1035 [v1048] w1047) (J1035 [a1] w1034)) fun vs1036 g1037 w1038 =>
XLoop [(vs1036.getD 0 undef), undef, undef] w1038 (S_canon_maker_tree_l2 K a1000 v1028 v1033)))
theorem W_canon_maker_tree {a0 a1 a2 : Value} {K : Value → World → Prop} {w : World} (h : S_canon_maker_tree a0 a1 a2 K w) : Ret P n_canon_maker_tree [a0, a1, a2] w K :=
  vcF_of mixed Tryz.func29 (show S_canon_maker_tree a0 a1 a2 K w = vcF P Tryz.f29 [a0, a1, a2] w K from by kernel_rfl) h
/- spunyarn/spunyarnref01.Common -/
/- S_ref01_Common_l1: 0=slot 5 n -/
def S_ref01_Common_l1 (K : Value → World → Prop) (a0 : Value) (a1 : Value) (I1000 : Nat → List Value → World → Prop) (n1001 : Nat) (vs1002 : List Value) (g1003 : Nat → Value) (w1004 : World) : Prop :=
/- 0 -/ XJ (fun J1005 =>
xLen a0 fun v1009 =>
xLt (vs1002.getD 0 undef) v1009 fun v1010 =>
xIf v1010 (xLen a1 fun v1011 =>
xLt (vs1002.getD 0 undef) v1011 fun v1012 =>
xIf v1012 (xIxS a0 (vs1002.getD 0 undef) 1 fun v1013 =>
xAt v1013 fun a1014 =>
XLd w1004.drew a1014 fun v1015 =>
xIxS a1 (vs1002.getD 0 undef) 1 fun v1016 =>
xAt v1016 fun a1017 =>
XLd w1004.drew a1017 fun v1018 =>
xEq v1015 v1018 fun v1019 =>
J1005 [v1019] (w1004.drew)) (J1005 [(.bool false)] (w1004.drew))) (J1005 [(.bool false)] (w1004.drew))) fun vs1006 g1007 w1008 =>
xIf (vs1006.getD 0 undef) (xAdd (vs1002.getD 0 undef) (.int .i64 1) fun v1020 =>
XNext I1000 n1001 [v1020] w1008) (K (vs1002.getD 0 undef) w1008)
abbrev S_ref01_Common (a0 : Value) (a1 : Value) (K : Value → World → Prop) (w0 : World) : Prop :=
XLoop [(.int .i64 0)] w0 (S_ref01_Common_l1 K a0 a1)
theorem W_ref01_Common {a0 a1 : Value} {K : Value → World → Prop} {w : World} (h : S_ref01_Common a0 a1 K w) : Ret P n_ref01_Common [a0, a1] w K :=
  vcF_of mixed Tryz.func30 (show S_ref01_Common a0 a1 K w = vcF P Tryz.f30 [a0, a1] w K from by kernel_rfl) h
/- spunyarn/node.Leaf -/
abbrev S_node_Leaf (a0 : Value) (a1 : Value) (a2 : Value) (a3 : Value) (K : Value → World → Prop) (w0 : World) : Prop :=
Ret P n_meter_Meter_Made [a0, (.int .i64 1)] w0 fun v1000 w1001 =>
Ret P n_bytes_Clone [a2] w1001 fun v1002 w1003 =>
xFill [(.int .u64 0), (.slice none 0 0), (.int .u64 0), (.bool false), (.pointer none)] [(0, 1, a1), (1, 1, v1002), (2, 1, a3), (3, 1, (.bool true))] fun c1004 =>
XNew w1003 (cellsV (.agg c1004.toArray)) 80 fun a1005 w1006 =>
K (.pointer (some a1005)) w1006
theorem W_node_Leaf {a0 a1 a2 a3 : Value} {K : Value → World → Prop} {w : World} (h : S_node_Leaf a0 a1 a2 a3 K w) : Ret P n_node_Leaf [a0, a1, a2, a3] w K :=
  vcF_of mixed Tryz.func31 (show S_node_Leaf a0 a1 a2 a3 K w = vcF P Tryz.f31 [a0, a1, a2, a3] w K from by kernel_rfl) h
/- (*spunyarn/node.Node).Part -/
abbrev S_node_Node_Part (a0 : Value) (K : Value → World → Prop) (w0 : World) : Prop :=
xPEq P w0 a0 (.pointer none) fun v1000 =>
xIf v1000 (K (.slice none 0 0) w0) (xAt a0 fun a1001 =>
XLd w0 (a1001.add 1) fun v1002 =>
xLen v1002 fun v1003 =>
XRun P (Instr.makeSlice 23 v1003 v1003) w0 fun v1004 w1005 =>
xAt a0 fun a1006 =>
XLd w1005 (a1006.add 1) fun v1007 =>
XRun P (Builtin.copy_ #[23, 23] 3 #[v1004, v1007]) w1005 fun v1008 w1009 =>
K v1004 w1009)
theorem W_node_Node_Part {a0 : Value} {K : Value → World → Prop} {w : World} (h : S_node_Node_Part a0 K w) : Ret P n_node_Node_Part [a0] w K :=
  vcF_of mixed Tryz.func32 (show S_node_Node_Part a0 K w = vcF P Tryz.f32 [a0] w K from by kernel_rfl) h
/- spunyarn/keys.Common -/
/- S_keys_Common_l1: 0=slot 11 1=slot 5 i 2=slot 4 -/
def S_keys_Common_l1 (K : Value → World → Prop) (a0 : Value) (a1 : Value) (v1002 : Value) (I1003 : Nat → List Value → World → Prop) (n1004 : Nat) (vs1005 : List Value) (g1006 : Nat → Value) (w1007 : World) : Prop :=
xLt (vs1005.getD 0 undef) v1002 fun v1008 =>
xIf v1008 (xIxS a0 (vs1005.getD 0 undef) 1 fun v1009 =>
xAt v1009 fun a1010 =>
XLd w1007.drew a1010 fun v1011 =>
xIxS a1 (vs1005.getD 0 undef) 1 fun v1012 =>
xAt v1012 fun a1013 =>
XLd w1007.drew a1013 fun v1014 =>
xNe v1011 v1014 fun v1015 =>
xIf v1015 (K (vs1005.getD 0 undef) (w1007.drew)) (xAdd (vs1005.getD 0 undef) (.int .i64 1) fun v1016 =>
XNext I1003 n1004 [v1016, (vs1005.getD 0 undef), (vs1005.getD 2 undef)] (w1007.drew))) (xLen a0 fun v1017 =>
xLen a1 fun v1018 =>
xMin v1017 v1018 fun v1019 =>
K v1019 w1007)
abbrev S_keys_Common (a0 : Value) (a1 : Value) (K : Value → World → Prop) (w0 : World) : Prop :=
xLen a0 fun v1000 =>
xLen a1 fun v1001 =>
xMin v1000 v1001 fun v1002 =>
XLoop [(.int .i64 0), undef, (.int .i64 0)] w0 (S_keys_Common_l1 K a0 a1 v1002)
theorem W_keys_Common {a0 a1 : Value} {K : Value → World → Prop} {w : World} (h : S_keys_Common a0 a1 K w) : Ret P n_keys_Common [a0, a1] w K :=
  vcF_of mixed Tryz.func33 (show S_keys_Common a0 a1 K w = vcF P Tryz.f33 [a0, a1] w K from by kernel_rfl) h
/- (*spunyarn/node.Node).Kind -/
abbrev S_node_Node_Kind (a0 : Value) (K : Value → World → Prop) (w0 : World) : Prop :=
xPEq P w0 a0 (.pointer none) fun v1000 =>
xIf v1000 (K (.int .i64 0) w0) (Ret P n_node_Node_isLeaf [a0] w0 fun v1001 w1002 =>
xIf v1001 (K (.int .i64 1) w1002) (xAt a0 fun a1003 =>
XLd w1002 (a1003.add 4) fun v1004 =>
Ret P n_kids_Kids_Kind [v1004] w1002 fun v1005 w1006 =>
K v1005 w1006))
theorem W_node_Node_Kind {a0 : Value} {K : Value → World → Prop} {w : World} (h : S_node_Node_Kind a0 K w) : Ret P n_node_Node_Kind [a0] w K :=
  vcF_of mixed Tryz.func34 (show S_node_Node_Kind a0 K w = vcF P Tryz.f34 [a0] w K from by kernel_rfl) h
/- (spunyarn/put.putter).here -/
abbrev S_put_putter_here (a0 : Value) (a1 : Value) (K : Value → World → Prop) (w0 : World) : Prop :=
XNew w0 (cellsV a0) 51 fun a1000 w1001 =>
XLd w1001 (a1000.add 2) fun v1002 =>
XLd w1001 (a1000.add 1) fun v1003 =>
Ret P n_node_Node_Own [a1, v1002, v1003] w1001 fun v1004 w1005 =>
XLd w1005 (a1000.add 1) fun v1006 =>
XLd w1005 (a1000.add 0) fun v1007 =>
Ret P n_node_Node_SetVal [v1004, v1006, v1007] w1005 fun v1008 w1009 =>
K v1004 w1009
theorem W_put_putter_here {a0 a1 : Value} {K : Value → World → Prop} {w : World} (h : S_put_putter_here a0 a1 K w) : Ret P n_put_putter_here [a0, a1] w K :=
  vcF_of mixed Tryz.func35 (show S_put_putter_here a0 a1 K w = vcF P Tryz.f35 [a0, a1] w K from by kernel_rfl) h
/- (spunyarn/put.putter).split -/
abbrev S_put_putter_split (a0 : Value) (a1 : Value) (a2 : Value) (a3 : Value) (a4 : Value) (K : Value → World → Prop) (w0 : World) : Prop :=
XNew w0 (cellsV a0) 51 fun a1000 w1001 =>
XLd w1001.drew (a1000.add 2) fun v1002 =>
XLd w1001.drew (a1000.add 1) fun v1003 =>
xCutS 1 a2 none (some a4) none fun v1004 =>
Ret P n_node_Inner [v1002, v1003, v1004] w1001.drew fun v1005 w1006 =>
/- 0 v 1 _ 2 kid -/ XJ (fun J1007 =>
xLen a2 fun v1011 =>
xEq a4 v1011 fun v1012 =>
xIf v1012 (Ret P n_node_Node_Val [a1] w1006 fun v1013 w1014 =>
xTup v1013 0 fun v1015 =>
xTup v1013 1 fun v1016 =>
XLd w1014 (a1000.add 1) fun v1017 =>
Ret P n_node_Node_SetVal [v1005, v1017, v1015] w1014 fun v1018 w1019 =>
J1007 [v1015, v1016, undef] w1019) (XLd w1006 (a1000.add 2) fun v1020 =>
XLd w1006 (a1000.add 1) fun v1021 =>
Ret P n_node_Node_Own [a1, v1020, v1021] w1006 fun v1022 w1023 =>
XLd w1023.drew (a1000.add 1) fun v1024 =>
xAdd a4 (.int .i64 1) fun v1025 =>
xCutS 1 a2 (some v1025) none none fun v1026 =>
Ret P n_node_Node_SetPart [v1022, v1024, v1026] w1023.drew fun v1027 w1028 =>
XLd w1028.drew (a1000.add 1) fun v1029 =>
xIxS a2 a4 1 fun v1030 =>
xAt v1030 fun a1031 =>
XLd w1028.drew a1031 fun v1032 =>
Ret P n_node_Node_SetKid [v1005, v1029, v1032, v1022] w1028.drew fun v1033 w1034 =>
J1007 [undef, undef, v1022] w1034)) fun vs1008 g1009 w1010 =>
/-  -/ XJ (fun J1035 =>
xLen a3 fun v1039 =>
xEq a4 v1039 fun v1040 =>
xIf v1040 (XLd w1010 (a1000.add 1) fun v1041 =>
XLd w1010 (a1000.add 0) fun v1042 =>
Ret P n_node_Node_SetVal [v1005, v1041, v1042] w1010 fun v1043 w1044 =>
J1035 [] w1044) (XLd w1010.drew (a1000.add 1) fun v1045 =>
xIxS a3 a4 1 fun v1046 =>
xAt v1046 fun a1047 =>
XLd w1010.drew a1047 fun v1048 =>
XLd w1010.drew (a1000.add 2) fun v1049 =>
XLd w1010.drew (a1000.add 1) fun v1050 =>
xAdd a4 (.int .i64 1) fun v1051 =>
xCutS 1 a3 (some v1051) none none fun v1052 =>
XLd w1010.drew (a1000.add 0) fun v1053 =>
Ret P n_node_Leaf [v1049, v1050, v1052, v1053] w1010.drew fun v1054 w1055 =>
xKeep1 w1055 v1046 v1048 ∧ (xKeep1 w1055 (.pointer (some (a1000.add 1))) v1045 ∧ (Ret P n_node_Node_SetKid [v1005, v1045, v1048, v1054] w1055 fun v1056 w1057 =>
J1035 [] w1057)))) fun vs1036 g1037 w1038 =>
K v1005 w1038
theorem W_put_putter_split {a0 a1 a2 a3 a4 : Value} {K : Value → World → Prop} {w : World} (h : S_put_putter_split a0 a1 a2 a3 a4 K w) : Ret P n_put_putter_split [a0, a1, a2, a3, a4] w K :=
  vcF_of mixed Tryz.func36 (show S_put_putter_split a0 a1 a2 a3 a4 K w = vcF P Tryz.f36 [a0, a1, a2, a3, a4] w K from by kernel_rfl) h
/- (spunyarn/put.putter).below -/
abbrev S_put_putter_below (a0 : Value) (a1 : Value) (a2 : Value) (K : Value → World → Prop) (w0 : World) : Prop :=
XNew w0 (cellsV a0) 51 fun a1000 w1001 =>
xIxS a2 (.int .i64 0) 1 fun v1002 =>
xAt v1002 fun a1003 =>
XLd w1001 a1003 fun v1004 =>
Ret P n_node_Node_Kid [a1, v1004] w1001 fun v1005 w1006 =>
XLdN w1006.drew a1000 3 fun v1007 =>
xCutS 1 a2 (some (.int .i64 1)) none none fun v1008 =>
Ret P n_put_putter_into [v1007, v1005, v1008] w1006.drew fun v1009 w1010 =>
xPEq P w1010 v1009 v1005 fun v1011 =>
xIf v1011 (K a1 w1010) (XLd w1010 (a1000.add 2) fun v1012 =>
XLd w1010 (a1000.add 1) fun v1013 =>
Ret P n_node_Node_Own [a1, v1012, v1013] w1010 fun v1014 w1015 =>
XLd w1015.drew (a1000.add 1) fun v1016 =>
xIxS a2 (.int .i64 0) 1 fun v1017 =>
xAt v1017 fun a1018 =>
XLd w1015.drew a1018 fun v1019 =>
Ret P n_node_Node_SetKid [v1014, v1016, v1019, v1009] w1015.drew fun v1020 w1021 =>
K v1014 w1021)
theorem W_put_putter_below {a0 a1 a2 : Value} {K : Value → World → Prop} {w : World} (h : S_put_putter_below a0 a1 a2 K w) : Ret P n_put_putter_below [a0, a1, a2] w K :=
  vcF_of mixed Tryz.func37 (show S_put_putter_below a0 a1 a2 K w = vcF P Tryz.f37 [a0, a1, a2] w K from by kernel_rfl) h
/- (spunyarn/del.taker).here -/
abbrev S_del_taker_here (a0 : Value) (a1 : Value) (K : Value → World → Prop) (w0 : World) : Prop :=
XNew w0 (cellsV a0) 55 fun a1000 w1001 =>
Ret P n_node_Node_Len [a1] w1001 fun v1002 w1003 =>
xEq v1002 (.int .i64 0) fun v1004 =>
xIf v1004 (K (.pointer none) w1003) (xEq v1002 (.int .i64 1) fun v1005 =>
xIf v1005 (Ret P n_node_Node_Next [a1, (.int .i64 0)] w1003 fun v1006 w1007 =>
xTup v1006 0 fun v1008 =>
xTup v1006 1 fun v1009 =>
XLdN w1007 a1000 2 fun v1010 =>
Ret P n_del_taker_lift [v1010, a1, v1008, v1009] w1007 fun v1011 w1012 =>
K v1011 w1012) (XLd w1003 (a1000.add 1) fun v1013 =>
XLd w1003 (a1000.add 0) fun v1014 =>
Ret P n_node_Node_Own [a1, v1013, v1014] w1003 fun v1015 w1016 =>
XLd w1016 (a1000.add 0) fun v1017 =>
Ret P n_node_Node_DropVal [v1015, v1017] w1016 fun v1018 w1019 =>
K v1015 w1019))
theorem W_del_taker_here {a0 a1 : Value} {K : Value → World → Prop} {w : World} (h : S_del_taker_here a0 a1 K w) : Ret P n_del_taker_here [a0, a1] w K :=
  vcF_of mixed Tryz.func38 (show S_del_taker_here a0 a1 K w = vcF P Tryz.f38 [a0, a1] w K from by kernel_rfl) h
/- (*spunyarn/node.Node).Kid -/
abbrev S_node_Node_Kid (a0 : Value) (a1 : Value) (K : Value → World → Prop) (w0 : World) : Prop :=
xPEq P w0 a0 (.pointer none) fun v1000 =>
xIf v1000 (K (.pointer none) w0) (xAt a0 fun a1001 =>
XLd w0 (a1001.add 4) fun v1002 =>
Ret P n_kids_Kids_Get [v1002, a1] w0 fun v1003 w1004 =>
xTup v1003 0 fun v1005 =>
xTup v1003 1 fun v1006 =>
K v1005 w1004)
theorem W_node_Node_Kid {a0 a1 : Value} {K : Value → World → Prop} {w : World} (h : S_node_Node_Kid a0 a1 K w) : Ret P n_node_Node_Kid [a0, a1] w K :=
  vcF_of mixed Tryz.func39 (show S_node_Node_Kid a0 a1 K w = vcF P Tryz.f39 [a0, a1] w K from by kernel_rfl) h
/- (*spunyarn/node.Node).Own -/
abbrev S_node_Node_Own (a0 : Value) (a1 : Value) (a2 : Value) (K : Value → World → Prop) (w0 : World) : Prop :=
Ret P n_node_Node_may [a0, a2] w0 fun v1000 w1001 =>
xEq v1000 (.int .i64 0) fun v1002 =>
xIf v1002 (K a0 w1001) (Ret P n_node_Node_Copy [a0, a1, a2] w1001 fun v1003 w1004 =>
K v1003 w1004)
theorem W_node_Node_Own {a0 a1 a2 : Value} {K : Value → World → Prop} {w : World} (h : S_node_Node_Own a0 a1 a2 K w) : Ret P n_node_Node_Own [a0, a1, a2] w K :=
  vcF_of mixed Tryz.func40 (show S_node_Node_Own a0 a1 a2 K w = vcF P Tryz.f40 [a0, a1, a2] w K from by kernel_rfl) h
/- (*spunyarn/node.Node).SetKid -/
abbrev S_node_Node_SetKid (a0 : Value) (a1 : Value) (a2 : Value) (a3 : Value) (K : Value → World → Prop) (w0 : World) : Prop :=
Ret P n_node_Node_inner [a0, a1] w0 fun v1000 w1001 =>
xNe v1000 (.int .i64 0) fun v1002 =>
xIf v1002 (K v1000 w1001) (xPEq P w1001 a3 (.pointer none) fun v1003 =>
xIf v1003 (K (.int .i64 1) w1001) (xAt a0 fun a1004 =>
XLd w1001 (a1004.add 4) fun v1005 =>
Ret P n_kids_Kids_Set [v1005, a2, a3] w1001 fun v1006 w1007 =>
K v1006 w1007))
theorem W_node_Node_SetKid {a0 a1 a2 a3 : Value} {K : Value → World → Prop} {w : World} (h : S_node_Node_SetKid a0 a1 a2 a3 K w) : Ret P n_node_Node_SetKid [a0, a1, a2, a3] w K :=
  vcF_of mixed Tryz.func41 (show S_node_Node_SetKid a0 a1 a2 a3 K w = vcF P Tryz.f41 [a0, a1, a2, a3] w K from by kernel_rfl) h
/- (spunyarn/del.taker).without -/
abbrev S_del_taker_without (a0 : Value) (a1 : Value) (a2 : Value) (K : Value → World → Prop) (w0 : World) : Prop :=
XNew w0 (cellsV a0) 55 fun a1000 w1001 =>
Ret P n_node_Node_Val [a1] w1001 fun v1002 w1003 =>
xTup v1002 0 fun v1004 =>
xTup v1002 1 fun v1005 =>
Ret P n_node_Node_Occupants [a1] w1003 fun v1006 w1007 =>
xGt v1006 (.int .i64 2) fun v1008 =>
xIf v1008 (XLd w1007 (a1000.add 1) fun v1009 =>
XLd w1007 (a1000.add 0) fun v1010 =>
Ret P n_node_Node_Own [a1, v1009, v1010] w1007 fun v1011 w1012 =>
XLd w1012 (a1000.add 0) fun v1013 =>
Ret P n_node_Node_DropKid [v1011, v1013, a2] w1012 fun v1014 w1015 =>
K v1011 w1015) (xIf v1005 (XLd w1007.drew (a1000.add 1) fun v1016 =>
XLd w1007.drew (a1000.add 0) fun v1017 =>
Ret P n_node_Node_Part [a1] w1007.drew fun v1018 w1019 =>
xKeep1 w1019 (.pointer (some (a1000.add 0))) v1017 ∧ (xKeep1 w1019 (.pointer (some (a1000.add 1))) v1016 ∧ (Ret P n_node_Leaf [v1016, v1017, v1018, v1004] w1019 fun v1020 w1021 =>
K v1020 w1021))) (Ret P n_node_Node_Next [a1, (.int .i64 0)] w1007 fun v1022 w1023 =>
xTup v1022 0 fun v1024 =>
xTup v1022 1 fun v1025 =>
/- 0 c 1 kid -/ XJ (fun J1026 =>
xEq v1024 a2 fun v1030 =>
xIf v1030 (xConv .i64 a2 fun v1031 =>
xAdd v1031 (.int .i64 1) fun v1032 =>
Ret P n_node_Node_Next [a1, v1032] w1023 fun v1033 w1034 =>
xTup v1033 0 fun v1035 =>
xTup v1033 1 fun v1036 =>
J1026 [v1035, v1036] w1034) (J1026 [v1024, v1025] w1023)) fun vs1027 g1028 w1029 =>
XLdN w1029 a1000 2 fun v1037 =>
Ret P n_del_taker_lift [v1037, a1, (vs1027.getD 0 undef), (vs1027.getD 1 undef)] w1029 fun v1038 w1039 =>
K v1038 w1039))
theorem W_del_taker_without {a0 a1 a2 : Value} {K : Value → World → Prop} {w : World} (h : S_del_taker_without a0 a1 a2 K w) : Ret P n_del_taker_without [a0, a1, a2] w K :=
  vcF_of mixed Tryz.func42 (show S_del_taker_without a0 a1 a2 K w = vcF P Tryz.f42 [a0, a1, a2] w K from by kernel_rfl) h
/- bytes.HasPrefix -/
abbrev S_bytes_HasPrefix (a0 : Value) (a1 : Value) (K : Value → World → Prop) (w0 : World) : Prop :=
/- 0 -/ XJ (fun J1000 =>
xLen a0 fun v1004 =>
xLen a1 fun v1005 =>
xGe v1004 v1005 fun v1006 =>
xIf v1006 (xLen a1 fun v1007 =>
xCutS 1 a0 none (some v1007) none fun v1008 =>
Ret P n_bytes_Equal [v1008, a1] w0 fun v1009 w1010 =>
J1000 [v1009] w1010) (J1000 [(.bool false)] w0)) fun vs1001 g1002 w1003 =>
K (vs1001.getD 0 undef) w1003
theorem W_bytes_HasPrefix {a0 a1 : Value} {K : Value → World → Prop} {w : World} (h : S_bytes_HasPrefix a0 a1 K w) : Ret P n_bytes_HasPrefix [a0, a1] w K :=
  vcF_of mixed Tryz.func43 (show S_bytes_HasPrefix a0 a1 K w = vcF P Tryz.f43 [a0, a1] w K from by kernel_rfl) h
/- (*spunyarn/node.Node).Next -/
abbrev S_node_Node_Next (a0 : Value) (a1 : Value) (K : Value → World → Prop) (w0 : World) : Prop :=
xPEq P w0 a0 (.pointer none) fun v1000 =>
xIf v1000 (K (.tuple #[(.int .u8 0), (.pointer none)]) w0) (xAt a0 fun a1001 =>
XLd w0 (a1001.add 4) fun v1002 =>
Ret P n_kids_Kids_Next [v1002, a1] w0 fun v1003 w1004 =>
xTup v1003 0 fun v1005 =>
xTup v1003 1 fun v1006 =>
xTup v1003 2 fun v1007 =>
K (.tuple #[v1005, v1006]) w1004)
theorem W_node_Node_Next {a0 a1 : Value} {K : Value → World → Prop} {w : World} (h : S_node_Node_Next a0 a1 K w) : Ret P n_node_Node_Next [a0, a1] w K :=
  vcF_of mixed Tryz.func45 (show S_node_Node_Next a0 a1 K w = vcF P Tryz.f45 [a0, a1] w K from by kernel_rfl) h
/- spunyarn/keys.Sorted -/
/- S_keys_Sorted_l1: 0=slot 3 i 1=slot 2 -/
def S_keys_Sorted_l1 (K : Value → World → Prop) (a0 : Value) (I1000 : Nat → List Value → World → Prop) (n1001 : Nat) (vs1002 : List Value) (g1003 : Nat → Value) (w1004 : World) : Prop :=
xLen a0 fun v1005 =>
xLt (vs1002.getD 0 undef) v1005 fun v1006 =>
xIf v1006 (xSub (vs1002.getD 0 undef) (.int .i64 1) fun v1007 =>
xIxS a0 v1007 2 fun v1008 =>
xFld v1008 0 fun v1009 =>
xAt v1009 fun a1010 =>
XLd w1004.drew a1010 fun v1011 =>
xIxS a0 (vs1002.getD 0 undef) 2 fun v1012 =>
xFld v1012 0 fun v1013 =>
xAt v1013 fun a1014 =>
XLd w1004.drew a1014 fun v1015 =>
Ret P n_keys_Cmp [v1011, v1015] w1004.drew fun v1016 w1017 =>
xGe v1016 (.int .i64 0) fun v1018 =>
xIf v1018 (K (.bool false) w1017) (xAdd (vs1002.getD 0 undef) (.int .i64 1) fun v1019 =>
XNext I1000 n1001 [v1019, (vs1002.getD 1 undef)] w1017)) (K (.bool true) w1004)
abbrev S_keys_Sorted (a0 : Value) (K : Value → World → Prop) (w0 : World) : Prop :=
XLoop [(.int .i64 1), (.bool false)] w0 (S_keys_Sorted_l1 K a0)
theorem W_keys_Sorted {a0 : Value} {K : Value → World → Prop} {w : World} (h : S_keys_Sorted a0 K w) : Ret P n_keys_Sorted [a0] w K :=
  vcF_of mixed Tryz.func46 (show S_keys_Sorted a0 K w = vcF P Tryz.f46 [a0] w K from by kernel_rfl) h
/- spunyarn/node.Inner -/
abbrev S_node_Inner (a0 : Value) (a1 : Value) (a2 : Value) (K : Value → World → Prop) (w0 : World) : Prop :=
Ret P n_meter_Meter_Made [a0, (.int .i64 1)] w0 fun v1000 w1001 =>
Ret P n_bytes_Clone [a2] w1001 fun v1002 w1003 =>
Ret P n_kids_New_Node [] w1003 fun v1004 w1005 =>
xFill [(.int .u64 0), (.slice none 0 0), (.int .u64 0), (.bool false), (.pointer none)] [(0, 1, a1), (1, 1, v1002), (4, 1, v1004)] fun c1006 =>
XNew w1005 (cellsV (.agg c1006.toArray)) 80 fun a1007 w1008 =>
K (.pointer (some a1007)) w1008
theorem W_node_Inner {a0 a1 a2 : Value} {K : Value → World → Prop} {w : World} (h : S_node_Inner a0 a1 a2 K w) : Ret P n_node_Inner [a0, a1, a2] w K :=
  vcF_of mixed Tryz.func47 (show S_node_Inner a0 a1 a2 K w = vcF P Tryz.f47 [a0, a1, a2] w K from by kernel_rfl) h
/- (*spunyarn/node.Node).SetVal -/
abbrev S_node_Node_SetVal (a0 : Value) (a1 : Value) (a2 : Value) (K : Value → World → Prop) (w0 : World) : Prop :=
Ret P n_node_Node_may [a0, a1] w0 fun v1000 w1001 =>
/-  -/ XJ (fun J1002 =>
xEq v1000 (.int .i64 0) fun v1006 =>
xIf v1006 (xAt a0 fun a1007 =>
XSt w1001 (a1007.add 2) a2 fun w1008 =>
xAt a0 fun a1009 =>
XSt w1008 (a1009.add 3) (.bool true) fun w1010 =>
J1002 [] w1010) (J1002 [] w1001)) fun vs1003 g1004 w1005 =>
K v1000 w1005
theorem W_node_Node_SetVal {a0 a1 a2 : Value} {K : Value → World → Prop} {w : World} (h : S_node_Node_SetVal a0 a1 a2 K w) : Ret P n_node_Node_SetVal [a0, a1, a2] w K :=
  vcF_of mixed Tryz.func48 (show S_node_Node_SetVal a0 a1 a2 K w = vcF P Tryz.f48 [a0, a1, a2] w K from by kernel_rfl) h
/- (*spunyarn/meter.Meter).Made -/
abbrev S_meter_Meter_Made (a0 : Value) (a1 : Value) (K : Value → World → Prop) (w0 : World) : Prop :=
/- 0 -/ XJ (fun J1000 =>
xPNe P w0 a0 (.pointer none) fun v1004 =>
xIf v1004 (xGt a1 (.int .i64 0) fun v1005 =>
J1000 [v1005] w0) (J1000 [(.bool false)] w0)) fun vs1001 g1002 w1003 =>
xIf (vs1001.getD 0 undef) (xAt a0 fun a1006 =>
Ret P n_atomic_Int64_Add [(.pointer (some (a1006.add 0))), a1] w1003 fun v1007 w1008 =>
K (.tuple #[]) w1008) (K (.tuple #[]) w1003)
theorem W_meter_Meter_Made {a0 a1 : Value} {K : Value → World → Prop} {w : World} (h : S_meter_Meter_Made a0 a1 K w) : Ret P n_meter_Meter_Made [a0, a1] w K :=
  vcF_of mixed Tryz.func49 (show S_meter_Meter_Made a0 a1 K w = vcF P Tryz.f49 [a0, a1] w K from by kernel_rfl) h
/- bytes.Clone -/
abbrev S_bytes_Clone (a0 : Value) (K : Value → World → Prop) (w0 : World) : Prop :=
xLEq a0 (.slice none 0 0) fun v1000 =>
xIf v1000 (K (.slice none 0 0) w0) (xFill (repL [(.int .u8 0)] 0) [] fun c1001 =>
XNew w0 c1001 5 fun a1002 w1003 =>
XRun P (Builtin.append_ #[23, 23] 23 #[(.slice (some a1002) 0 0), a0]) w1003 fun v1004 w1005 =>
K v1004 w1005)
theorem W_bytes_Clone {a0 : Value} {K : Value → World → Prop} {w : World} (h : S_bytes_Clone a0 K w) : Ret P n_bytes_Clone [a0] w K :=
  vcF_of mixed Tryz.func50 (show S_bytes_Clone a0 K w = vcF P Tryz.f50 [a0] w K from by kernel_rfl) h
/- (*spunyarn/node.Node).isLeaf -/
abbrev S_node_Node_isLeaf (a0 : Value) (K : Value → World → Prop) (w0 : World) : Prop :=
xAt a0 fun a1000 =>
XLd w0 (a1000.add 4) fun v1001 =>
xPEq P w0 v1001 (.pointer none) fun v1002 =>
K v1002 w0
theorem W_node_Node_isLeaf {a0 : Value} {K : Value → World → Prop} {w : World} (h : S_node_Node_isLeaf a0 K w) : Ret P n_node_Node_isLeaf [a0] w K :=
  vcF_of mixed Tryz.func51 (show S_node_Node_isLeaf a0 K w = vcF P Tryz.f51 [a0] w K from by kernel_rfl) h
/- (*spunyarn/kids.Kids[*spunyarn/node.Node]).Kind -/
abbrev S_kids_Kids_Kind (a0 : Value) (K : Value → World → Prop) (w0 : World) : Prop :=
Ret P n_kids_Kids_ok [a0] w0 fun v1000 w1001 =>
xNot v1000 fun v1002 =>
xIf v1002 (K (.int .i64 0) w1001) (xAt a0 fun a1003 =>
XLd w1001 (a1003.add 0) fun v1004 =>
xPNe P w1001 v1004 (.pointer none) fun v1005 =>
xIf v1005 (xAt a0 fun a1006 =>
XLd w1001 (a1006.add 0) fun v1007 =>
Ret P n_small_Row_Room [v1007] w1001 fun v1008 w1009 =>
K v1008 w1009) (xAt a0 fun a1010 =>
XLd w1001 (a1010.add 1) fun v1011 =>
Ret P n_wide_Board_Room [v1011] w1001 fun v1012 w1013 =>
K v1012 w1013))
theorem W_kids_Kids_Kind {a0 : Value} {K : Value → World → Prop} {w : World} (h : S_kids_Kids_Kind a0 K w) : Ret P n_kids_Kids_Kind [a0] w K :=
  vcF_of mixed Tryz.func52 (show S_kids_Kids_Kind a0 K w = vcF P Tryz.f52 [a0] w K from by kernel_rfl) h
/- (*spunyarn/node.Node).SetPart -/
abbrev S_node_Node_SetPart (a0 : Value) (a1 : Value) (a2 : Value) (K : Value → World → Prop) (w0 : World) : Prop :=
Ret P n_node_Node_may [a0, a1] w0 fun v1000 w1001 =>
/-  -/ XJ (fun J1002 =>
xEq v1000 (.int .i64 0) fun v1006 =>
xIf v1006 (Ret P n_bytes_Clone [a2] w1001 fun v1007 w1008 =>
xAt a0 fun a1009 =>
XSt w1008 (a1009.add 1) v1007 fun w1010 =>
J1002 [] w1010) (J1002 [] w1001)) fun vs1003 g1004 w1005 =>
K v1000 w1005
theorem W_node_Node_SetPart {a0 a1 a2 : Value} {K : Value → World → Prop} {w : World} (h : S_node_Node_SetPart a0 a1 a2 K w) : Ret P n_node_Node_SetPart [a0, a1, a2] w K :=
  vcF_of mixed Tryz.func53 (show S_node_Node_SetPart a0 a1 a2 K w = vcF P Tryz.f53 [a0, a1, a2] w K from by kernel_rfl) h
/- (*spunyarn/node.Node).Len -/
abbrev S_node_Node_Len (a0 : Value) (K : Value → World → Prop) (w0 : World) : Prop :=
xPEq P w0 a0 (.pointer none) fun v1000 =>
xIf v1000 (K (.int .i64 0) w0) (xAt a0 fun a1001 =>
XLd w0 (a1001.add 4) fun v1002 =>
Ret P n_kids_Kids_Len [v1002] w0 fun v1003 w1004 =>
K v1003 w1004)
theorem W_node_Node_Len {a0 : Value} {K : Value → World → Prop} {w : World} (h : S_node_Node_Len a0 K w) : Ret P n_node_Node_Len [a0] w K :=
  vcF_of mixed Tryz.func54 (show S_node_Node_Len a0 K w = vcF P Tryz.f54 [a0] w K from by kernel_rfl) h
/- (spunyarn/del.taker).lift -/
abbrev S_del_taker_lift (a0 : Value) (a1 : Value) (a2 : Value) (a3 : Value) (K : Value → World → Prop) (w0 : World) : Prop :=
XNew w0 (cellsV a0) 55 fun a1000 w1001 =>
XLd w1001 (a1000.add 1) fun v1002 =>
XLd w1001 (a1000.add 0) fun v1003 =>
Ret P n_node_Node_Own [a3, v1002, v1003] w1001 fun v1004 w1005 =>
XLd w1005.drew (a1000.add 0) fun v1006 =>
(Ret P n_node_Node_Part [a1] w1005.drew fun v1007 w1008 =>
xKeep1 w1008 (.pointer (some (a1000.add 0))) v1006 ∧ ((xFill (repL [(.int .u8 0)] 1) [(0, 1, a2)] fun c1009 =>
XNew w1008 c1009 5 fun a1010 w1011 =>
xKeep1 w1011 (.pointer (some (a1000.add 0))) v1006 ∧ (Ret P n_node_Node_Part [a3] w1011 fun v1012 w1013 =>
xKeep1 w1013 (.pointer (some (a1000.add 0))) v1006 ∧ (xFill (repL [(.slice none 0 0)] 3) [(0, 1, v1007), (1, 1, (.slice (some a1010) 1 1)), (2, 1, v1012)] fun c1014 =>
XNew w1013 c1014 23 fun a1015 w1016 =>
xKeep1 w1016 (.pointer (some (a1000.add 0))) v1006 ∧ (Ret P n_del_join [(.slice (some a1015) 3 3)] w1016 fun v1017 w1018 =>
xKeep1 w1018 (.pointer (some (a1000.add 0))) v1006 ∧ (Ret P n_node_Node_SetPart [v1004, v1006, v1017] w1018 fun v1019 w1020 =>
K v1004 w1020))))) ∧ (Ret P n_node_Node_Part [a3] w1008 fun v1021 w1022 =>
xKeep1 w1022 (.pointer (some (a1000.add 0))) v1006 ∧ (xFill (repL [(.int .u8 0)] 1) [(0, 1, a2)] fun c1023 =>
XNew w1022 c1023 5 fun a1024 w1025 =>
xKeep1 w1025 (.pointer (some (a1000.add 0))) v1006 ∧ (xFill (repL [(.slice none 0 0)] 3) [(0, 1, v1007), (1, 1, (.slice (some a1024) 1 1)), (2, 1, v1021)] fun c1026 =>
XNew w1025 c1026 23 fun a1027 w1028 =>
xKeep1 w1028 (.pointer (some (a1000.add 0))) v1006 ∧ (Ret P n_del_join [(.slice (some a1027) 3 3)] w1028 fun v1029 w1030 =>
xKeep1 w1030 (.pointer (some (a1000.add 0))) v1006 ∧ (Ret P n_node_Node_SetPart [v1004, v1006, v1029] w1030 fun v1031 w1032 =>
K v1004 w1032))))))) ∧ (xFill (repL [(.int .u8 0)] 1) [(0, 1, a2)] fun c1033 =>
XNew w1005.drew c1033 5 fun a1034 w1035 =>
xKeep1 w1035 (.pointer (some (a1000.add 0))) v1006 ∧ (Ret P n_node_Node_Part [a1] w1035 fun v1036 w1037 =>
xKeep1 w1037 (.pointer (some (a1000.add 0))) v1006 ∧ (Ret P n_node_Node_Part [a3] w1037 fun v1038 w1039 =>
xKeep1 w1039 (.pointer (some (a1000.add 0))) v1006 ∧ (xFill (repL [(.slice none 0 0)] 3) [(0, 1, v1036), (1, 1, (.slice (some a1034) 1 1)), (2, 1, v1038)] fun c1040 =>
XNew w1039 c1040 23 fun a1041 w1042 =>
xKeep1 w1042 (.pointer (some (a1000.add 0))) v1006 ∧ (Ret P n_del_join [(.slice (some a1041) 3 3)] w1042 fun v1043 w1044 =>
xKeep1 w1044 (.pointer (some (a1000.add 0))) v1006 ∧ (Ret P n_node_Node_SetPart [v1004, v1006, v1043] w1044 fun v1045 w1046 =>
K v1004 w1046))))))
theorem W_del_taker_lift {a0 a1 a2 a3 : Value} {K : Value → World → Prop} {w : World} (h : S_del_taker_lift a0 a1 a2 a3 K w) : Ret P n_del_taker_lift [a0, a1, a2, a3] w K :=
  vcF_of mixed Tryz.func55 (show S_del_taker_lift a0 a1 a2 a3 K w = vcF P Tryz.f55 [a0, a1, a2, a3] w K from by kernel_rfl) h
/- (*spunyarn/node.Node).DropVal -/
abbrev S_node_Node_DropVal (a0 : Value) (a1 : Value) (K : Value → World → Prop) (w0 : World) : Prop :=
Ret P n_node_Node_inner [a0, a1] w0 fun v1000 w1001 =>
xNe v1000 (.int .i64 0) fun v1002 =>
xIf v1002 (K v1000 w1001) (xAt a0 fun a1003 =>
XLd w1001 (a1003.add 3) fun v1004 =>
xNot v1004 fun v1005 =>
xIf v1005 (K (.int .i64 6) w1001) (xAt a0 fun a1006 =>
XSt w1001 (a1006.add 2) (.int .u64 0) fun w1007 =>
xAt a0 fun a1008 =>
XSt w1007 (a1008.add 3) (.bool false) fun w1009 =>
K (.int .i64 0) w1009))
theorem W_node_Node_DropVal {a0 a1 : Value} {K : Value → World → Prop} {w : World} (h : S_node_Node_DropVal a0 a1 K w) : Ret P n_node_Node_DropVal [a0, a1] w K :=
  vcF_of mixed Tryz.func56 (show S_node_Node_DropVal a0 a1 K w = vcF P Tryz.f56 [a0, a1] w K from by kernel_rfl) h
/- (*spunyarn/kids.Kids[*spunyarn/node.Node]).Get -/
abbrev S_kids_Kids_Get (a0 : Value) (a1 : Value) (K : Value → World → Prop) (w0 : World) : Prop :=
Ret P n_kids_Kids_ok [a0] w0 fun v1000 w1001 =>
xNot v1000 fun v1002 =>
xIf v1002 (K (.tuple #[(.pointer none), (.bool false)]) w1001) (xAt a0 fun a1003 =>
XLd w1001 (a1003.add 0) fun v1004 =>
xPNe P w1001 v1004 (.pointer none) fun v1005 =>
xIf v1005 (xAt a0 fun a1006 =>
XLd w1001 (a1006.add 0) fun v1007 =>
Ret P n_small_Row_Get [v1007, a1] w1001 fun v1008 w1009 =>
xTup v1008 0 fun v1010 =>
xTup v1008 1 fun v1011 =>
K (.tuple #[v1010, v1011]) w1009) (xAt a0 fun a1012 =>
XLd w1001 (a1012.add 1) fun v1013 =>
Ret P n_wide_Board_Get [v1013, a1] w1001 fun v1014 w1015 =>
xTup v1014 0 fun v1016 =>
xTup v1014 1 fun v1017 =>
K (.tuple #[v1016, v1017]) w1015))
theorem W_kids_Kids_Get {a0 a1 : Value} {K : Value → World → Prop} {w : World} (h : S_kids_Kids_Get a0 a1 K w) : Ret P n_kids_Kids_Get [a0, a1] w K :=
  vcF_of mixed Tryz.func57 (show S_kids_Kids_Get a0 a1 K w = vcF P Tryz.f57 [a0, a1] w K from by kernel_rfl) h
/- (*spunyarn/node.Node).may -/
abbrev S_node_Node_may (a0 : Value) (a1 : Value) (K : Value → World → Prop) (w0 : World) : Prop :=
xPEq P w0 a0 (.pointer none) fun v1000 =>
xIf v1000 (K (.int .i64 2) w0) (/- 0 -/ XJ (fun J1001 =>
xEq a1 (.int .u64 0) fun v1005 =>
xIf v1005 (J1001 [(.bool true)] w0) (xAt a0 fun a1006 =>
XLd w0 (a1006.add 0) fun v1007 =>
xNe a1 v1007 fun v1008 =>
J1001 [v1008] w0)) fun vs1002 g1003 w1004 =>
xIf (vs1002.getD 0 undef) (K (.int .i64 11) w1004) (K (.int .i64 0) w1004))
theorem W_node_Node_may {a0 a1 : Value} {K : Value → World → Prop} {w : World} (h : S_node_Node_may a0 a1 K w) : Ret P n_node_Node_may [a0, a1] w K :=
  vcF_of mixed Tryz.func58 (show S_node_Node_may a0 a1 K w = vcF P Tryz.f58 [a0, a1] w K from by kernel_rfl) h
/- (*spunyarn/node.Node).Copy -/
abbrev S_node_Node_Copy (a0 : Value) (a1 : Value) (a2 : Value) (K : Value → World → Prop) (w0 : World) : Prop :=
xPEq P w0 a0 (.pointer none) fun v1000 =>
xIf v1000 (K (.pointer none) w0) (Ret P n_meter_Meter_Made [a1, (.int .i64 1)] w0 fun v1001 w1002 =>
xAt a0 fun a1003 =>
XLdN w1002 a1003 5 fun v1004 =>
XNew w1002 [(.int .u64 0), (.slice none 0 0), (.int .u64 0), (.bool false), (.pointer none)] 80 fun a1005 w1006 =>
XDo P (storeVar 80 a1005 v1004) w1006 fun w1007 =>
XSt w1007 (a1005.add 0) a2 fun w1008 =>
xAt a0 fun a1009 =>
XLd w1008 (a1009.add 4) fun v1010 =>
Ret P n_kids_Kids_Copy [v1010] w1008 fun v1011 w1012 =>
XSt w1012 (a1005.add 4) v1011 fun w1013 =>
K (.pointer (some a1005)) w1013)
theorem W_node_Node_Copy {a0 a1 a2 : Value} {K : Value → World → Prop} {w : World} (h : S_node_Node_Copy a0 a1 a2 K w) : Ret P n_node_Node_Copy [a0, a1, a2] w K :=
  vcF_of mixed Tryz.func59 (show S_node_Node_Copy a0 a1 a2 K w = vcF P Tryz.f59 [a0, a1, a2] w K from by kernel_rfl) h
/- (*spunyarn/node.Node).inner -/
abbrev S_node_Node_inner (a0 : Value) (a1 : Value) (K : Value → World → Prop) (w0 : World) : Prop :=
Ret P n_node_Node_may [a0, a1] w0 fun v1000 w1001 =>
/- 0 -/ XJ (fun J1002 =>
xEq v1000 (.int .i64 0) fun v1006 =>
xIf v1006 (Ret P n_node_Node_isLeaf [a0] w1001 fun v1007 w1008 =>
J1002 [v1007] w1008) (J1002 [(.bool false)] w1001)) fun vs1003 g1004 w1005 =>
xIf (vs1003.getD 0 undef) (K (.int .i64 9) w1005) (K v1000 w1005)
theorem W_node_Node_inner {a0 a1 : Value} {K : Value → World → Prop} {w : World} (h : S_node_Node_inner a0 a1 K w) : Ret P n_node_Node_inner [a0, a1] w K :=
  vcF_of mixed Tryz.func60 (show S_node_Node_inner a0 a1 K w = vcF P Tryz.f60 [a0, a1] w K from by kernel_rfl) h
/- (*spunyarn/kids.Kids[*spunyarn/node.Node]).Set -/
abbrev S_kids_Kids_Set (a0 : Value) (a1 : Value) (a2 : Value) (K : Value → World → Prop) (w0 : World) : Prop :=
Ret P n_kids_Kids_ok [a0] w0 fun v1000 w1001 =>
xNot v1000 fun v1002 =>
xIf v1002 (K (.int .i64 2) w1001) (/- 0 _ 1 is -/ XJ (fun J1003 =>
Ret P n_kids_Kids_Get [a0, a1] w1001 fun v1007 w1008 =>
xTup v1007 0 fun v1009 =>
xTup v1007 1 fun v1010 =>
/- 0 -/ XJ (fun J1011 =>
xNot v1010 fun v1015 =>
xIf v1015 (Ret P n_kids_Kids_Len [a0] w1008 fun v1016 w1017 =>
Ret P n_kids_Kids_Kind [a0] w1017 fun v1018 w1019 =>
xEq v1016 v1018 fun v1020 =>
J1011 [v1020] w1019) (J1011 [(.bool false)] w1008)) fun vs1012 g1013 w1014 =>
xIf (vs1012.getD 0 undef) (Ret P n_kids_Kids_Len [a0] w1014 fun v1021 w1022 =>
xAdd v1021 (.int .i64 1) fun v1023 =>
Ret P n_kids_KindOf [v1023] w1022 fun v1024 w1025 =>
Ret P n_kids_move_Node [a0, v1024] w1025 fun v1026 w1027 =>
J1003 [v1009, v1010] w1027) (J1003 [v1009, v1010] w1014)) fun vs1004 g1005 w1006 =>
Ret P n_kids_Kids_put [a0, a1, a2] w1006 fun v1028 w1029 =>
K (.int .i64 0) w1029)
theorem W_kids_Kids_Set {a0 a1 a2 : Value} {K : Value → World → Prop} {w : World} (h : S_kids_Kids_Set a0 a1 a2 K w) : Ret P n_kids_Kids_Set [a0, a1, a2] w K :=
  vcF_of mixed Tryz.func61 (show S_kids_Kids_Set a0 a1 a2 K w = vcF P Tryz.f61 [a0, a1, a2] w K from by kernel_rfl) h
end Go.Proofs.YtidkkkdlaclolaaGreat
