/-  Written by gen.py for this claim: of each function a form without frames, the same as the engine's condition by reckoning.  -/
import Derived.Test.YtbleadagnpckbaaGreatDoorSN
import Derived.Test.YtbleadagnpckbaaGreatDoorProg
namespace Go.Proofs.YtbleadagnpckbaaGreatDoor
open Go X
set_option linter.unusedVariables false
set_option maxRecDepth 100000
/- spunyarn/spunyarnlaw16.equal -/
/- S_law16_equal_l1: 0=slot 13 1=slot 5 i 2=slot 4 -/
def S_law16_equal_l1 (K : Value → World → Prop) (a0 : Value) (a1 : Value) (v1003 : Value) (I1004 : Nat → List Value → World → Prop) (n1005 : Nat) (vs1006 : List Value) (g1007 : Nat → Value) (w1008 : World) : Prop :=
xLt (vs1006.getD 0 undef) v1003 fun v1009 =>
xIf v1009 (/- 0 -/ XJ (fun J1010 =>
xIxS a0 (vs1006.getD 0 undef) 2 fun v1014 =>
xFld v1014 1 fun v1015 =>
xAt v1015 fun a1016 =>
XLd w1008.drew a1016 fun v1017 =>
xIxS a1 (vs1006.getD 0 undef) 2 fun v1018 =>
xFld v1018 1 fun v1019 =>
xAt v1019 fun a1020 =>
XLd w1008.drew a1020 fun v1021 =>
xNe v1017 v1021 fun v1022 =>
xIf v1022 (J1010 [(.bool true)] (w1008.drew)) (xIxS a0 (vs1006.getD 0 undef) 2 fun v1023 =>
xFld v1023 0 fun v1024 =>
xAt v1024 fun a1025 =>
XLd w1008.drew a1025 fun v1026 =>
xIxS a1 (vs1006.getD 0 undef) 2 fun v1027 =>
xFld v1027 0 fun v1028 =>
xAt v1028 fun a1029 =>
XLd w1008.drew a1029 fun v1030 =>
Ret P n_ref01_Same [v1026, v1030] w1008.drew fun v1031 w1032 =>
xNot v1031 fun v1033 =>
J1010 [v1033] w1032)) fun vs1011 g1012 w1013 =>
xIf (vs1011.getD 0 undef) (K (.bool false) w1013) (xAdd (vs1006.getD 0 undef) (.int .i64 1) fun v1034 =>
XNext I1004 n1005 [v1034, (vs1006.getD 0 undef), (vs1006.getD 2 undef)] w1013)) (K (.bool true) w1008)
abbrev S_law16_equal (a0 : Value) (a1 : Value) (K : Value → World → Prop) (w0 : World) : Prop :=
xLen a0 fun v1000 =>
xLen a1 fun v1001 =>
xNe v1000 v1001 fun v1002 =>
xIf v1002 (K (.bool false) w0) (xLen a0 fun v1003 =>
XLoop [(.int .i64 0), undef, (.bool false)] w0 (S_law16_equal_l1 K a0 a1 v1003))
theorem W_law16_equal {a0 a1 : Value} {K : Value → World → Prop} {w : World} (h : S_law16_equal a0 a1 K w) : Ret P n_law16_equal [a0, a1] w K :=
  vcF_of mixed Tryz.func48 (show S_law16_equal a0 a1 K w = vcF P Tryz.f48 [a0, a1] w K from by kernel_rfl) h
/- spunyarn/spunyarnlaw24.large -/
/- S_law24_large_l1: 0=slot 23 1=slot 6 k 2=slot 4 -/
def S_law24_large_l1 (K : Value → World → Prop) (v1014 : Value) (v1015 : Value) (I1016 : Nat → List Value → World → Prop) (n1017 : Nat) (vs1018 : List Value) (g1019 : Nat → Value) (w1020 : World) : Prop :=
xLt (vs1018.getD 0 undef) v1015 fun v1021 =>
xIf v1021 (xIxS v1014 (vs1018.getD 0 undef) 1 fun v1022 =>
xAt v1022 fun a1023 =>
XLd w1020 a1023 fun v1024 =>
xLen v1024 fun v1025 =>
xGt v1025 (.int .i64 300) fun v1026 =>
xIf v1026 (K (.bool true) w1020) (xAdd (vs1018.getD 0 undef) (.int .i64 1) fun v1027 =>
XNext I1016 n1017 [v1027, v1024, (vs1018.getD 2 undef)] w1020)) (K (.bool false) w1020)
abbrev S_law24_large (a0 : Value) (a1 : Value) (K : Value → World → Prop) (w0 : World) : Prop :=
XNew w0 (cellsV a1) 82 fun a1000 w1001 =>
/- 0 -/ XJ (fun J1002 =>
Ret P n_law24_far [a0, (.int .i64 100)] w1001 fun v1006 w1007 =>
xIf v1006 (J1002 [(.bool true)] w1007) (XLd w1007 (a1000.add 1) fun v1008 =>
Ret P n_law24_far [v1008, (.int .i64 60)] w1007 fun v1009 w1010 =>
xIf v1009 (J1002 [(.bool true)] w1010) (XLd w1010 (a1000.add 2) fun v1011 =>
xLen v1011 fun v1012 =>
xGt v1012 (.int .i64 40) fun v1013 =>
J1002 [v1013] w1010))) fun vs1003 g1004 w1005 =>
xIf (vs1003.getD 0 undef) (K (.bool true) w1005) (XLd w1005 (a1000.add 2) fun v1014 =>
xLen v1014 fun v1015 =>
XLoop [(.int .i64 0), undef, (.bool false)] w1005 (S_law24_large_l1 K v1014 v1015))
theorem W_law24_large {a0 a1 : Value} {K : Value → World → Prop} {w : World} (h : S_law24_large a0 a1 K w) : Ret P n_law24_large [a0, a1] w K :=
  vcF_of mixed Tryz.func49 (show S_law24_large a0 a1 K w = vcF P Tryz.f49 [a0, a1] w K from by kernel_rfl) h
/- spunyarn/spunyarnlaw24.second -/
/- S_law24_second_l1: 0=slot 51 1=slot 11 i 2=slot 12 k 3=slot 0 n 4=slot 1 l -/
def S_law24_second_l1 (K : Value → World → Prop) (v1035 : Value) (v1036 : Value) (I1037 : Nat → List Value → World → Prop) (n1038 : Nat) (vs1039 : List Value) (g1040 : Nat → Value) (w1041 : World) : Prop :=
xLt (vs1039.getD 0 undef) v1036 fun v1042 =>
xIf v1042 (xIxS v1035 (vs1039.getD 0 undef) 1 fun v1043 =>
xAt v1043 fun a1044 =>
XLd w1041 a1044 fun v1045 =>
xConv .u64 (vs1039.getD 0 undef) fun v1046 =>
xAdd v1046 (.int .u64 1000) fun v1047 =>
Ret P n_del_Del [(vs1039.getD 3 undef), v1045, v1047, (.pointer none)] w1041 fun v1048 w1049 =>
xTup v1048 0 fun v1050 =>
xTup v1048 1 fun v1051 =>
xTup v1048 2 fun v1052 =>
Ret P n_ref16_Del [(vs1039.getD 4 undef), v1045] w1049 fun v1053 w1054 =>
xTup v1053 0 fun v1055 =>
xTup v1053 1 fun v1056 =>
xAdd (vs1039.getD 0 undef) (.int .i64 1) fun v1057 =>
XNext I1037 n1038 [v1057, (vs1039.getD 0 undef), v1045, v1050, v1055] w1054) (K (.tuple #[(vs1039.getD 3 undef), (vs1039.getD 4 undef)]) w1041)
/- S_law24_second_l2: 0=slot 24 1=slot 9 i 2=slot 0 n 3=slot 1 l -/
def S_law24_second_l2 (K : Value → World → Prop) (a1000 : Addr) (v1008 : Value) (v1009 : Value) (I1010 : Nat → List Value → World → Prop) (n1011 : Nat) (vs1012 : List Value) (g1013 : Nat → Value) (w1014 : World) : Prop :=
xLt (vs1012.getD 0 undef) v1009 fun v1015 =>
xIf v1015 (xIxS v1008 (vs1012.getD 0 undef) 2 fun v1016 =>
xAt v1016 fun a1017 =>
XLdN w1014 a1017 2 fun v1018 =>
XNew w1014 [(.slice none 0 0), (.int .u64 0)] 52 fun a1019 w1020 =>
XDo P (storeVar 52 a1019 v1018) w1020 fun w1021 =>
XLd w1021 (a1019.add 0) fun v1022 =>
XLd w1021 (a1019.add 1) fun v1023 =>
xConv .u64 (vs1012.getD 0 undef) fun v1024 =>
xAdd v1024 (.int .u64 100) fun v1025 =>
Ret P n_put_Put [(vs1012.getD 2 undef), v1022, v1023, v1025, (.pointer none)] w1021 fun v1026 w1027 =>
xTup v1026 0 fun v1028 =>
xTup v1026 1 fun v1029 =>
XLd w1027 (a1019.add 0) fun v1030 =>
XLd w1027 (a1019.add 1) fun v1031 =>
Ret P n_ref15_Put [(vs1012.getD 3 undef), v1030, v1031] w1027 fun v1032 w1033 =>
xAdd (vs1012.getD 0 undef) (.int .i64 1) fun v1034 =>
XNext I1010 n1011 [v1034, (vs1012.getD 0 undef), v1028, v1032] w1033) (XLd w1014 (a1000.add 2) fun v1035 =>
xLen v1035 fun v1036 =>
XLoop [(.int .i64 0), undef, undef, (vs1012.getD 2 undef), (vs1012.getD 3 undef)] w1014 (S_law24_second_l1 K v1035 v1036))
abbrev S_law24_second (a0 : Value) (a1 : Value) (a2 : Value) (K : Value → World → Prop) (w0 : World) : Prop :=
XNew w0 (cellsV a2) 82 fun a1000 w1001 =>
XLd w1001 (a1000.add 0) fun v1002 =>
xIf v1002 (XLd w1001 (a1000.add 1) fun v1003 =>
Ret P n_ref13_Sort [v1003] w1001 fun v1004 w1005 =>
Ret P n_law24_tree [v1004, (.int .u64 2)] w1005 fun v1006 w1007 =>
K (.tuple #[v1006, v1004]) w1007) (XLd w1001 (a1000.add 1) fun v1008 =>
xLen v1008 fun v1009 =>
XLoop [(.int .i64 0), undef, a0, a1] w1001 (S_law24_second_l2 K a1000 v1008 v1009))
theorem W_law24_second {a0 a1 a2 : Value} {K : Value → World → Prop} {w : World} (h : S_law24_second a0 a1 a2 K w) : Ret P n_law24_second [a0, a1, a2] w K :=
  vcF_of mixed Tryz.func50 (show S_law24_second a0 a1 a2 K w = vcF P Tryz.f50 [a0, a1, a2] w K from by kernel_rfl) h
/- spunyarn/spunyarnlaw24.as -/
abbrev S_law24_as (a0 : Value) (a1 : Value) (K : Value → World → Prop) (w0 : World) : Prop :=
Ret P n_canon_Shape [a0] w0 fun v1000 w1001 =>
Ret P n_ref13_Build [a1] w1001 fun v1002 w1003 =>
Ret P n_ref13_Shape [v1002] w1003 fun v1004 w1005 =>
xSEq v1000 v1004 fun v1006 =>
K v1006 w1005
theorem W_law24_as {a0 a1 : Value} {K : Value → World → Prop} {w : World} (h : S_law24_as a0 a1 K w) : Ret P n_law24_as [a0, a1] w K :=
  vcF_of mixed Tryz.func51 (show S_law24_as a0 a1 K w = vcF P Tryz.f51 [a0, a1] w K from by kernel_rfl) h
/- spunyarn/spunyarnref24.Union -/
/- S_ref24_Union_l1: 0=slot 8 i 1=slot 9 v 2=slot 10 w 3=slot 11 has 4=slot 7 out -/
def S_ref24_Union_l1 (K : Value → World → Prop) (a0 : Value) (a1 : Value) (a2 : Value) (I1002 : Nat → List Value → World → Prop) (n1003 : Nat) (vs1004 : List Value) (g1005 : Nat → Value) (w1006 : World) : Prop :=
xLen a2 fun v1007 =>
xLt (vs1004.getD 0 undef) v1007 fun v1008 =>
xIf v1008 (xIxS a2 (vs1004.getD 0 undef) 2 fun v1009 =>
xFld v1009 1 fun v1010 =>
xAt v1010 fun a1011 =>
XLd w1006 a1011 fun v1012 =>
/- 0 w 1 has 2 v -/ XJ (fun J1013 =>
xIxS a2 (vs1004.getD 0 undef) 2 fun v1017 =>
xFld v1017 0 fun v1018 =>
xAt v1018 fun a1019 =>
XLd w1006 a1019 fun v1020 =>
Ret P n_ref14_Get [a1, v1020] w1006 fun v1021 w1022 =>
xTup v1021 0 fun v1023 =>
xTup v1021 1 fun v1024 =>
xIf v1024 (xIxS a2 (vs1004.getD 0 undef) 2 fun v1025 =>
xFld v1025 1 fun v1026 =>
xAt v1026 fun a1027 =>
XLd w1022 a1027 fun v1028 =>
Ret P n_ref24_Pick [a0, v1023, v1028] w1022 fun v1029 w1030 =>
xTup v1029 0 fun v1031 =>
xTup v1029 1 fun v1032 =>
J1013 [v1023, v1024, v1031] w1030) (J1013 [v1023, v1024, v1012] w1022)) fun vs1014 g1015 w1016 =>
xIxS a2 (vs1004.getD 0 undef) 2 fun v1033 =>
xFld v1033 0 fun v1034 =>
xAt v1034 fun a1035 =>
XLd w1016 a1035 fun v1036 =>
xFill [(.slice none 0 0), (.int .u64 0)] [(0, 1, v1036), (1, 1, (vs1014.getD 2 undef))] fun c1037 =>
xFill (repL [(.slice none 0 0), (.int .u64 0)] 1) [(0, 2, (.agg c1037.toArray))] fun c1038 =>
XNew w1016 c1038 52 fun a1039 w1040 =>
XRun P (Builtin.append_ #[33, 33] 33 #[(vs1004.getD 4 undef), (.slice (some a1039) 1 1)]) w1040 fun v1041 w1042 =>
xAdd (vs1004.getD 0 undef) (.int .i64 1) fun v1043 =>
XNext I1002 n1003 [v1043, (vs1014.getD 2 undef), (vs1014.getD 0 undef), (vs1014.getD 1 undef), v1041] w1042) (Ret P n_ref13_Sort [(vs1004.getD 4 undef)] w1006 fun v1044 w1045 =>
K v1044 w1045)
abbrev S_ref24_Union (a0 : Value) (a1 : Value) (a2 : Value) (K : Value → World → Prop) (w0 : World) : Prop :=
XRun P (Builtin.append_ #[33, 33] 33 #[(.slice none 0 0), a1]) w0 fun v1000 w1001 =>
XLoop [(.int .i64 0), undef, undef, undef, v1000] w1001 (S_ref24_Union_l1 K a0 a1 a2)
theorem W_ref24_Union {a0 a1 a2 : Value} {K : Value → World → Prop} {w : World} (h : S_ref24_Union a0 a1 a2 K w) : Ret P n_ref24_Union [a0, a1, a2] w K :=
  vcF_of mixed Tryz.func52 (show S_ref24_Union a0 a1 a2 K w = vcF P Tryz.f52 [a0, a1, a2] w K from by kernel_rfl) h
/- spunyarn/spunyarnref19.Same -/
/- S_ref19_Same_l1: 0=slot 5 i 1=slot 4 -/
def S_ref19_Same_l1 (K : Value → World → Prop) (a0 : Value) (a1 : Value) (I1003 : Nat → List Value → World → Prop) (n1004 : Nat) (vs1005 : List Value) (g1006 : Nat → Value) (w1007 : World) : Prop :=
xLen a0 fun v1008 =>
xLt (vs1005.getD 0 undef) v1008 fun v1009 =>
xIf v1009 (/- 0 -/ XJ (fun J1010 =>
xIxS a0 (vs1005.getD 0 undef) 2 fun v1014 =>
xFld v1014 1 fun v1015 =>
xAt v1015 fun a1016 =>
XLd w1007.drew a1016 fun v1017 =>
xIxS a1 (vs1005.getD 0 undef) 2 fun v1018 =>
xFld v1018 1 fun v1019 =>
xAt v1019 fun a1020 =>
XLd w1007.drew a1020 fun v1021 =>
xNe v1017 v1021 fun v1022 =>
xIf v1022 (J1010 [(.bool true)] (w1007.drew)) (xIxS a0 (vs1005.getD 0 undef) 2 fun v1023 =>
xFld v1023 0 fun v1024 =>
xAt v1024 fun a1025 =>
XLd w1007.drew a1025 fun v1026 =>
xIxS a1 (vs1005.getD 0 undef) 2 fun v1027 =>
xFld v1027 0 fun v1028 =>
xAt v1028 fun a1029 =>
XLd w1007.drew a1029 fun v1030 =>
Ret P n_ref01_Same [v1026, v1030] w1007.drew fun v1031 w1032 =>
xNot v1031 fun v1033 =>
J1010 [v1033] w1032)) fun vs1011 g1012 w1013 =>
xIf (vs1011.getD 0 undef) (K (.bool false) w1013) (xAdd (vs1005.getD 0 undef) (.int .i64 1) fun v1034 =>
XNext I1003 n1004 [v1034, (vs1005.getD 1 undef)] w1013)) (K (.bool true) w1007)
abbrev S_ref19_Same (a0 : Value) (a1 : Value) (K : Value → World → Prop) (w0 : World) : Prop :=
xLen a0 fun v1000 =>
xLen a1 fun v1001 =>
xNe v1000 v1001 fun v1002 =>
xIf v1002 (K (.bool false) w0) (XLoop [(.int .i64 0), (.bool false)] w0 (S_ref19_Same_l1 K a0 a1))
theorem W_ref19_Same {a0 a1 : Value} {K : Value → World → Prop} {w : World} (h : S_ref19_Same a0 a1 K w) : Ret P n_ref19_Same [a0, a1] w K :=
  vcF_of mixed Tryz.func53 (show S_ref19_Same a0 a1 K w = vcF P Tryz.f53 [a0, a1] w K from by kernel_rfl) h
/- spunyarn/spunyarnlaw19.far -/
/- S_law19_far_l1: 0=slot 13 1=slot 4 -/
def S_law19_far_l1 (K : Value → World → Prop) (a0 : Value) (v1002 : Value) (I1003 : Nat → List Value → World → Prop) (n1004 : Nat) (vs1005 : List Value) (g1006 : Nat → Value) (w1007 : World) : Prop :=
xLt (vs1005.getD 0 undef) v1002 fun v1008 =>
xIf v1008 (xIxS a0 (vs1005.getD 0 undef) 2 fun v1009 =>
xAt v1009 fun a1010 =>
XLdN w1007 a1010 2 fun v1011 =>
XNew w1007 [(.slice none 0 0), (.int .u64 0)] 52 fun a1012 w1013 =>
XDo P (storeVar 52 a1012 v1011) w1013 fun w1014 =>
XLd w1014 (a1012.add 0) fun v1015 =>
xLen v1015 fun v1016 =>
xGt v1016 (.int .i64 300) fun v1017 =>
xIf v1017 (K (.bool true) w1014) (xAdd (vs1005.getD 0 undef) (.int .i64 1) fun v1018 =>
XNext I1003 n1004 [v1018, (vs1005.getD 1 undef)] w1014)) (K (.bool false) w1007)
abbrev S_law19_far (a0 : Value) (a1 : Value) (K : Value → World → Prop) (w0 : World) : Prop :=
xLen a0 fun v1000 =>
xGt v1000 a1 fun v1001 =>
xIf v1001 (K (.bool true) w0) (xLen a0 fun v1002 =>
XLoop [(.int .i64 0), (.bool false)] w0 (S_law19_far_l1 K a0 v1002))
theorem W_law19_far {a0 a1 : Value} {K : Value → World → Prop} {w : World} (h : S_law19_far a0 a1 K w) : Ret P n_law19_far [a0, a1] w K :=
  vcF_of mixed Tryz.func54 (show S_law19_far a0 a1 K w = vcF P Tryz.f54 [a0, a1] w K from by kernel_rfl) h
/- spunyarn/spunyarnlaw19.alive -/
abbrev S_law19_alive  (K : Value → World → Prop) (w0 : World) : Prop :=
Ret P n_tree_New [] w0 fun v1000 w1001 =>
Ret P n_tree_World_From [v1000, (.slice none 0 0)] w1001 fun v1002 w1003 =>
xTup v1002 0 fun v1004 =>
xTup v1002 1 fun v1005 =>
xFill (repL [(.int .u8 0)] 1) [(0, 1, (.int .u8 1))] fun c1006 =>
XNew w1003 c1006 5 fun a1007 w1008 =>
Ret P n_tree_Version_Put [v1004, (.slice (some a1007) 1 1), (.int .u64 5)] w1008 fun v1009 w1010 =>
xTup v1009 0 fun v1011 =>
xTup v1009 1 fun v1012 =>
/- 0 -/ XJ (fun J1013 =>
xPEq P w1010 v1004 (.pointer none) fun v1017 =>
xIf v1017 (J1013 [(.bool true)] w1010) (xPEq P w1010 v1011 (.pointer none) fun v1018 =>
xIf v1018 (J1013 [(.bool true)] w1010) (xNe v1005 (.int .i64 0) fun v1019 =>
xIf v1019 (J1013 [(.bool true)] w1010) (xNe v1012 (.int .i64 0) fun v1020 =>
J1013 [v1020] w1010)))) fun vs1014 g1015 w1016 =>
xIf (vs1014.getD 0 undef) (K (.bool false) w1016) (xFill (repL [(.int .u8 0)] 1) [(0, 1, (.int .u8 1))] fun c1021 =>
XNew w1016 c1021 5 fun a1022 w1023 =>
Ret P n_tree_Version_Get [v1011, (.slice (some a1022) 1 1)] w1023 fun v1024 w1025 =>
xTup v1024 0 fun v1026 =>
xTup v1024 1 fun v1027 =>
xFill (repL [(.int .u8 0)] 1) [(0, 1, (.int .u8 1))] fun c1028 =>
XNew w1025 c1028 5 fun a1029 w1030 =>
Ret P n_tree_Version_Del [v1011, (.slice (some a1029) 1 1)] w1030 fun v1031 w1032 =>
xTup v1031 0 fun v1033 =>
xTup v1031 1 fun v1034 =>
xTup v1031 2 fun v1035 =>
/- 0 -/ XJ (fun J1036 =>
xEq v1026 (.int .u64 5) fun v1040 =>
xIf v1040 (xIf v1027 (Ret P n_tree_Version_Shape [v1011] w1032 fun v1041 w1042 =>
xSEq v1041 (.string ⟨#[76, 48, 49, 61, 53]⟩) fun v1043 =>
xIf v1043 (Ret P n_tree_Version_Len [v1004] w1042 fun v1044 w1045 =>
xEq v1044 (.int .i64 0) fun v1046 =>
xIf v1046 (Ret P n_tree_Version_Len [v1011] w1045 fun v1047 w1048 =>
xEq v1047 (.int .i64 1) fun v1049 =>
xIf v1049 (Ret P n_tree_Version_Len [v1033] w1048 fun v1050 w1051 =>
xEq v1050 (.int .i64 0) fun v1052 =>
xIf v1052 (xIf v1034 (xEq v1035 (.int .i64 0) fun v1053 =>
xIf v1053 (Ret P n_tree_World_Made [v1000] w1051 fun v1054 w1055 =>
xEq v1054 (.int .i64 1) fun v1056 =>
xIf v1056 (Ret P n_tree_Version_World [v1011] w1055 fun v1057 w1058 =>
xPEq P w1058 v1057 v1000 fun v1059 =>
J1036 [v1059] w1058) (J1036 [(.bool false)] w1055)) (J1036 [(.bool false)] w1051)) (J1036 [(.bool false)] w1051)) (J1036 [(.bool false)] w1051)) (J1036 [(.bool false)] w1048)) (J1036 [(.bool false)] w1045)) (J1036 [(.bool false)] w1042)) (J1036 [(.bool false)] w1032)) (J1036 [(.bool false)] w1032)) fun vs1037 g1038 w1039 =>
K (vs1037.getD 0 undef) w1039)
theorem W_law19_alive {K : Value → World → Prop} {w : World} (h : S_law19_alive  K w) : Ret P n_law19_alive [] w K :=
  vcF_of mixed Tryz.func55 (show S_law19_alive  K w = vcF P Tryz.f55 [] w K from by kernel_rfl) h
/- spunyarn/tree.New -/
abbrev S_tree_New  (K : Value → World → Prop) (w0 : World) : Prop :=
xFill [(.int .i64 0), (.int .u64 0)] [] fun c1000 =>
XNew w0 (cellsV (.agg c1000.toArray)) 226 fun a1001 w1002 =>
K (.pointer (some a1001)) w1002
theorem W_tree_New {K : Value → World → Prop} {w : World} (h : S_tree_New  K w) : Ret P n_tree_New [] w K :=
  vcF_of mixed Tryz.func56 (show S_tree_New  K w = vcF P Tryz.f56 [] w K from by kernel_rfl) h
/- (*spunyarn/tree.World).From -/
abbrev S_tree_World_From (a0 : Value) (a1 : Value) (K : Value → World → Prop) (w0 : World) : Prop :=
xPEq P w0 a0 (.pointer none) fun v1000 =>
xIf v1000 (K (.tuple #[(.pointer none), (.int .i64 2)]) w0) (Ret P n_tree_World_Meter [a0] w0 fun v1001 w1002 =>
Ret P n_tree_World_Owner [a0] w1002 fun v1003 w1004 =>
Ret P n_canon_Build [v1001, v1003, a1] w1004 fun v1005 w1006 =>
xTup v1005 0 fun v1007 =>
xTup v1005 1 fun v1008 =>
xNe v1008 (.int .i64 0) fun v1009 =>
xIf v1009 (K (.tuple #[(.pointer none), v1008]) w1006) (Ret P n_tree_World_Version [a0, v1007] w1006 fun v1010 w1011 =>
K (.tuple #[v1010, (.int .i64 0)]) w1011))
theorem W_tree_World_From {a0 a1 : Value} {K : Value → World → Prop} {w : World} (h : S_tree_World_From a0 a1 K w) : Ret P n_tree_World_From [a0, a1] w K :=
  vcF_of mixed Tryz.func57 (show S_tree_World_From a0 a1 K w = vcF P Tryz.f57 [a0, a1] w K from by kernel_rfl) h
/- spunyarn/spunyarnlaw19.pairs -/
/- S_law19_pairs_l1: 0=slot 8 1=slot 3 out -/
def S_law19_pairs_l1 (K : Value → World → Prop) (a0 : Value) (v1000 : Value) (I1001 : Nat → List Value → World → Prop) (n1002 : Nat) (vs1003 : List Value) (g1004 : Nat → Value) (w1005 : World) : Prop :=
xLt (vs1003.getD 0 undef) v1000 fun v1006 =>
xIf v1006 (xIxS a0 (vs1003.getD 0 undef) 2 fun v1007 =>
xAt v1007 fun a1008 =>
XLdN w1005 a1008 2 fun v1009 =>
XNew w1005 [(.slice none 0 0), (.int .u64 0)] 52 fun a1010 w1011 =>
XDo P (storeVar 52 a1010 v1009) w1011 fun w1012 =>
XLdN w1012 a1010 2 fun v1013 =>
xFill (repL [(.slice none 0 0), (.int .u64 0)] 1) [(0, 2, v1013)] fun c1014 =>
XNew w1012 c1014 102 fun a1015 w1016 =>
XRun P (Builtin.append_ #[93, 93] 93 #[(vs1003.getD 1 undef), (.slice (some a1015) 1 1)]) w1016 fun v1017 w1018 =>
xAdd (vs1003.getD 0 undef) (.int .i64 1) fun v1019 =>
XNext I1001 n1002 [v1019, v1017] w1018) (K (vs1003.getD 1 undef) w1005)
abbrev S_law19_pairs (a0 : Value) (K : Value → World → Prop) (w0 : World) : Prop :=
xLen a0 fun v1000 =>
XLoop [(.int .i64 0), (.slice none 0 0)] w0 (S_law19_pairs_l1 K a0 v1000)
theorem W_law19_pairs {a0 : Value} {K : Value → World → Prop} {w : World} (h : S_law19_pairs a0 K w) : Ret P n_law19_pairs [a0] w K :=
  vcF_of mixed Tryz.func58 (show S_law19_pairs a0 K w = vcF P Tryz.f58 [a0] w K from by kernel_rfl) h
/- (*spunyarn/tree.Version).Get -/
abbrev S_tree_Version_Get (a0 : Value) (a1 : Value) (K : Value → World → Prop) (w0 : World) : Prop :=
Ret P n_tree_Version_Root [a0] w0 fun v1000 w1001 =>
Ret P n_find_Get [v1000, a1] w1001 fun v1002 w1003 =>
xTup v1002 0 fun v1004 =>
xTup v1002 1 fun v1005 =>
K (.tuple #[v1004, v1005]) w1003
theorem W_tree_Version_Get {a0 a1 : Value} {K : Value → World → Prop} {w : World} (h : S_tree_Version_Get a0 a1 K w) : Ret P n_tree_Version_Get [a0, a1] w K :=
  vcF_of mixed Tryz.func59 (show S_tree_Version_Get a0 a1 K w = vcF P Tryz.f59 [a0, a1] w K from by kernel_rfl) h
/- spunyarn/spunyarnref14.Get -/
/- S_ref14_Get_l1: 0=slot 6 i 1=slot 4 2=slot 5 -/
def S_ref14_Get_l1 (K : Value → World → Prop) (a0 : Value) (a1 : Value) (I1000 : Nat → List Value → World → Prop) (n1001 : Nat) (vs1002 : List Value) (g1003 : Nat → Value) (w1004 : World) : Prop :=
xLen a0 fun v1005 =>
xLt (vs1002.getD 0 undef) v1005 fun v1006 =>
xIf v1006 (xIxS a0 (vs1002.getD 0 undef) 2 fun v1007 =>
xFld v1007 0 fun v1008 =>
xAt v1008 fun a1009 =>
XLd w1004 a1009 fun v1010 =>
Ret P n_ref01_Same [v1010, a1] w1004 fun v1011 w1012 =>
xIf v1011 (xIxS a0 (vs1002.getD 0 undef) 2 fun v1013 =>
xFld v1013 1 fun v1014 =>
xAt v1014 fun a1015 =>
XLd w1012 a1015 fun v1016 =>
K (.tuple #[v1016, (.bool true)]) w1012) (xAdd (vs1002.getD 0 undef) (.int .i64 1) fun v1017 =>
XNext I1000 n1001 [v1017, (vs1002.getD 1 undef), (vs1002.getD 2 undef)] w1012)) (K (.tuple #[(.int .u64 0), (.bool false)]) w1004)
abbrev S_ref14_Get (a0 : Value) (a1 : Value) (K : Value → World → Prop) (w0 : World) : Prop :=
XLoop [(.int .i64 0), (.int .u64 0), (.bool false)] w0 (S_ref14_Get_l1 K a0 a1)
theorem W_ref14_Get {a0 a1 : Value} {K : Value → World → Prop} {w : World} (h : S_ref14_Get a0 a1 K w) : Ret P n_ref14_Get [a0, a1] w K :=
  vcF_of mixed Tryz.func60 (show S_ref14_Get a0 a1 K w = vcF P Tryz.f60 [a0, a1] w K from by kernel_rfl) h
/- (*spunyarn/tree.Version).Len -/
abbrev S_tree_Version_Len (a0 : Value) (K : Value → World → Prop) (w0 : World) : Prop :=
XNew w0 (cellsV a0) 88 fun a1000 w1001 =>
XLd w1001 a1000 fun v1002 =>
Ret P n_tree_Version_ok [v1002] w1001 fun v1003 w1004 =>
xNot v1003 fun v1005 =>
xIf v1005 (K (.int .i64 0) w1004) (XLd w1004 a1000 fun v1006 =>
xAt v1006 fun a1007 =>
Ret P n_meter_Once_Get [(.pointer (some (a1007.add 2))), (.func (.func 142) #[] #[(.pointer (some a1000))])] w1004 fun v1008 w1009 =>
K v1008 w1009)
theorem W_tree_Version_Len {a0 : Value} {K : Value → World → Prop} {w : World} (h : S_tree_Version_Len a0 K w) : Ret P n_tree_Version_Len [a0] w K :=
  vcF_of mixed Tryz.func61 (show S_tree_Version_Len a0 K w = vcF P Tryz.f61 [a0] w K from by kernel_rfl) h
/- (*spunyarn/tree.World).Owner -/
abbrev S_tree_World_Owner (a0 : Value) (K : Value → World → Prop) (w0 : World) : Prop :=
xPEq P w0 a0 (.pointer none) fun v1000 =>
xIf v1000 (K (.int .u64 0) w0) (xAt a0 fun a1001 =>
Ret P n_meter_Owners_Next [(.pointer (some (a1001.add 1)))] w0 fun v1002 w1003 =>
K v1002 w1003)
theorem W_tree_World_Owner {a0 : Value} {K : Value → World → Prop} {w : World} (h : S_tree_World_Owner a0 K w) : Ret P n_tree_World_Owner [a0] w K :=
  vcF_of mixed Tryz.func62 (show S_tree_World_Owner a0 K w = vcF P Tryz.f62 [a0] w K from by kernel_rfl) h
/- (*spunyarn/tree.Version).Put -/
abbrev S_tree_Version_Put (a0 : Value) (a1 : Value) (a2 : Value) (K : Value → World → Prop) (w0 : World) : Prop :=
Ret P n_tree_Version_ok [a0] w0 fun v1000 w1001 =>
xNot v1000 fun v1002 =>
xIf v1002 (K (.tuple #[(.pointer none), (.int .i64 2)]) w1001) (xAt a0 fun a1003 =>
XLd w1001.drew (a1003.add 1) fun v1004 =>
xAt a0 fun a1005 =>
XLd w1001.drew (a1005.add 0) fun v1006 =>
xAt a0 fun a1007 =>
XLd w1001.drew (a1007.add 0) fun v1008 =>
Ret P n_tree_World_Owner [v1006] w1001.drew fun v1009 w1010 =>
xKeep1 w1010 (.pointer (some (a1007.add 0))) v1008 ∧ (xKeep1 w1010 (.pointer (some (a1003.add 1))) v1004 ∧ (Ret P n_tree_World_Meter [v1008] w1010 fun v1011 w1012 =>
xKeep1 w1012 (.pointer (some (a1003.add 1))) v1004 ∧ (Ret P n_put_Put [v1004, a1, a2, v1009, v1011] w1012 fun v1013 w1014 =>
xTup v1013 0 fun v1015 =>
xTup v1013 1 fun v1016 =>
Ret P n_tree_Version_now [a0, v1015, v1016] w1014 fun v1017 w1018 =>
xTup v1017 0 fun v1019 =>
xTup v1017 1 fun v1020 =>
K (.tuple #[v1019, v1020]) w1018))))
theorem W_tree_Version_Put {a0 a1 a2 : Value} {K : Value → World → Prop} {w : World} (h : S_tree_Version_Put a0 a1 a2 K w) : Ret P n_tree_Version_Put [a0, a1, a2] w K :=
  vcF_of mixed Tryz.func63 (show S_tree_Version_Put a0 a1 a2 K w = vcF P Tryz.f63 [a0, a1, a2] w K from by kernel_rfl) h
/- (*spunyarn/tree.Version).Root -/
abbrev S_tree_Version_Root (a0 : Value) (K : Value → World → Prop) (w0 : World) : Prop :=
xPEq P w0 a0 (.pointer none) fun v1000 =>
xIf v1000 (K (.pointer none) w0) (xAt a0 fun a1001 =>
XLd w0 (a1001.add 1) fun v1002 =>
K v1002 w0)
theorem W_tree_Version_Root {a0 : Value} {K : Value → World → Prop} {w : World} (h : S_tree_Version_Root a0 K w) : Ret P n_tree_Version_Root [a0] w K :=
  vcF_of mixed Tryz.func64 (show S_tree_Version_Root a0 K w = vcF P Tryz.f64 [a0] w K from by kernel_rfl) h
/- (*spunyarn/node.Node).Owner -/
abbrev S_node_Node_Owner (a0 : Value) (K : Value → World → Prop) (w0 : World) : Prop :=
xPEq P w0 a0 (.pointer none) fun v1000 =>
xIf v1000 (K (.int .u64 0) w0) (xAt a0 fun a1001 =>
XLd w0 (a1001.add 0) fun v1002 =>
K v1002 w0)
theorem W_node_Node_Owner {a0 : Value} {K : Value → World → Prop} {w : World} (h : S_node_Node_Owner a0 K w) : Ret P n_node_Node_Owner [a0] w K :=
  vcF_of mixed Tryz.func65 (show S_node_Node_Owner a0 K w = vcF P Tryz.f65 [a0] w K from by kernel_rfl) h
/- spunyarn/spunyarnlaw21.far -/
/- S_law21_far_l1: 0=slot 13 1=slot 4 -/
def S_law21_far_l1 (K : Value → World → Prop) (a0 : Value) (v1002 : Value) (I1003 : Nat → List Value → World → Prop) (n1004 : Nat) (vs1005 : List Value) (g1006 : Nat → Value) (w1007 : World) : Prop :=
xLt (vs1005.getD 0 undef) v1002 fun v1008 =>
xIf v1008 (xIxS a0 (vs1005.getD 0 undef) 2 fun v1009 =>
xAt v1009 fun a1010 =>
XLdN w1007 a1010 2 fun v1011 =>
XNew w1007 [(.slice none 0 0), (.int .u64 0)] 52 fun a1012 w1013 =>
XDo P (storeVar 52 a1012 v1011) w1013 fun w1014 =>
XLd w1014 (a1012.add 0) fun v1015 =>
xLen v1015 fun v1016 =>
xGt v1016 (.int .i64 300) fun v1017 =>
xIf v1017 (K (.bool true) w1014) (xAdd (vs1005.getD 0 undef) (.int .i64 1) fun v1018 =>
XNext I1003 n1004 [v1018, (vs1005.getD 1 undef)] w1014)) (K (.bool false) w1007)
abbrev S_law21_far (a0 : Value) (a1 : Value) (K : Value → World → Prop) (w0 : World) : Prop :=
xLen a0 fun v1000 =>
xGt v1000 a1 fun v1001 =>
xIf v1001 (K (.bool true) w0) (xLen a0 fun v1002 =>
XLoop [(.int .i64 0), (.bool false)] w0 (S_law21_far_l1 K a0 v1002))
theorem W_law21_far {a0 a1 : Value} {K : Value → World → Prop} {w : World} (h : S_law21_far a0 a1 K w) : Ret P n_law21_far [a0, a1] w K :=
  vcF_of mixed Tryz.func66 (show S_law21_far a0 a1 K w = vcF P Tryz.f66 [a0, a1] w K from by kernel_rfl) h
/- spunyarn/spunyarnlaw21.alive -/
abbrev S_law21_alive  (K : Value → World → Prop) (w0 : World) : Prop :=
xFill (repL [(.int .u8 0)] 1) [(0, 1, (.int .u8 2))] fun c1000 =>
XNew w0 c1000 5 fun a1001 w1002 =>
xFill [(.slice none 0 0), (.int .u64 0)] [(0, 1, (.slice (some a1001) 1 1)), (1, 1, (.int .u64 5))] fun c1003 =>
xFill (repL [(.int .u8 0)] 1) [(0, 1, (.int .u8 1))] fun c1004 =>
XNew w1002 c1004 5 fun a1005 w1006 =>
xFill [(.slice none 0 0), (.int .u64 0)] [(0, 1, (.slice (some a1005) 1 1)), (1, 1, (.int .u64 6))] fun c1007 =>
xFill (repL [(.int .u8 0)] 1) [(0, 1, (.int .u8 2))] fun c1008 =>
XNew w1006 c1008 5 fun a1009 w1010 =>
xFill [(.slice none 0 0), (.int .u64 0)] [(0, 1, (.slice (some a1009) 1 1)), (1, 1, (.int .u64 7))] fun c1011 =>
xFill (repL [(.slice none 0 0), (.int .u64 0)] 3) [(0, 2, (.agg c1003.toArray)), (2, 2, (.agg c1007.toArray)), (4, 2, (.agg c1011.toArray))] fun c1012 =>
XNew w1010 c1012 102 fun a1013 w1014 =>
Ret P n_load_Sort [(.slice (some a1013) 3 3)] w1014 fun v1015 w1016 =>
Ret P n_tree_New [] w1016 fun v1017 w1018 =>
Ret P n_load_Fresh [v1017, (.slice (some a1013) 3 3)] w1018 fun v1019 w1020 =>
xTup v1019 0 fun v1021 =>
xTup v1019 1 fun v1022 =>
xFill (repL [(.int .u8 0)] 1) [(0, 1, (.int .u8 3))] fun c1023 =>
XNew w1020 c1023 5 fun a1024 w1025 =>
xFill [(.slice none 0 0), (.int .u64 0)] [(0, 1, (.slice (some a1024) 1 1)), (1, 1, (.int .u64 8))] fun c1026 =>
xFill (repL [(.slice none 0 0), (.int .u64 0)] 1) [(0, 2, (.agg c1026.toArray))] fun c1027 =>
XNew w1025 c1027 102 fun a1028 w1029 =>
Ret P n_load_Merge [v1021, (.slice (some a1028) 1 1)] w1029 fun v1030 w1031 =>
xTup v1030 0 fun v1032 =>
xTup v1030 1 fun v1033 =>
/- 0 -/ XJ (fun J1034 =>
xLen v1015 fun v1038 =>
xEq v1038 (.int .i64 2) fun v1039 =>
xIf v1039 (xIxS v1015 (.int .i64 0) 2 fun v1040 =>
xFld v1040 1 fun v1041 =>
xAt v1041 fun a1042 =>
XLd w1031 a1042 fun v1043 =>
xEq v1043 (.int .u64 6) fun v1044 =>
xIf v1044 (xIxS v1015 (.int .i64 1) 2 fun v1045 =>
xFld v1045 1 fun v1046 =>
xAt v1046 fun a1047 =>
XLd w1031 a1047 fun v1048 =>
xEq v1048 (.int .u64 7) fun v1049 =>
xIf v1049 (Ret P n_tree_Version_Len [v1021] w1031 fun v1050 w1051 =>
xEq v1050 (.int .i64 2) fun v1052 =>
xIf v1052 (xEq v1022 (.int .i64 0) fun v1053 =>
xIf v1053 (Ret P n_tree_Version_Len [v1032] w1051 fun v1054 w1055 =>
xEq v1054 (.int .i64 3) fun v1056 =>
xIf v1056 (xEq v1033 (.int .i64 0) fun v1057 =>
J1034 [v1057] w1055) (J1034 [(.bool false)] w1055)) (J1034 [(.bool false)] w1051)) (J1034 [(.bool false)] w1051)) (J1034 [(.bool false)] w1031)) (J1034 [(.bool false)] w1031)) (J1034 [(.bool false)] w1031)) fun vs1035 g1036 w1037 =>
K (vs1035.getD 0 undef) w1037
theorem W_law21_alive {K : Value → World → Prop} {w : World} (h : S_law21_alive  K w) : Ret P n_law21_alive [] w K :=
  vcF_of mixed Tryz.func67 (show S_law21_alive  K w = vcF P Tryz.f67 [] w K from by kernel_rfl) h
/- spunyarn/spunyarnref01.Same -/
abbrev S_ref01_Same (a0 : Value) (a1 : Value) (K : Value → World → Prop) (w0 : World) : Prop :=
Ret P n_ref01_Cmp [a0, a1] w0 fun v1000 w1001 =>
xEq v1000 (.int .i64 0) fun v1002 =>
K v1002 w1001
theorem W_ref01_Same {a0 a1 : Value} {K : Value → World → Prop} {w : World} (h : S_ref01_Same a0 a1 K w) : Ret P n_ref01_Same [a0, a1] w K :=
  vcF_of mixed Tryz.func68 (show S_ref01_Same a0 a1 K w = vcF P Tryz.f68 [a0, a1] w K from by kernel_rfl) h
/- spunyarn/load.Fresh -/
abbrev S_load_Fresh (a0 : Value) (a1 : Value) (K : Value → World → Prop) (w0 : World) : Prop :=
Ret P n_load_Sort [a1] w0 fun v1000 w1001 =>
Ret P n_tree_World_From [a0, v1000] w1001 fun v1002 w1003 =>
xTup v1002 0 fun v1004 =>
xTup v1002 1 fun v1005 =>
K (.tuple #[v1004, v1005]) w1003
theorem W_load_Fresh {a0 a1 : Value} {K : Value → World → Prop} {w : World} (h : S_load_Fresh a0 a1 K w) : Ret P n_load_Fresh [a0, a1] w K :=
  vcF_of mixed Tryz.func69 (show S_load_Fresh a0 a1 K w = vcF P Tryz.f69 [a0, a1] w K from by kernel_rfl) h
/- (*spunyarn/tree.Version).Shape -/
abbrev S_tree_Version_Shape (a0 : Value) (K : Value → World → Prop) (w0 : World) : Prop :=
Ret P n_tree_Version_Root [a0] w0 fun v1000 w1001 =>
Ret P n_canon_Shape [v1000] w1001 fun v1002 w1003 =>
K v1002 w1003
theorem W_tree_Version_Shape {a0 : Value} {K : Value → World → Prop} {w : World} (h : S_tree_Version_Shape a0 K w) : Ret P n_tree_Version_Shape [a0] w K :=
  vcF_of mixed Tryz.func70 (show S_tree_Version_Shape a0 K w = vcF P Tryz.f70 [a0] w K from by kernel_rfl) h
/- spunyarn/spunyarnlaw20.far -/
/- S_law20_far_l1: 0=slot 13 1=slot 4 -/
def S_law20_far_l1 (K : Value → World → Prop) (a0 : Value) (v1002 : Value) (I1003 : Nat → List Value → World → Prop) (n1004 : Nat) (vs1005 : List Value) (g1006 : Nat → Value) (w1007 : World) : Prop :=
xLt (vs1005.getD 0 undef) v1002 fun v1008 =>
xIf v1008 (xIxS a0 (vs1005.getD 0 undef) 2 fun v1009 =>
xAt v1009 fun a1010 =>
XLdN w1007 a1010 2 fun v1011 =>
XNew w1007 [(.slice none 0 0), (.int .u64 0)] 52 fun a1012 w1013 =>
XDo P (storeVar 52 a1012 v1011) w1013 fun w1014 =>
XLd w1014 (a1012.add 0) fun v1015 =>
xLen v1015 fun v1016 =>
xGt v1016 (.int .i64 300) fun v1017 =>
xIf v1017 (K (.bool true) w1014) (xAdd (vs1005.getD 0 undef) (.int .i64 1) fun v1018 =>
XNext I1003 n1004 [v1018, (vs1005.getD 1 undef)] w1014)) (K (.bool false) w1007)
abbrev S_law20_far (a0 : Value) (a1 : Value) (K : Value → World → Prop) (w0 : World) : Prop :=
xLen a0 fun v1000 =>
xGt v1000 a1 fun v1001 =>
xIf v1001 (K (.bool true) w0) (xLen a0 fun v1002 =>
XLoop [(.int .i64 0), (.bool false)] w0 (S_law20_far_l1 K a0 v1002))
theorem W_law20_far {a0 a1 : Value} {K : Value → World → Prop} {w : World} (h : S_law20_far a0 a1 K w) : Ret P n_law20_far [a0, a1] w K :=
  vcF_of mixed Tryz.func71 (show S_law20_far a0 a1 K w = vcF P Tryz.f71 [a0, a1] w K from by kernel_rfl) h
/- spunyarn/spunyarnlaw20.alive -/
abbrev S_law20_alive  (K : Value → World → Prop) (w0 : World) : Prop :=
Ret P n_tree_New [] w0 fun v1000 w1001 =>
Ret P n_tree_World_From [v1000, (.slice none 0 0)] w1001 fun v1002 w1003 =>
xTup v1002 0 fun v1004 =>
xTup v1002 1 fun v1005 =>
Ret P n_trans_Edit [v1004] w1003 fun v1006 w1007 =>
xTup v1006 0 fun v1008 =>
xTup v1006 1 fun v1009 =>
/- 0 -/ XJ (fun J1010 =>
xPEq P w1007 v1008 (.pointer none) fun v1014 =>
xIf v1014 (J1010 [(.bool true)] w1007) (xNe v1009 (.int .i64 0) fun v1015 =>
xIf v1015 (J1010 [(.bool true)] w1007) (xFill (repL [(.int .u8 0)] 1) [(0, 1, (.int .u8 1))] fun c1016 =>
XNew w1007 c1016 5 fun a1017 w1018 =>
Ret P n_trans_Trans_Put [v1008, (.slice (some a1017) 1 1), (.int .u64 5)] w1018 fun v1019 w1020 =>
xNe v1019 (.int .i64 0) fun v1021 =>
J1010 [v1021] w1020))) fun vs1011 g1012 w1013 =>
xIf (vs1011.getD 0 undef) (K (.bool false) w1013) (Ret P n_trans_Trans_Len [v1008] w1013 fun v1022 w1023 =>
xTup v1022 0 fun v1024 =>
xTup v1022 1 fun v1025 =>
Ret P n_trans_Trans_Freeze [v1008] w1023 fun v1026 w1027 =>
xTup v1026 0 fun v1028 =>
xTup v1026 1 fun v1029 =>
/- 0 -/ XJ (fun J1030 =>
xEq v1024 (.int .i64 1) fun v1034 =>
xIf v1034 (xEq v1025 (.int .i64 0) fun v1035 =>
xIf v1035 (Ret P n_tree_Version_Shape [v1028] w1027 fun v1036 w1037 =>
xSEq v1036 (.string ⟨#[76, 48, 49, 61, 53]⟩) fun v1038 =>
xIf v1038 (xEq v1029 (.int .i64 0) fun v1039 =>
xIf v1039 (xFill (repL [(.int .u8 0)] 1) [(0, 1, (.int .u8 1))] fun c1040 =>
XNew w1037 c1040 5 fun a1041 w1042 =>
Ret P n_trans_Trans_Put [v1008, (.slice (some a1041) 1 1), (.int .u64 5)] w1042 fun v1043 w1044 =>
xEq v1043 (.int .i64 11) fun v1045 =>
xIf v1045 (Ret P n_trans_Trans_Frozen [v1008] w1044 fun v1046 w1047 =>
xIf v1046 (Ret P n_tree_Version_Shape [v1004] w1047 fun v1048 w1049 =>
xSEq v1048 (.string ⟨#[46]⟩) fun v1050 =>
J1030 [v1050] w1049) (J1030 [(.bool false)] w1047)) (J1030 [(.bool false)] w1044)) (J1030 [(.bool false)] w1037)) (J1030 [(.bool false)] w1037)) (J1030 [(.bool false)] w1027)) (J1030 [(.bool false)] w1027)) fun vs1031 g1032 w1033 =>
K (vs1031.getD 0 undef) w1033)
theorem W_law20_alive {K : Value → World → Prop} {w : World} (h : S_law20_alive  K w) : Ret P n_law20_alive [] w K :=
  vcF_of mixed Tryz.func72 (show S_law20_alive  K w = vcF P Tryz.f72 [] w K from by kernel_rfl) h
/- spunyarn/spunyarnlaw20.pairs -/
/- S_law20_pairs_l1: 0=slot 8 1=slot 3 out -/
def S_law20_pairs_l1 (K : Value → World → Prop) (a0 : Value) (v1000 : Value) (I1001 : Nat → List Value → World → Prop) (n1002 : Nat) (vs1003 : List Value) (g1004 : Nat → Value) (w1005 : World) : Prop :=
xLt (vs1003.getD 0 undef) v1000 fun v1006 =>
xIf v1006 (xIxS a0 (vs1003.getD 0 undef) 2 fun v1007 =>
xAt v1007 fun a1008 =>
XLdN w1005 a1008 2 fun v1009 =>
XNew w1005 [(.slice none 0 0), (.int .u64 0)] 52 fun a1010 w1011 =>
XDo P (storeVar 52 a1010 v1009) w1011 fun w1012 =>
XLdN w1012 a1010 2 fun v1013 =>
xFill (repL [(.slice none 0 0), (.int .u64 0)] 1) [(0, 2, v1013)] fun c1014 =>
XNew w1012 c1014 102 fun a1015 w1016 =>
XRun P (Builtin.append_ #[93, 93] 93 #[(vs1003.getD 1 undef), (.slice (some a1015) 1 1)]) w1016 fun v1017 w1018 =>
xAdd (vs1003.getD 0 undef) (.int .i64 1) fun v1019 =>
XNext I1001 n1002 [v1019, v1017] w1018) (K (vs1003.getD 1 undef) w1005)
abbrev S_law20_pairs (a0 : Value) (K : Value → World → Prop) (w0 : World) : Prop :=
xLen a0 fun v1000 =>
XLoop [(.int .i64 0), (.slice none 0 0)] w0 (S_law20_pairs_l1 K a0 v1000)
theorem W_law20_pairs {a0 : Value} {K : Value → World → Prop} {w : World} (h : S_law20_pairs a0 K w) : Ret P n_law20_pairs [a0] w K :=
  vcF_of mixed Tryz.func73 (show S_law20_pairs a0 K w = vcF P Tryz.f73 [a0] w K from by kernel_rfl) h
/- spunyarn/trans.Edit -/
abbrev S_trans_Edit (a0 : Value) (K : Value → World → Prop) (w0 : World) : Prop :=
Ret P n_tree_Version_World [a0] w0 fun v1000 w1001 =>
xPEq P w1001 v1000 (.pointer none) fun v1002 =>
xIf v1002 (K (.tuple #[(.pointer none), (.int .i64 2)]) w1001) (Ret P n_tree_Version_World [a0] w1001 fun v1003 w1004 =>
Ret P n_tree_World_Owner [v1003] w1004 fun v1005 w1006 =>
xFill [(.pointer none), (.int .u64 0)] [(0, 1, a0), (1, 1, v1005)] fun c1007 =>
Ret P n_tree_Version_Root [a0] w1006 fun v1008 w1009 =>
Ret P n_tree_Version_Len [a0] w1009 fun v1010 w1011 =>
xFill [(.pointer none), (.int .u64 0), (.pointer none), (.int .i64 0), (.bool false)] [(0, 2, (.agg c1007.toArray)), (2, 1, v1008), (3, 1, v1010)] fun c1012 =>
XNew w1011 (cellsV (.agg c1012.toArray)) 149 fun a1013 w1014 =>
K (.tuple #[(.pointer (some a1013)), (.int .i64 0)]) w1014)
theorem W_trans_Edit {a0 : Value} {K : Value → World → Prop} {w : World} (h : S_trans_Edit a0 K w) : Ret P n_trans_Edit [a0] w K :=
  vcF_of mixed Tryz.func74 (show S_trans_Edit a0 K w = vcF P Tryz.f74 [a0] w K from by kernel_rfl) h
/- (*spunyarn/trans.Trans).Owner -/
abbrev S_trans_Trans_Owner (a0 : Value) (K : Value → World → Prop) (w0 : World) : Prop :=
xPEq P w0 a0 (.pointer none) fun v1000 =>
xIf v1000 (K (.int .u64 0) w0) (xAt a0 fun a1001 =>
XLdN w0 (a1001.add 0) 2 fun v1002 =>
Ret P n_trans_base_mine [v1002] w0 fun v1003 w1004 =>
K v1003 w1004)
theorem W_trans_Trans_Owner {a0 : Value} {K : Value → World → Prop} {w : World} (h : S_trans_Trans_Owner a0 K w) : Ret P n_trans_Trans_Owner [a0] w K :=
  vcF_of mixed Tryz.func75 (show S_trans_Trans_Owner a0 K w = vcF P Tryz.f75 [a0] w K from by kernel_rfl) h
/- (*spunyarn/trans.Trans).Put -/
abbrev S_trans_Trans_Put (a0 : Value) (a1 : Value) (a2 : Value) (K : Value → World → Prop) (w0 : World) : Prop :=
Ret P n_trans_Trans_may [a0] w0 fun v1000 w1001 =>
xNe v1000 (.int .i64 0) fun v1002 =>
xIf v1002 (K v1000 w1001) (xAt a0 fun a1003 =>
XLd w1001 (a1003.add 2) fun v1004 =>
Ret P n_find_Has [v1004, a1] w1001 fun v1005 w1006 =>
xAt a0 fun a1007 =>
XLd w1006.drew (a1007.add 2) fun v1008 =>
xAt a0 fun a1009 =>
XLdN w1006.drew (a1009.add 0) 2 fun v1010 =>
xAt a0 fun a1011 =>
XLdN w1006.drew (a1011.add 0) 2 fun v1012 =>
Ret P n_trans_base_mine [v1010] w1006.drew fun v1013 w1014 =>
xKeepN w1014 (.pointer (some (a1011.add 0))) v1012 ∧ (xKeep1 w1014 (.pointer (some (a1007.add 2))) v1008 ∧ (Ret P n_trans_base_world [v1012] w1014 fun v1015 w1016 =>
xKeep1 w1016 (.pointer (some (a1007.add 2))) v1008 ∧ (Ret P n_tree_World_Meter [v1015] w1016 fun v1017 w1018 =>
xKeep1 w1018 (.pointer (some (a1007.add 2))) v1008 ∧ (Ret P n_put_Put [v1008, a1, a2, v1013, v1017] w1018 fun v1019 w1020 =>
xTup v1019 0 fun v1021 =>
xTup v1019 1 fun v1022 =>
xNe v1022 (.int .i64 0) fun v1023 =>
xIf v1023 (K v1022 w1020) (xAt a0 fun a1024 =>
XSt w1020 (a1024.add 2) v1021 fun w1025 =>
/-  -/ XJ (fun J1026 =>
xNot v1005 fun v1030 =>
xIf v1030 (xAt a0 fun a1031 =>
XLd w1025 (a1031.add 3) fun v1032 =>
xAdd v1032 (.int .i64 1) fun v1033 =>
xAt a0 fun a1034 =>
XSt w1025 (a1034.add 3) v1033 fun w1035 =>
J1026 [] w1035) (J1026 [] w1025)) fun vs1027 g1028 w1029 =>
K (.int .i64 0) w1029))))))
theorem W_trans_Trans_Put {a0 a1 a2 : Value} {K : Value → World → Prop} {w : World} (h : S_trans_Trans_Put a0 a1 a2 K w) : Ret P n_trans_Trans_Put [a0, a1, a2] w K :=
  vcF_of mixed Tryz.func76 (show S_trans_Trans_Put a0 a1 a2 K w = vcF P Tryz.f76 [a0, a1, a2] w K from by kernel_rfl) h
/- (*spunyarn/trans.Trans).Del -/
abbrev S_trans_Trans_Del (a0 : Value) (a1 : Value) (K : Value → World → Prop) (w0 : World) : Prop :=
Ret P n_trans_Trans_may [a0] w0 fun v1000 w1001 =>
xNe v1000 (.int .i64 0) fun v1002 =>
xIf v1002 (K (.tuple #[(.bool false), v1000]) w1001) (xAt a0 fun a1003 =>
XLd w1001.drew (a1003.add 2) fun v1004 =>
xAt a0 fun a1005 =>
XLdN w1001.drew (a1005.add 0) 2 fun v1006 =>
xAt a0 fun a1007 =>
XLdN w1001.drew (a1007.add 0) 2 fun v1008 =>
Ret P n_trans_base_mine [v1006] w1001.drew fun v1009 w1010 =>
xKeepN w1010 (.pointer (some (a1007.add 0))) v1008 ∧ (xKeep1 w1010 (.pointer (some (a1003.add 2))) v1004 ∧ (Ret P n_trans_base_world [v1008] w1010 fun v1011 w1012 =>
xKeep1 w1012 (.pointer (some (a1003.add 2))) v1004 ∧ (Ret P n_tree_World_Meter [v1011] w1012 fun v1013 w1014 =>
xKeep1 w1014 (.pointer (some (a1003.add 2))) v1004 ∧ (Ret P n_del_Del [v1004, a1, v1009, v1013] w1014 fun v1015 w1016 =>
xTup v1015 0 fun v1017 =>
xTup v1015 1 fun v1018 =>
xTup v1015 2 fun v1019 =>
xNe v1019 (.int .i64 0) fun v1020 =>
xIf v1020 (K (.tuple #[(.bool false), v1019]) w1016) (xAt a0 fun a1021 =>
XSt w1016 (a1021.add 2) v1017 fun w1022 =>
/-  -/ XJ (fun J1023 =>
xIf v1018 (xAt a0 fun a1027 =>
XLd w1022 (a1027.add 3) fun v1028 =>
xSub v1028 (.int .i64 1) fun v1029 =>
xAt a0 fun a1030 =>
XSt w1022 (a1030.add 3) v1029 fun w1031 =>
J1023 [] w1031) (J1023 [] w1022)) fun vs1024 g1025 w1026 =>
K (.tuple #[v1018, (.int .i64 0)]) w1026))))))
theorem W_trans_Trans_Del {a0 a1 : Value} {K : Value → World → Prop} {w : World} (h : S_trans_Trans_Del a0 a1 K w) : Ret P n_trans_Trans_Del [a0, a1] w K :=
  vcF_of mixed Tryz.func77 (show S_trans_Trans_Del a0 a1 K w = vcF P Tryz.f77 [a0, a1] w K from by kernel_rfl) h
/- (*spunyarn/trans.Trans).Freeze -/
abbrev S_trans_Trans_Freeze (a0 : Value) (K : Value → World → Prop) (w0 : World) : Prop :=
Ret P n_trans_Trans_may [a0] w0 fun v1000 w1001 =>
xNe v1000 (.int .i64 0) fun v1002 =>
xIf v1002 (K (.tuple #[(.pointer none), v1000]) w1001) (xAt a0 fun a1003 =>
XSt w1001 (a1003.add 4) (.bool true) fun w1004 =>
xAt a0 fun a1005 =>
XLd w1004.drew (a1005.add 2) fun v1006 =>
xAt a0 fun a1007 =>
XLd w1004.drew ((a1007.add 0).add 0) fun v1008 =>
Ret P n_tree_Version_Root [v1008] w1004.drew fun v1009 w1010 =>
xKeep1 w1010 (.pointer (some (a1005.add 2))) v1006 ∧ (xPEq P w1010 v1006 v1009 fun v1011 =>
xIf v1011 (xAt a0 fun a1012 =>
XLd w1010 ((a1012.add 0).add 0) fun v1013 =>
K (.tuple #[v1013, (.int .i64 0)]) w1010) (xAt a0 fun a1014 =>
XLdN w1010.drew (a1014.add 0) 2 fun v1015 =>
xAt a0 fun a1016 =>
XLd w1010.drew (a1016.add 2) fun v1017 =>
Ret P n_trans_base_world [v1015] w1010.drew fun v1018 w1019 =>
xKeep1 w1019 (.pointer (some (a1016.add 2))) v1017 ∧ (Ret P n_tree_World_Version [v1018, v1017] w1019 fun v1020 w1021 =>
K (.tuple #[v1020, (.int .i64 0)]) w1021))))
theorem W_trans_Trans_Freeze {a0 : Value} {K : Value → World → Prop} {w : World} (h : S_trans_Trans_Freeze a0 K w) : Ret P n_trans_Trans_Freeze [a0] w K :=
  vcF_of mixed Tryz.func78 (show S_trans_Trans_Freeze a0 K w = vcF P Tryz.f78 [a0] w K from by kernel_rfl) h
/- spunyarn/spunyarnlaw21.pairs -/
/- S_law21_pairs_l1: 0=slot 8 1=slot 3 out -/
def S_law21_pairs_l1 (K : Value → World → Prop) (a0 : Value) (v1000 : Value) (I1001 : Nat → List Value → World → Prop) (n1002 : Nat) (vs1003 : List Value) (g1004 : Nat → Value) (w1005 : World) : Prop :=
xLt (vs1003.getD 0 undef) v1000 fun v1006 =>
xIf v1006 (xIxS a0 (vs1003.getD 0 undef) 2 fun v1007 =>
xAt v1007 fun a1008 =>
XLdN w1005 a1008 2 fun v1009 =>
XNew w1005 [(.slice none 0 0), (.int .u64 0)] 52 fun a1010 w1011 =>
XDo P (storeVar 52 a1010 v1009) w1011 fun w1012 =>
XLdN w1012 a1010 2 fun v1013 =>
xFill (repL [(.slice none 0 0), (.int .u64 0)] 1) [(0, 2, v1013)] fun c1014 =>
XNew w1012 c1014 102 fun a1015 w1016 =>
XRun P (Builtin.append_ #[93, 93] 93 #[(vs1003.getD 1 undef), (.slice (some a1015) 1 1)]) w1016 fun v1017 w1018 =>
xAdd (vs1003.getD 0 undef) (.int .i64 1) fun v1019 =>
XNext I1001 n1002 [v1019, v1017] w1018) (K (vs1003.getD 1 undef) w1005)
abbrev S_law21_pairs (a0 : Value) (K : Value → World → Prop) (w0 : World) : Prop :=
xLen a0 fun v1000 =>
XLoop [(.int .i64 0), (.slice none 0 0)] w0 (S_law21_pairs_l1 K a0 v1000)
theorem W_law21_pairs {a0 : Value} {K : Value → World → Prop} {w : World} (h : S_law21_pairs a0 K w) : Ret P n_law21_pairs [a0] w K :=
  vcF_of mixed Tryz.func79 (show S_law21_pairs a0 K w = vcF P Tryz.f79 [a0] w K from by kernel_rfl) h
/- spunyarn/spunyarnref21.Sort -/
abbrev S_ref21_Sort (a0 : Value) (K : Value → World → Prop) (w0 : World) : Prop :=
Ret P n_ref13_Sort [a0] w0 fun v1000 w1001 =>
K v1000 w1001
theorem W_ref21_Sort {a0 : Value} {K : Value → World → Prop} {w : World} (h : S_ref21_Sort a0 K w) : Ret P n_ref21_Sort [a0] w K :=
  vcF_of mixed Tryz.func80 (show S_ref21_Sort a0 K w = vcF P Tryz.f80 [a0] w K from by kernel_rfl) h
/- spunyarn/spunyarnlaw21.same -/
/- S_law21_same_l1: 0=slot 10 1=slot 5 l -/
def S_law21_same_l1 (K : Value → World → Prop) (a0 : Value) (a1 : Value) (v1000 : Value) (I1001 : Nat → List Value → World → Prop) (n1002 : Nat) (vs1003 : List Value) (g1004 : Nat → Value) (w1005 : World) : Prop :=
xLt (vs1003.getD 0 undef) v1000 fun v1006 =>
xIf v1006 (xIxS a0 (vs1003.getD 0 undef) 2 fun v1007 =>
xAt v1007 fun a1008 =>
XLdN w1005 a1008 2 fun v1009 =>
XNew w1005 [(.slice none 0 0), (.int .u64 0)] 102 fun a1010 w1011 =>
XDo P (storeVar 102 a1010 v1009) w1011 fun w1012 =>
XLdN w1012 a1010 2 fun v1013 =>
xFill (repL [(.slice none 0 0), (.int .u64 0)] 1) [(0, 2, v1013)] fun c1014 =>
XNew w1012 c1014 52 fun a1015 w1016 =>
XRun P (Builtin.append_ #[33, 33] 33 #[(vs1003.getD 1 undef), (.slice (some a1015) 1 1)]) w1016 fun v1017 w1018 =>
xAdd (vs1003.getD 0 undef) (.int .i64 1) fun v1019 =>
XNext I1001 n1002 [v1019, v1017] w1018) (Ret P n_ref19_Same [(vs1003.getD 1 undef), a1] w1005 fun v1020 w1021 =>
K v1020 w1021)
abbrev S_law21_same (a0 : Value) (a1 : Value) (K : Value → World → Prop) (w0 : World) : Prop :=
xLen a0 fun v1000 =>
XLoop [(.int .i64 0), (.slice none 0 0)] w0 (S_law21_same_l1 K a0 a1 v1000)
theorem W_law21_same {a0 a1 : Value} {K : Value → World → Prop} {w : World} (h : S_law21_same a0 a1 K w) : Ret P n_law21_same [a0, a1] w K :=
  vcF_of mixed Tryz.func81 (show S_law21_same a0 a1 K w = vcF P Tryz.f81 [a0, a1] w K from by kernel_rfl) h
/- spunyarn/load.Sort -/
/- S_load_Sort_l1: 0=slot 13 1=slot 5 i 2=slot 4 out -/
def S_load_Sort_l1 (K : Value → World → Prop) (v1000 : Value) (v1004 : Value) (I1005 : Nat → List Value → World → Prop) (n1006 : Nat) (vs1007 : List Value) (g1008 : Nat → Value) (w1009 : World) : Prop :=
xLt (vs1007.getD 0 undef) v1004 fun v1010 =>
xIf v1010 (/- 0 i 1 out -/ XJ (fun J1011 =>
xIxS v1000 (vs1007.getD 0 undef) 2 fun v1015 =>
xAt v1015 fun a1016 =>
XLdN w1009 a1016 2 fun v1017 =>
XNew w1009 [(.slice none 0 0), (.int .u64 0)] 102 fun a1018 w1019 =>
XDo P (storeVar 102 a1018 v1017) w1019 fun w1020 =>
/- 0 -/ XJ (fun J1021 =>
xAdd (vs1007.getD 0 undef) (.int .i64 1) fun v1025 =>
xLen v1000 fun v1026 =>
xLt v1025 v1026 fun v1027 =>
xIf v1027 (XLd w1020.drew (a1018.add 0) fun v1028 =>
xAdd (vs1007.getD 0 undef) (.int .i64 1) fun v1029 =>
xIxS v1000 v1029 2 fun v1030 =>
xFld v1030 0 fun v1031 =>
xAt v1031 fun a1032 =>
XLd w1020.drew a1032 fun v1033 =>
Ret P n_keys_Same [v1028, v1033] w1020.drew fun v1034 w1035 =>
J1021 [v1034] w1035) (J1021 [(.bool false)] (w1020.drew))) fun vs1022 g1023 w1024 =>
xIf (vs1022.getD 0 undef) (J1011 [(vs1007.getD 0 undef), (vs1007.getD 2 undef)] w1024) (XLd w1024.drew (a1018.add 0) fun v1036 =>
XLd w1024.drew (a1018.add 1) fun v1037 =>
Ret P n_bytes_Clone [v1036] w1024.drew fun v1038 w1039 =>
xKeep1 w1039 (.pointer (some (a1018.add 1))) v1037 ∧ (xFill [(.slice none 0 0), (.int .u64 0)] [(0, 1, v1038), (1, 1, v1037)] fun c1040 =>
xFill (repL [(.slice none 0 0), (.int .u64 0)] 1) [(0, 2, (.agg c1040.toArray))] fun c1041 =>
XNew w1039 c1041 102 fun a1042 w1043 =>
XRun P (Builtin.append_ #[93, 93] 93 #[(vs1007.getD 2 undef), (.slice (some a1042) 1 1)]) w1043 fun v1044 w1045 =>
J1011 [(vs1007.getD 0 undef), v1044] w1045))) fun vs1012 g1013 w1014 =>
xAdd (vs1007.getD 0 undef) (.int .i64 1) fun v1046 =>
XNext I1005 n1006 [v1046, (vs1012.getD 0 undef), (vs1012.getD 1 undef)] w1014) (K (vs1007.getD 2 undef) w1009)
abbrev S_load_Sort (a0 : Value) (K : Value → World → Prop) (w0 : World) : Prop :=
Ret P n_slices_Clone_Pair [a0] w0 fun v1000 w1001 =>
Ret P n_slices_SortStableFunc_Pair [v1000, (.func (.func 151) #[] #[])] w1001 fun v1002 w1003 =>
xLen v1000 fun v1004 =>
XLoop [(.int .i64 0), undef, (.slice none 0 0)] w1003 (S_load_Sort_l1 K v1000 v1004)
theorem W_load_Sort {a0 : Value} {K : Value → World → Prop} {w : World} (h : S_load_Sort a0 K w) : Ret P n_load_Sort [a0] w K :=
  vcF_of mixed Tryz.func82 (show S_load_Sort a0 K w = vcF P Tryz.f82 [a0] w K from by kernel_rfl) h
/- (*spunyarn/tree.Version).List -/
abbrev S_tree_Version_List (a0 : Value) (K : Value → World → Prop) (w0 : World) : Prop :=
Ret P n_tree_Version_Root [a0] w0 fun v1000 w1001 =>
Ret P n_canon_List [v1000] w1001 fun v1002 w1003 =>
K v1002 w1003
theorem W_tree_Version_List {a0 : Value} {K : Value → World → Prop} {w : World} (h : S_tree_Version_List a0 K w) : Ret P n_tree_Version_List [a0] w K :=
  vcF_of mixed Tryz.func83 (show S_tree_Version_List a0 K w = vcF P Tryz.f83 [a0] w K from by kernel_rfl) h
/- spunyarn/spunyarnref13.Shape -/
/- S_ref13_Shape_l1: 0=slot 4 i 1=slot 3 s -/
def S_ref13_Shape_l1 (K : Value → World → Prop) (a1000 : Addr) (I1034 : Nat → List Value → World → Prop) (n1035 : Nat) (vs1036 : List Value) (g1037 : Nat → Value) (w1038 : World) : Prop :=
XLd w1038 (a1000.add 5) fun v1039 =>
xLen v1039 fun v1040 =>
xLt (vs1036.getD 0 undef) v1040 fun v1041 =>
xIf v1041 (XLd w1038.drew (a1000.add 4) fun v1042 =>
xIxS v1042 (vs1036.getD 0 undef) 1 fun v1043 =>
xAt v1043 fun a1044 =>
XLd w1038.drew a1044 fun v1045 =>
XLd w1038.drew (a1000.add 5) fun v1046 =>
xIxS v1046 (vs1036.getD 0 undef) 6 fun v1047 =>
xAt v1047 fun a1048 =>
XLdN w1038.drew a1048 6 fun v1049 =>
xFill (repL [(.int .u8 0)] 1) [(0, 1, v1045)] fun c1050 =>
XNew w1038.drew c1050 5 fun a1051 w1052 =>
xKeepN w1052 v1047 v1049 ∧ (xKeep1 w1052 (.pointer (some (a1000.add 5))) v1046 ∧ (Ret P n_ref01_Text [(.slice (some a1051) 1 1)] w1052 fun v1053 w1054 =>
xKeepN w1054 v1047 v1049 ∧ (xKeep1 w1054 (.pointer (some (a1000.add 5))) v1046 ∧ (xSCat (.string ⟨#[58]⟩) v1053 fun v1055 =>
Ret P n_ref13_Shape [v1049] w1054 fun v1056 w1057 =>
xSCat v1055 v1056 fun v1058 =>
xSCat (vs1036.getD 1 undef) v1058 fun v1059 =>
xAdd (vs1036.getD 0 undef) (.int .i64 1) fun v1060 =>
XNext I1034 n1035 [v1060, v1059] w1057))))) (xSCat (vs1036.getD 1 undef) (.string ⟨#[62]⟩) fun v1061 =>
K v1061 w1038)
abbrev S_ref13_Shape (a0 : Value) (K : Value → World → Prop) (w0 : World) : Prop :=
XNew w0 (cellsV a0) 120 fun a1000 w1001 =>
XLd w1001 (a1000.add 0) fun v1002 =>
xEq v1002 (.int .i64 0) fun v1003 =>
xIf v1003 (K (.string ⟨#[46]⟩) w1001) (XLd w1001 (a1000.add 0) fun v1004 =>
xEq v1004 (.int .i64 1) fun v1005 =>
xIf v1005 (XLd w1001.drew (a1000.add 1) fun v1006 =>
XLd w1001.drew (a1000.add 3) fun v1007 =>
Ret P n_ref01_Text [v1006] w1001.drew fun v1008 w1009 =>
xKeep1 w1009 (.pointer (some (a1000.add 3))) v1007 ∧ (xSCat (.string ⟨#[76]⟩) v1008 fun v1010 =>
xSCat v1010 (.string ⟨#[61]⟩) fun v1011 =>
Ret P n_ref13_Digits [v1007] w1009 fun v1012 w1013 =>
xSCat v1011 v1012 fun v1014 =>
K v1014 w1013)) (XLd w1001.drew (a1000.add 0) fun v1015 =>
xConv .u64 v1015 fun v1016 =>
XLd w1001.drew (a1000.add 1) fun v1017 =>
Ret P n_ref13_Digits [v1016] w1001.drew fun v1018 w1019 =>
xKeep1 w1019 (.pointer (some (a1000.add 1))) v1017 ∧ (xSCat v1018 (.string ⟨#[60]⟩) fun v1020 =>
Ret P n_ref01_Text [v1017] w1019 fun v1021 w1022 =>
xSCat v1020 v1021 fun v1023 =>
/- 0 s -/ XJ (fun J1024 =>
XLd w1022 (a1000.add 2) fun v1028 =>
xIf v1028 (XLd w1022 (a1000.add 3) fun v1029 =>
Ret P n_ref13_Digits [v1029] w1022 fun v1030 w1031 =>
xSCat (.string ⟨#[61]⟩) v1030 fun v1032 =>
xSCat v1023 v1032 fun v1033 =>
J1024 [v1033] w1031) (J1024 [v1023] w1022)) fun vs1025 g1026 w1027 =>
XLoop [(.int .i64 0), (vs1025.getD 0 undef)] w1027 (S_ref13_Shape_l1 K a1000))))
theorem W_ref13_Shape {a0 : Value} {K : Value → World → Prop} {w : World} (h : S_ref13_Shape a0 K w) : Ret P n_ref13_Shape [a0] w K :=
  vcF_of mixed Tryz.func84 (show S_ref13_Shape a0 K w = vcF P Tryz.f84 [a0] w K from by kernel_rfl) h
/- spunyarn/spunyarnref13.Build -/
abbrev S_ref13_Build (a0 : Value) (K : Value → World → Prop) (w0 : World) : Prop :=
XNew w0 [(.int .i64 0), (.slice none 0 0), (.bool false), (.int .u64 0), (.slice none 0 0), (.slice none 0 0)] 120 fun a1000 w1001 =>
Ret P n_ref13_build [a0, (.int .i64 0)] w1001 fun v1002 w1003 =>
XDo P (storeVar 120 a1000 v1002) w1003 fun w1004 =>
XLdN w1004 a1000 6 fun v1005 =>
K v1005 w1004
theorem W_ref13_Build {a0 : Value} {K : Value → World → Prop} {w : World} (h : S_ref13_Build a0 K w) : Ret P n_ref13_Build [a0] w K :=
  vcF_of mixed Tryz.func85 (show S_ref13_Build a0 K w = vcF P Tryz.f85 [a0] w K from by kernel_rfl) h
/- (*spunyarn/tree.World).Made -/
abbrev S_tree_World_Made (a0 : Value) (K : Value → World → Prop) (w0 : World) : Prop :=
Ret P n_tree_World_Meter [a0] w0 fun v1000 w1001 =>
Ret P n_meter_Meter_Count [v1000] w1001 fun v1002 w1003 =>
K v1002 w1003
theorem W_tree_World_Made {a0 : Value} {K : Value → World → Prop} {w : World} (h : S_tree_World_Made a0 K w) : Ret P n_tree_World_Made [a0] w K :=
  vcF_of mixed Tryz.func86 (show S_tree_World_Made a0 K w = vcF P Tryz.f86 [a0] w K from by kernel_rfl) h
/- (*spunyarn/tree.Version).Del -/
abbrev S_tree_Version_Del (a0 : Value) (a1 : Value) (K : Value → World → Prop) (w0 : World) : Prop :=
Ret P n_tree_Version_ok [a0] w0 fun v1000 w1001 =>
xNot v1000 fun v1002 =>
xIf v1002 (K (.tuple #[(.pointer none), (.bool false), (.int .i64 2)]) w1001) (xAt a0 fun a1003 =>
XLd w1001.drew (a1003.add 1) fun v1004 =>
xAt a0 fun a1005 =>
XLd w1001.drew (a1005.add 0) fun v1006 =>
xAt a0 fun a1007 =>
XLd w1001.drew (a1007.add 0) fun v1008 =>
Ret P n_tree_World_Owner [v1006] w1001.drew fun v1009 w1010 =>
xKeep1 w1010 (.pointer (some (a1007.add 0))) v1008 ∧ (xKeep1 w1010 (.pointer (some (a1003.add 1))) v1004 ∧ (Ret P n_tree_World_Meter [v1008] w1010 fun v1011 w1012 =>
xKeep1 w1012 (.pointer (some (a1003.add 1))) v1004 ∧ (Ret P n_del_Del [v1004, a1, v1009, v1011] w1012 fun v1013 w1014 =>
xTup v1013 0 fun v1015 =>
xTup v1013 1 fun v1016 =>
xTup v1013 2 fun v1017 =>
Ret P n_tree_Version_now [a0, v1015, v1017] w1014 fun v1018 w1019 =>
xTup v1018 0 fun v1020 =>
xTup v1018 1 fun v1021 =>
K (.tuple #[v1020, v1016, v1021]) w1019))))
theorem W_tree_Version_Del {a0 a1 : Value} {K : Value → World → Prop} {w : World} (h : S_tree_Version_Del a0 a1 K w) : Ret P n_tree_Version_Del [a0, a1] w K :=
  vcF_of mixed Tryz.func87 (show S_tree_Version_Del a0 a1 K w = vcF P Tryz.f87 [a0, a1] w K from by kernel_rfl) h
/- (*spunyarn/tree.Version).Sub -/
abbrev S_tree_Version_Sub (a0 : Value) (a1 : Value) (K : Value → World → Prop) (w0 : World) : Prop :=
Ret P n_tree_Version_ok [a0] w0 fun v1000 w1001 =>
xNot v1000 fun v1002 =>
xIf v1002 (K (.tuple #[(.pointer none), (.int .i64 2)]) w1001) (xAt a0 fun a1003 =>
XLd w1001.drew (a1003.add 1) fun v1004 =>
xAt a0 fun a1005 =>
XLd w1001.drew (a1005.add 0) fun v1006 =>
xAt a0 fun a1007 =>
XLd w1001.drew (a1007.add 0) fun v1008 =>
Ret P n_tree_World_Owner [v1006] w1001.drew fun v1009 w1010 =>
xKeep1 w1010 (.pointer (some (a1007.add 0))) v1008 ∧ (xKeep1 w1010 (.pointer (some (a1003.add 1))) v1004 ∧ (Ret P n_tree_World_Meter [v1008] w1010 fun v1011 w1012 =>
xKeep1 w1012 (.pointer (some (a1003.add 1))) v1004 ∧ (Ret P n_sub_Sub [v1004, a1, v1009, v1011] w1012 fun v1013 w1014 =>
xTup v1013 0 fun v1015 =>
xTup v1013 1 fun v1016 =>
Ret P n_tree_Version_now [a0, v1015, v1016] w1014 fun v1017 w1018 =>
xTup v1017 0 fun v1019 =>
xTup v1017 1 fun v1020 =>
K (.tuple #[v1019, v1020]) w1018))))
theorem W_tree_Version_Sub {a0 a1 : Value} {K : Value → World → Prop} {w : World} (h : S_tree_Version_Sub a0 a1 K w) : Ret P n_tree_Version_Sub [a0, a1] w K :=
  vcF_of mixed Tryz.func88 (show S_tree_Version_Sub a0 a1 K w = vcF P Tryz.f88 [a0, a1] w K from by kernel_rfl) h
/- spunyarn/spunyarnref13.Made -/
/- S_ref13_Made_l1: 0=slot 4 i 1=slot 3 many -/
def S_ref13_Made_l1 (K : Value → World → Prop) (a1000 : Addr) (I1004 : Nat → List Value → World → Prop) (n1005 : Nat) (vs1006 : List Value) (g1007 : Nat → Value) (w1008 : World) : Prop :=
XLd w1008 (a1000.add 5) fun v1009 =>
xLen v1009 fun v1010 =>
xLt (vs1006.getD 0 undef) v1010 fun v1011 =>
xIf v1011 (XLd w1008 (a1000.add 5) fun v1012 =>
xIxS v1012 (vs1006.getD 0 undef) 6 fun v1013 =>
xAt v1013 fun a1014 =>
XLdN w1008 a1014 6 fun v1015 =>
Ret P n_ref13_Made [v1015] w1008 fun v1016 w1017 =>
xAdd (vs1006.getD 1 undef) v1016 fun v1018 =>
xAdd (vs1006.getD 0 undef) (.int .i64 1) fun v1019 =>
XNext I1004 n1005 [v1019, v1018] w1017) (K (vs1006.getD 1 undef) w1008)
abbrev S_ref13_Made (a0 : Value) (K : Value → World → Prop) (w0 : World) : Prop :=
XNew w0 (cellsV a0) 120 fun a1000 w1001 =>
XLd w1001 (a1000.add 0) fun v1002 =>
xEq v1002 (.int .i64 0) fun v1003 =>
xIf v1003 (K (.int .i64 0) w1001) (XLoop [(.int .i64 0), (.int .i64 1)] w1001 (S_ref13_Made_l1 K a1000))
theorem W_ref13_Made {a0 : Value} {K : Value → World → Prop} {w : World} (h : S_ref13_Made a0 K w) : Ret P n_ref13_Made [a0] w K :=
  vcF_of mixed Tryz.func89 (show S_ref13_Made a0 K w = vcF P Tryz.f89 [a0] w K from by kernel_rfl) h
/- spunyarn/load.Merge -/
abbrev S_load_Merge (a0 : Value) (a1 : Value) (K : Value → World → Prop) (w0 : World) : Prop :=
Ret P n_trans_Edit [a0] w0 fun v1000 w1001 =>
xTup v1000 0 fun v1002 =>
xTup v1000 1 fun v1003 =>
xNe v1003 (.int .i64 0) fun v1004 =>
xIf v1004 (K (.tuple #[(.pointer none), v1003]) w1001) (Ret P n_load_Load [v1002, a1] w1001 fun v1005 w1006 =>
xNe v1005 (.int .i64 0) fun v1007 =>
xIf v1007 (K (.tuple #[(.pointer none), v1005]) w1006) (Ret P n_trans_Trans_Freeze [v1002] w1006 fun v1008 w1009 =>
xTup v1008 0 fun v1010 =>
xTup v1008 1 fun v1011 =>
K (.tuple #[v1010, v1011]) w1009))
theorem W_load_Merge {a0 a1 : Value} {K : Value → World → Prop} {w : World} (h : S_load_Merge a0 a1 K w) : Ret P n_load_Merge [a0, a1] w K :=
  vcF_of mixed Tryz.func90 (show S_load_Merge a0 a1 K w = vcF P Tryz.f90 [a0, a1] w K from by kernel_rfl) h
/- (*spunyarn/trans.Trans).Get -/
abbrev S_trans_Trans_Get (a0 : Value) (a1 : Value) (K : Value → World → Prop) (w0 : World) : Prop :=
Ret P n_trans_Trans_may [a0] w0 fun v1000 w1001 =>
xNe v1000 (.int .i64 0) fun v1002 =>
xIf v1002 (K (.tuple #[(.int .u64 0), (.bool false), v1000]) w1001) (xAt a0 fun a1003 =>
XLd w1001 (a1003.add 2) fun v1004 =>
Ret P n_find_Get [v1004, a1] w1001 fun v1005 w1006 =>
xTup v1005 0 fun v1007 =>
xTup v1005 1 fun v1008 =>
K (.tuple #[v1007, v1008, (.int .i64 0)]) w1006)
theorem W_trans_Trans_Get {a0 a1 : Value} {K : Value → World → Prop} {w : World} (h : S_trans_Trans_Get a0 a1 K w) : Ret P n_trans_Trans_Get [a0, a1] w K :=
  vcF_of mixed Tryz.func91 (show S_trans_Trans_Get a0 a1 K w = vcF P Tryz.f91 [a0, a1] w K from by kernel_rfl) h
/- (*spunyarn/trans.Trans).Len -/
abbrev S_trans_Trans_Len (a0 : Value) (K : Value → World → Prop) (w0 : World) : Prop :=
Ret P n_trans_Trans_may [a0] w0 fun v1000 w1001 =>
xNe v1000 (.int .i64 0) fun v1002 =>
xIf v1002 (K (.tuple #[(.int .i64 0), v1000]) w1001) (xAt a0 fun a1003 =>
XLd w1001 (a1003.add 3) fun v1004 =>
K (.tuple #[v1004, (.int .i64 0)]) w1001)
theorem W_trans_Trans_Len {a0 : Value} {K : Value → World → Prop} {w : World} (h : S_trans_Trans_Len a0 K w) : Ret P n_trans_Trans_Len [a0] w K :=
  vcF_of mixed Tryz.func92 (show S_trans_Trans_Len a0 K w = vcF P Tryz.f92 [a0] w K from by kernel_rfl) h
/- (*spunyarn/trans.Trans).List -/
abbrev S_trans_Trans_List (a0 : Value) (K : Value → World → Prop) (w0 : World) : Prop :=
Ret P n_trans_Trans_may [a0] w0 fun v1000 w1001 =>
xNe v1000 (.int .i64 0) fun v1002 =>
xIf v1002 (K (.tuple #[(.slice none 0 0), v1000]) w1001) (xAt a0 fun a1003 =>
XLd w1001 (a1003.add 2) fun v1004 =>
Ret P n_canon_List [v1004] w1001 fun v1005 w1006 =>
K (.tuple #[v1005, (.int .i64 0)]) w1006)
theorem W_trans_Trans_List {a0 : Value} {K : Value → World → Prop} {w : World} (h : S_trans_Trans_List a0 K w) : Ret P n_trans_Trans_List [a0] w K :=
  vcF_of mixed Tryz.func93 (show S_trans_Trans_List a0 K w = vcF P Tryz.f93 [a0] w K from by kernel_rfl) h
end Go.Proofs.YtbleadagnpckbaaGreatDoor
