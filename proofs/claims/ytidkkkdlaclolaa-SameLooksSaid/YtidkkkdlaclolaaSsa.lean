/-  Written by gen.py for this claim: of each function a form without frames, the same as the engine's condition by reckoning.  -/
import Derived.Test.YtidkkkdlaclolaaSN
import Derived.Test.YtidkkkdlaclolaaProg
namespace Go.Proofs.Ytidkkkdlaclolaa
open Go X
set_option linter.unusedVariables false
set_option maxRecDepth 100000
/- spunyarn/spunyarnref28.Look -/
/- S_ref28_Look_l1: 0=slot 7 i 1=slot 6 many 2=slot 4 3=slot 5 4=slot 8 all 5=slot 9 n -/
def S_ref28_Look_l1 (K : Value → World → Prop) (a1000 : Addr) (a1002 : Addr) (I1038 : Nat → List Value → World → Prop) (n1039 : Nat) (vs1040 : List Value) (g1041 : Nat → Value) (w1042 : World) : Prop :=
XLd w1042 (a1000.add 5) fun v1043 =>
xLen v1043 fun v1044 =>
xLt (vs1040.getD 0 undef) v1044 fun v1045 =>
xIf v1045 (XLd w1042.drew (a1000.add 4) fun v1046 =>
xIxS v1046 (vs1040.getD 0 undef) 1 fun v1047 =>
xAt v1047 fun a1048 =>
XLd w1042.drew a1048 fun v1049 =>
XLd w1042.drew (a1002.add 4) fun v1050 =>
xIxS v1050 (vs1040.getD 0 undef) 1 fun v1051 =>
xAt v1051 fun a1052 =>
XLd w1042.drew a1052 fun v1053 =>
xNe v1049 v1053 fun v1054 =>
xIf v1054 (K (.tuple #[(.bool false), (vs1040.getD 1 undef)]) (w1042.drew)) (XLd w1042.drew.drew (a1000.add 5) fun v1055 =>
xIxS v1055 (vs1040.getD 0 undef) 6 fun v1056 =>
xAt v1056 fun a1057 =>
XLdN w1042.drew.drew a1057 6 fun v1058 =>
XLd w1042.drew.drew (a1002.add 5) fun v1059 =>
xIxS v1059 (vs1040.getD 0 undef) 6 fun v1060 =>
xAt v1060 fun a1061 =>
XLdN w1042.drew.drew a1061 6 fun v1062 =>
Ret P n_ref28_Look [v1058, v1062] w1042.drew.drew fun v1063 w1064 =>
xTup v1063 0 fun v1065 =>
xTup v1063 1 fun v1066 =>
xAdd (vs1040.getD 1 undef) v1066 fun v1067 =>
xNot v1065 fun v1068 =>
xIf v1068 (K (.tuple #[(.bool false), v1067]) w1064) (xAdd (vs1040.getD 0 undef) (.int .i64 1) fun v1069 =>
XNext I1038 n1039 [v1069, v1067, (vs1040.getD 2 undef), (vs1040.getD 3 undef), v1065, v1066] w1064))) (K (.tuple #[(.bool true), (vs1040.getD 1 undef)]) w1042)
abbrev S_ref28_Look (a0 : Value) (a1 : Value) (K : Value → World → Prop) (w0 : World) : Prop :=
XNew w0 (cellsV a0) 47 fun a1000 w1001 =>
XNew w1001 (cellsV a1) 47 fun a1002 w1003 =>
/- 0 -/ XJ (fun J1004 =>
XLd w1003 (a1000.add 0) fun v1008 =>
xEq v1008 (.int .i64 0) fun v1009 =>
xIf v1009 (J1004 [(.bool true)] w1003) (XLd w1003 (a1002.add 0) fun v1010 =>
xEq v1010 (.int .i64 0) fun v1011 =>
J1004 [v1011] w1003)) fun vs1005 g1006 w1007 =>
xIf (vs1005.getD 0 undef) (XLd w1007 (a1000.add 0) fun v1012 =>
XLd w1007 (a1002.add 0) fun v1013 =>
xEq v1012 v1013 fun v1014 =>
K (.tuple #[v1014, (.int .i64 0)]) w1007) (/- 0 -/ XJ (fun J1015 =>
XLd w1007 (a1000.add 0) fun v1019 =>
XLd w1007 (a1002.add 0) fun v1020 =>
xNe v1019 v1020 fun v1021 =>
xIf v1021 (J1015 [(.bool true)] w1007) (XLd w1007 (a1000.add 5) fun v1022 =>
xLen v1022 fun v1023 =>
XLd w1007 (a1002.add 5) fun v1024 =>
xLen v1024 fun v1025 =>
xNe v1023 v1025 fun v1026 =>
xIf v1026 (J1015 [(.bool true)] w1007) (XLd w1007 (a1000.add 1) fun v1027 =>
XLd w1007 (a1002.add 1) fun v1028 =>
Ret P n_ref01_Same [v1027, v1028] w1007 fun v1029 w1030 =>
xNot v1029 fun v1031 =>
xIf v1031 (J1015 [(.bool true)] w1030) (XLd w1030 (a1000.add 2) fun v1032 =>
XLd w1030 (a1002.add 2) fun v1033 =>
xBNe v1032 v1033 fun v1034 =>
xIf v1034 (J1015 [(.bool true)] w1030) (XLd w1030 (a1000.add 3) fun v1035 =>
XLd w1030 (a1002.add 3) fun v1036 =>
xNe v1035 v1036 fun v1037 =>
J1015 [v1037] w1030))))) fun vs1016 g1017 w1018 =>
xIf (vs1016.getD 0 undef) (K (.tuple #[(.bool false), (.int .i64 1)]) w1018) (XLoop [(.int .i64 0), (.int .i64 1), (.bool false), (.int .i64 0), undef, undef] w1018 (S_ref28_Look_l1 K a1000 a1002)))
theorem W_ref28_Look {a0 a1 : Value} {K : Value → World → Prop} {w : World} (h : S_ref28_Look a0 a1 K w) : Ret P n_ref28_Look [a0, a1] w K :=
  vcF_of mixed Try.func10 (show S_ref28_Look a0 a1 K w = vcF P Try.f10 [a0, a1] w K from by kernel_rfl) h
/- spunyarn/same.Looks -/
abbrev S_same_Looks (a0 : Value) (a1 : Value) (K : Value → World → Prop) (w0 : World) : Prop :=
xFill [(.int .i64 0)] [] fun c1000 =>
XNew w0 (cellsV (.agg c1000.toArray)) 70 fun a1001 w1002 =>
Ret P n_same_looker_same [(.pointer (some a1001)), a0, a1] w1002 fun v1003 w1004 =>
XLd w1004 (a1001.add 0) fun v1005 =>
K v1005 w1004
theorem W_same_Looks {a0 a1 : Value} {K : Value → World → Prop} {w : World} (h : S_same_Looks a0 a1 K w) : Ret P n_same_Looks [a0, a1] w K :=
  vcF_of mixed Try.func12 (show S_same_Looks a0 a1 K w = vcF P Try.f12 [a0, a1] w K from by kernel_rfl) h
/- spunyarn/same.Same -/
abbrev S_same_Same (a0 : Value) (a1 : Value) (K : Value → World → Prop) (w0 : World) : Prop :=
xFill [(.int .i64 0)] [] fun c1000 =>
XNew w0 (cellsV (.agg c1000.toArray)) 70 fun a1001 w1002 =>
Ret P n_same_looker_same [(.pointer (some a1001)), a0, a1] w1002 fun v1003 w1004 =>
K v1003 w1004
theorem W_same_Same {a0 a1 : Value} {K : Value → World → Prop} {w : World} (h : S_same_Same a0 a1 K w) : Ret P n_same_Same [a0, a1] w K :=
  vcF_of mixed Try.func13 (show S_same_Same a0 a1 K w = vcF P Try.f13 [a0, a1] w K from by kernel_rfl) h
/- (*spunyarn/same.looker).same -/
/- S_same_looker_same_l1: 0=slot 8 at 1=slot 9 c 2=slot 10 kid 3=slot 11 d 4=slot 12 other 5=slot 7 all -/
def S_same_looker_same_l1 (K : Value → World → Prop) (a0 : Value) (a1 : Value) (a2 : Value) (I1015 : Nat → List Value → World → Prop) (n1016 : Nat) (vs1017 : List Value) (g1018 : Nat → Value) (w1019 : World) : Prop :=
Ret P n_node_Node_Next [a1, (vs1017.getD 0 undef)] w1019 fun v1020 w1021 =>
xTup v1020 0 fun v1022 =>
xTup v1020 1 fun v1023 =>
Ret P n_node_Node_Next [a2, (vs1017.getD 0 undef)] w1021 fun v1024 w1025 =>
xTup v1024 0 fun v1026 =>
xTup v1024 1 fun v1027 =>
/- 0 all -/ XJ (fun J1028 =>
xEq v1022 v1026 fun v1032 =>
xIf v1032 (Ret P n_same_looker_same [a0, v1023, v1027] w1025 fun v1033 w1034 =>
J1028 [v1033] w1034) (J1028 [(.bool false)] w1025)) fun vs1029 g1030 w1031 =>
/- 0 -/ XJ (fun J1035 =>
xNot (vs1029.getD 0 undef) fun v1039 =>
xIf v1039 (J1035 [(.bool true)] w1031) (xPEq P w1031 v1023 (.pointer none) fun v1040 =>
J1035 [v1040] w1031)) fun vs1036 g1037 w1038 =>
xIf (vs1036.getD 0 undef) (K (vs1029.getD 0 undef) w1038) (xConv .i64 v1022 fun v1041 =>
xAdd v1041 (.int .i64 1) fun v1042 =>
XNext I1015 n1016 [v1042, v1022, v1023, v1026, v1027, (vs1029.getD 0 undef)] w1038)
abbrev S_same_looker_same (a0 : Value) (a1 : Value) (a2 : Value) (K : Value → World → Prop) (w0 : World) : Prop :=
xPEq P w0 a1 a2 fun v1000 =>
xIf v1000 (K (.bool true) w0) (/- 0 -/ XJ (fun J1001 =>
xPEq P w0 a1 (.pointer none) fun v1005 =>
xIf v1005 (J1001 [(.bool true)] w0) (xPEq P w0 a2 (.pointer none) fun v1006 =>
J1001 [v1006] w0)) fun vs1002 g1003 w1004 =>
xIf (vs1002.getD 0 undef) (K (.bool false) w1004) (xAt a0 fun a1007 =>
XLd w1004 (a1007.add 0) fun v1008 =>
xAdd v1008 (.int .i64 1) fun v1009 =>
xAt a0 fun a1010 =>
XSt w1004 (a1010.add 0) v1009 fun w1011 =>
Ret P n_same_alike [a1, a2] w1011 fun v1012 w1013 =>
xNot v1012 fun v1014 =>
xIf v1014 (K (.bool false) w1013) (XLoop [(.int .i64 0), undef, undef, undef, undef, (.bool true)] w1013 (S_same_looker_same_l1 K a0 a1 a2))))
theorem W_same_looker_same {a0 a1 a2 : Value} {K : Value → World → Prop} {w : World} (h : S_same_looker_same a0 a1 a2 K w) : Ret P n_same_looker_same [a0, a1, a2] w K :=
  vcF_of mixed Try.func24 (show S_same_looker_same a0 a1 a2 K w = vcF P Try.f24 [a0, a1, a2] w K from by kernel_rfl) h
/- spunyarn/same.alike -/
abbrev S_same_alike (a0 : Value) (a1 : Value) (K : Value → World → Prop) (w0 : World) : Prop :=
Ret P n_node_Node_Val [a0] w0 fun v1000 w1001 =>
xTup v1000 0 fun v1002 =>
xTup v1000 1 fun v1003 =>
Ret P n_node_Node_Val [a1] w1001 fun v1004 w1005 =>
xTup v1004 0 fun v1006 =>
xTup v1004 1 fun v1007 =>
/- 0 -/ XJ (fun J1008 =>
Ret P n_node_Node_Kind [a0] w1005 fun v1012 w1013 =>
Ret P n_node_Node_Kind [a1] w1013 fun v1014 w1015 =>
xEq v1012 v1014 fun v1016 =>
xIf v1016 (Ret P n_node_Node_Len [a0] w1015 fun v1017 w1018 =>
Ret P n_node_Node_Len [a1] w1018 fun v1019 w1020 =>
xEq v1017 v1019 fun v1021 =>
xIf v1021 (Ret P n_node_Node_Part [a0] w1020 fun v1022 w1023 =>
Ret P n_node_Node_Part [a1] w1023 fun v1024 w1025 =>
Ret P n_keys_Same [v1022, v1024] w1025 fun v1026 w1027 =>
xIf v1026 (xBEq v1003 v1007 fun v1028 =>
xIf v1028 (xEq v1002 v1006 fun v1029 =>
J1008 [v1029] w1027) (J1008 [(.bool false)] w1027)) (J1008 [(.bool false)] w1027)) (J1008 [(.bool false)] w1020)) (J1008 [(.bool false)] w1015)) fun vs1009 g1010 w1011 =>
K (vs1009.getD 0 undef) w1011
theorem W_same_alike {a0 a1 : Value} {K : Value → World → Prop} {w : World} (h : S_same_alike a0 a1 K w) : Ret P n_same_alike [a0, a1] w K :=
  vcF_of mixed Try.func39 (show S_same_alike a0 a1 K w = vcF P Try.f39 [a0, a1] w K from by kernel_rfl) h
end Go.Proofs.Ytidkkkdlaclolaa
