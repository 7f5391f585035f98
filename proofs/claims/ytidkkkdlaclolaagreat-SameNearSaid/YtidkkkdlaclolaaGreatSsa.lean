/-  Written by gen.py for this claim: of each function a form without frames, the same as the engine's condition by reckoning.  -/
import Derived.Test.YtidkkkdlaclolaaGreatSN
import Derived.Test.YtidkkkdlaclolaaGreatProg
namespace Go.Proofs.YtidkkkdlaclolaaGreat
open Go X
set_option linter.unusedVariables false
set_option maxRecDepth 100000
/- spunyarn/same.Same -/
abbrev S_same_Same (a0 : Value) (a1 : Value) (K : Value → World → Prop) (w0 : World) : Prop :=
xFill [(.int .i64 0)] [] fun c1000 =>
XNew w0 (cellsV (.agg c1000.toArray)) 64 fun a1001 w1002 =>
Ret P n_same_looker_same [(.pointer (some a1001)), a0, a1] w1002 fun v1003 w1004 =>
K v1003 w1004
theorem W_same_Same {a0 a1 : Value} {K : Value → World → Prop} {w : World} (h : S_same_Same a0 a1 K w) : Ret P n_same_Same [a0, a1] w K :=
  vcF_of mixed Tryz.func12 (show S_same_Same a0 a1 K w = vcF P Tryz.f12 [a0, a1] w K from by kernel_rfl) h
/- spunyarn/same.Looks -/
abbrev S_same_Looks (a0 : Value) (a1 : Value) (K : Value → World → Prop) (w0 : World) : Prop :=
xFill [(.int .i64 0)] [] fun c1000 =>
XNew w0 (cellsV (.agg c1000.toArray)) 64 fun a1001 w1002 =>
Ret P n_same_looker_same [(.pointer (some a1001)), a0, a1] w1002 fun v1003 w1004 =>
XLd w1004 (a1001.add 0) fun v1005 =>
K v1005 w1004
theorem W_same_Looks {a0 a1 : Value} {K : Value → World → Prop} {w : World} (h : S_same_Looks a0 a1 K w) : Ret P n_same_Looks [a0, a1] w K :=
  vcF_of mixed Tryz.func13 (show S_same_Looks a0 a1 K w = vcF P Tryz.f13 [a0, a1] w K from by kernel_rfl) h
/- (*spunyarn/same.looker).same -/
/- S_same_looker_same_l1: 0=slot 8 at 1=slot 9 c 2=slot 10 kid 3=slot 11 d 4=slot 12 other 5=slot 7 all -/
def S_same_looker_same_l1 (K : Value → World → Prop) (a0 : Value) (a1 : Value) (a2 : Value) (I1015 : Nat → List Value → World → Prop) (n1016 : Nat) (vs1017 : List Value) (g1018 : Nat → Value) (w1019 : World) : Prop :=
Ret P n_node_Node_Next [a1, (vs1017.getD 0 undef)] w1019 fun v1020 w1021 =>
xTup v1020 0 fun v1022 =>
xTup v1020 1 fun v1023 =>
Ret P n_node_Node_Next [a2, (vs1017.getD 0 undef)] w1021 fun v1024 w1025 =>
xTup v1024 0 fun v1026 =>
xTup v1024 1 fun v1027 =>
/- 0 all -/ XJ (fun J1028 =>
xEq v1022 v1026 fun v1032 =>
xIf v1032 (Ret P n_same_looker_same [a0, v1023, v1027] w1025 fun v1033 w1034 =>
J1028 [v1033] w1034) (J1028 [(.bool false)] w1025)) fun vs1029 g1030 w1031 =>
/- 0 -/ XJ (fun J1035 =>
xNot (vs1029.getD 0 undef) fun v1039 =>
xIf v1039 (J1035 [(.bool true)] w1031) (xPEq P w1031 v1023 (.pointer none) fun v1040 =>
J1035 [v1040] w1031)) fun vs1036 g1037 w1038 =>
xIf (vs1036.getD 0 undef) (K (vs1029.getD 0 undef) w1038) (xConv .i64 v1022 fun v1041 =>
xAdd v1041 (.int .i64 1) fun v1042 =>
XNext I1015 n1016 [v1042, v1022, v1023, v1026, v1027, (vs1029.getD 0 undef)] w1038)
abbrev S_same_looker_same (a0 : Value) (a1 : Value) (a2 : Value) (K : Value → World → Prop) (w0 : World) : Prop :=
xPEq P w0 a1 a2 fun v1000 =>
xIf v1000 (K (.bool true) w0) (/- 0 -/ XJ (fun J1001 =>
xPEq P w0 a1 (.pointer none) fun v1005 =>
xIf v1005 (J1001 [(.bool true)] w0) (xPEq P w0 a2 (.pointer none) fun v1006 =>
J1001 [v1006] w0)) fun vs1002 g1003 w1004 =>
xIf (vs1002.getD 0 undef) (K (.bool false) w1004) (xAt a0 fun a1007 =>
XLd w1004 (a1007.add 0) fun v1008 =>
xAdd v1008 (.int .i64 1) fun v1009 =>
xAt a0 fun a1010 =>
XSt w1004 (a1010.add 0) v1009 fun w1011 =>
Ret P n_same_alike [a1, a2] w1011 fun v1012 w1013 =>
xNot v1012 fun v1014 =>
xIf v1014 (K (.bool false) w1013) (XLoop [(.int .i64 0), undef, undef, undef, undef, (.bool true)] w1013 (S_same_looker_same_l1 K a0 a1 a2))))
theorem W_same_looker_same {a0 a1 a2 : Value} {K : Value → World → Prop} {w : World} (h : S_same_looker_same a0 a1 a2 K w) : Ret P n_same_looker_same [a0, a1, a2] w K :=
  vcF_of mixed Tryz.func27 (show S_same_looker_same a0 a1 a2 K w = vcF P Tryz.f27 [a0, a1, a2] w K from by kernel_rfl) h
/- spunyarn/same.alike -/
abbrev S_same_alike (a0 : Value) (a1 : Value) (K : Value → World → Prop) (w0 : World) : Prop :=
Ret P n_node_Node_Val [a0] w0 fun v1000 w1001 =>
xTup v1000 0 fun v1002 =>
xTup v1000 1 fun v1003 =>
Ret P n_node_Node_Val [a1] w1001 fun v1004 w1005 =>
xTup v1004 0 fun v1006 =>
xTup v1004 1 fun v1007 =>
/- 0 -/ XJ (fun J1008 =>
Ret P n_node_Node_Kind [a0] w1005 fun v1012 w1013 =>
Ret P n_node_Node_Kind [a1] w1013 fun v1014 w1015 =>
xEq v1012 v1014 fun v1016 =>
xIf v1016 (Ret P n_node_Node_Len [a0] w1015 fun v1017 w1018 =>
Ret P n_node_Node_Len [a1] w1018 fun v1019 w1020 =>
xEq v1017 v1019 fun v1021 =>
xIf v1021 (Ret P n_node_Node_Part [a0] w1020 fun v1022 w1023 =>
Ret P n_node_Node_Part [a1] w1023 fun v1024 w1025 =>
Ret P n_keys_Same [v1022, v1024] w1025 fun v1026 w1027 =>
xIf v1026 (xBEq v1003 v1007 fun v1028 =>
xIf v1028 (xEq v1002 v1006 fun v1029 =>
J1008 [v1029] w1027) (J1008 [(.bool false)] w1027)) (J1008 [(.bool false)] w1027)) (J1008 [(.bool false)] w1020)) (J1008 [(.bool false)] w1015)) fun vs1009 g1010 w1011 =>
K (vs1009.getD 0 undef) w1011
theorem W_same_alike {a0 a1 : Value} {K : Value → World → Prop} {w : World} (h : S_same_alike a0 a1 K w) : Ret P n_same_alike [a0, a1] w K :=
  vcF_of mixed Tryz.func44 (show S_same_alike a0 a1 K w = vcF P Tryz.f44 [a0, a1] w K from by kernel_rfl) h
end Go.Proofs.YtidkkkdlaclolaaGreat
