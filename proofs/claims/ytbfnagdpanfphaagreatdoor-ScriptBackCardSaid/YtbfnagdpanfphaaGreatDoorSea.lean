/-  Written by gen.py for this claim: of each function a form without frames, the same as the engine's condition by reckoning.  -/
import Derived.Test.YtbfnagdpanfphaaGreatDoorSN
import Derived.Test.YtbfnagdpanfphaaGreatDoorProg
namespace Go.Proofs.YtbfnagdpanfphaaGreatDoor
open Go X
set_option linter.unusedVariables false
set_option maxRecDepth 100000
/- spunyarn/spunyarnref29.Same -/
/- S_ref29_Same_l1: 0=slot 5 i 1=slot 4 -/
def S_ref29_Same_l1 (K : Value → World → Prop) (a0 : Value) (a1 : Value) (I1003 : Nat → List Value → World → Prop) (n1004 : Nat) (vs1005 : List Value) (g1006 : Nat → Value) (w1007 : World) : Prop :=
xLen a0 fun v1008 =>
xLt (vs1005.getD 0 undef) v1008 fun v1009 =>
xIf v1009 (/- 0 -/ XJ (fun J1010 =>
xIxS a0 (vs1005.getD 0 undef) 4 fun v1014 =>
xFld v1014 1 fun v1015 =>
xAt v1015 fun a1016 =>
XLd w1007.drew a1016 fun v1017 =>
xIxS a1 (vs1005.getD 0 undef) 4 fun v1018 =>
xFld v1018 1 fun v1019 =>
xAt v1019 fun a1020 =>
XLd w1007.drew a1020 fun v1021 =>
xNe v1017 v1021 fun v1022 =>
xIf v1022 (J1010 [(.bool true)] (w1007.drew)) (xIxS a0 (vs1005.getD 0 undef) 4 fun v1023 =>
xFld v1023 2 fun v1024 =>
xAt v1024 fun a1025 =>
XLd w1007.drew a1025 fun v1026 =>
xIxS a1 (vs1005.getD 0 undef) 4 fun v1027 =>
xFld v1027 2 fun v1028 =>
xAt v1028 fun a1029 =>
XLd w1007.drew a1029 fun v1030 =>
xNe v1026 v1030 fun v1031 =>
xIf v1031 (J1010 [(.bool true)] (w1007.drew)) (xIxS a0 (vs1005.getD 0 undef) 4 fun v1032 =>
xFld v1032 3 fun v1033 =>
xAt v1033 fun a1034 =>
XLd w1007.drew a1034 fun v1035 =>
xIxS a1 (vs1005.getD 0 undef) 4 fun v1036 =>
xFld v1036 3 fun v1037 =>
xAt v1037 fun a1038 =>
XLd w1007.drew a1038 fun v1039 =>
xNe v1035 v1039 fun v1040 =>
xIf v1040 (J1010 [(.bool true)] (w1007.drew)) (xIxS a0 (vs1005.getD 0 undef) 4 fun v1041 =>
xFld v1041 0 fun v1042 =>
xAt v1042 fun a1043 =>
XLd w1007.drew a1043 fun v1044 =>
xIxS a1 (vs1005.getD 0 undef) 4 fun v1045 =>
xFld v1045 0 fun v1046 =>
xAt v1046 fun a1047 =>
XLd w1007.drew a1047 fun v1048 =>
Ret P n_ref01_Same [v1044, v1048] w1007.drew fun v1049 w1050 =>
xNot v1049 fun v1051 =>
J1010 [v1051] w1050)))) fun vs1011 g1012 w1013 =>
xIf (vs1011.getD 0 undef) (K (.bool false) w1013) (xAdd (vs1005.getD 0 undef) (.int .i64 1) fun v1052 =>
XNext I1003 n1004 [v1052, (vs1005.getD 1 undef)] w1013)) (K (.bool true) w1007)
abbrev S_ref29_Same (a0 : Value) (a1 : Value) (K : Value → World → Prop) (w0 : World) : Prop :=
xLen a0 fun v1000 =>
xLen a1 fun v1001 =>
xNe v1000 v1001 fun v1002 =>
xIf v1002 (K (.bool false) w0) (XLoop [(.int .i64 0), (.bool false)] w0 (S_ref29_Same_l1 K a0 a1))
theorem W_ref29_Same {a0 a1 : Value} {K : Value → World → Prop} {w : World} (h : S_ref29_Same a0 a1 K w) : Ret P n_ref29_Same [a0, a1] w K :=
  vcF_of mixed Tryz.func25 (show S_ref29_Same a0 a1 K w = vcF P Tryz.f25 [a0, a1] w K from by kernel_rfl) h
end Go.Proofs.YtbfnagdpanfphaaGreatDoor
