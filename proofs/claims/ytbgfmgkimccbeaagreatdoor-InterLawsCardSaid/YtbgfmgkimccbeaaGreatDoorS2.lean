/-  Written by gen.py for this claim: of each function a form without frames, the same as the engine's condition by reckoning.  -/
import Derived.Test.YtbgfmgkimccbeaaGreatDoorSN
import Derived.Test.YtbgfmgkimccbeaaGreatDoorProg
namespace Go.Proofs.YtbgfmgkimccbeaaGreatDoor
open Go X
set_option linter.unusedVariables false
set_option maxRecDepth 100000
/- internal/strconv.formatBase10 -/
/- S_istrconv_formatBase10_l1: 0=slot 4 nd 1=slot 1 u 2=slot 5 x3210 3=slot 6 x32 4=slot 7 x10 5=slot 8 x1 6=slot 9 x0 7=slot 10 x3 8=slot 11 x2 -/
def S_istrconv_formatBase10_l1 (K : Value → World → Prop) (a0 : Value) (I1001 : Nat → List Value → World → Prop) (n1002 : Nat) (vs1003 : List Value) (g1004 : Nat → Value) (w1005 : World) : Prop :=
xGe (vs1003.getD 0 undef) (.int .i64 8) fun v1006 =>
xIf v1006 (xRem (vs1003.getD 1 undef) (.int .u64 100000000) fun v1007 =>
xConv .u32 v1007 fun v1008 =>
xQuo (vs1003.getD 1 undef) (.int .u64 100000000) fun v1009 =>
xQuo v1008 (.int .u32 10000) fun v1010 =>
xRem v1008 (.int .u32 10000) fun v1011 =>
xQuo v1011 (.int .u32 100) fun v1012 =>
xMul v1012 (.int .u32 2) fun v1013 =>
xRem v1011 (.int .u32 100) fun v1014 =>
xMul v1014 (.int .u32 2) fun v1015 =>
xQuo v1010 (.int .u32 100) fun v1016 =>
xMul v1016 (.int .u32 2) fun v1017 =>
xRem v1010 (.int .u32 100) fun v1018 =>
xMul v1018 (.int .u32 2) fun v1019 =>
xSub (vs1003.getD 0 undef) (.int .i64 1) fun v1020 =>
xSub (vs1003.getD 0 undef) (.int .i64 2) fun v1021 =>
xAdd v1015 (.int .u32 1) fun v1022 =>
xIxStr (.string ⟨#[48, 48, 48, 49, 48, 50, 48, 51, 48, 52, 48, 53, 48, 54, 48, 55, 48, 56, 48, 57, 49, 48, 49, 49, 49, 50, 49, 51, 49, 52, 49, 53, 49, 54, 49, 55, 49, 56, 49, 57, 50, 48, 50, 49, 50, 50, 50, 51, 50, 52, 50, 53, 50, 54, 50, 55, 50, 56, 50, 57, 51, 48, 51, 49, 51, 50, 51, 51, 51, 52, 51, 53, 51, 54, 51, 55, 51, 56, 51, 57, 52, 48, 52, 49, 52, 50, 52, 51, 52, 52, 52, 53, 52, 54, 52, 55, 52, 56, 52, 57, 53, 48, 53, 49, 53, 50, 53, 51, 53, 52, 53, 53, 53, 54, 53, 55, 53, 56, 53, 57, 54, 48, 54, 49, 54, 50, 54, 51, 54, 52, 54, 53, 54, 54, 54, 55, 54, 56, 54, 57, 55, 48, 55, 49, 55, 50, 55, 51, 55, 52, 55, 53, 55, 54, 55, 55, 55, 56, 55, 57, 56, 48, 56, 49, 56, 50, 56, 51, 56, 52, 56, 53, 56, 54, 56, 55, 56, 56, 56, 57, 57, 48, 57, 49, 57, 50, 57, 51, 57, 52, 57, 53, 57, 54, 57, 55, 57, 56, 57, 57]⟩) v1022 fun v1023 =>
xIxStr (.string ⟨#[48, 48, 48, 49, 48, 50, 48, 51, 48, 52, 48, 53, 48, 54, 48, 55, 48, 56, 48, 57, 49, 48, 49, 49, 49, 50, 49, 51, 49, 52, 49, 53, 49, 54, 49, 55, 49, 56, 49, 57, 50, 48, 50, 49, 50, 50, 50, 51, 50, 52, 50, 53, 50, 54, 50, 55, 50, 56, 50, 57, 51, 48, 51, 49, 51, 50, 51, 51, 51, 52, 51, 53, 51, 54, 51, 55, 51, 56, 51, 57, 52, 48, 52, 49, 52, 50, 52, 51, 52, 52, 52, 53, 52, 54, 52, 55, 52, 56, 52, 57, 53, 48, 53, 49, 53, 50, 53, 51, 53, 52, 53, 53, 53, 54, 53, 55, 53, 56, 53, 57, 54, 48, 54, 49, 54, 50, 54, 51, 54, 52, 54, 53, 54, 54, 54, 55, 54, 56, 54, 57, 55, 48, 55, 49, 55, 50, 55, 51, 55, 52, 55, 53, 55, 54, 55, 55, 55, 56, 55, 57, 56, 48, 56, 49, 56, 50, 56, 51, 56, 52, 56, 53, 56, 54, 56, 55, 56, 56, 56, 57, 57, 48, 57, 49, 57, 50, 57, 51, 57, 52, 57, 53, 57, 54, 57, 55, 57, 56, 57, 57]⟩) v1015 fun v1024 =>
xIxS a0 v1020 1 fun v1025 =>
xAt v1025 fun a1027 =>
XSt w1005.drew a1027 v1023 fun w1026 =>
xIxS a0 v1021 1 fun v1028 =>
xAt v1028 fun a1030 =>
XSt w1026 a1030 v1024 fun w1029 =>
xSub (vs1003.getD 0 undef) (.int .i64 3) fun v1031 =>
xSub (vs1003.getD 0 undef) (.int .i64 4) fun v1032 =>
xAdd v1013 (.int .u32 1) fun v1033 =>
xIxStr (.string ⟨#[48, 48, 48, 49, 48, 50, 48, 51, 48, 52, 48, 53, 48, 54, 48, 55, 48, 56, 48, 57, 49, 48, 49, 49, 49, 50, 49, 51, 49, 52, 49, 53, 49, 54, 49, 55, 49, 56, 49, 57, 50, 48, 50, 49, 50, 50, 50, 51, 50, 52, 50, 53, 50, 54, 50, 55, 50, 56, 50, 57, 51, 48, 51, 49, 51, 50, 51, 51, 51, 52, 51, 53, 51, 54, 51, 55, 51, 56, 51, 57, 52, 48, 52, 49, 52, 50, 52, 51, 52, 52, 52, 53, 52, 54, 52, 55, 52, 56, 52, 57, 53, 48, 53, 49, 53, 50, 53, 51, 53, 52, 53, 53, 53, 54, 53, 55, 53, 56, 53, 57, 54, 48, 54, 49, 54, 50, 54, 51, 54, 52, 54, 53, 54, 54, 54, 55, 54, 56, 54, 57, 55, 48, 55, 49, 55, 50, 55, 51, 55, 52, 55, 53, 55, 54, 55, 55, 55, 56, 55, 57, 56, 48, 56, 49, 56, 50, 56, 51, 56, 52, 56, 53, 56, 54, 56, 55, 56, 56, 56, 57, 57, 48, 57, 49, 57, 50, 57, 51, 57, 52, 57, 53, 57, 54, 57, 55, 57, 56, 57, 57]⟩) v1033 fun v1034 =>
xIxStr (.string ⟨#[48, 48, 48, 49, 48, 50, 48, 51, 48, 52, 48, 53, 48, 54, 48, 55, 48, 56, 48, 57, 49, 48, 49, 49, 49, 50, 49, 51, 49, 52, 49, 53, 49, 54, 49, 55, 49, 56, 49, 57, 50, 48, 50, 49, 50, 50, 50, 51, 50, 52, 50, 53, 50, 54, 50, 55, 50, 56, 50, 57, 51, 48, 51, 49, 51, 50, 51, 51, 51, 52, 51, 53, 51, 54, 51, 55, 51, 56, 51, 57, 52, 48, 52, 49, 52, 50, 52, 51, 52, 52, 52, 53, 52, 54, 52, 55, 52, 56, 52, 57, 53, 48, 53, 49, 53, 50, 53, 51, 53, 52, 53, 53, 53, 54, 53, 55, 53, 56, 53, 57, 54, 48, 54, 49, 54, 50, 54, 51, 54, 52, 54, 53, 54, 54, 54, 55, 54, 56, 54, 57, 55, 48, 55, 49, 55, 50, 55, 51, 55, 52, 55, 53, 55, 54, 55, 55, 55, 56, 55, 57, 56, 48, 56, 49, 56, 50, 56, 51, 56, 52, 56, 53, 56, 54, 56, 55, 56, 56, 56, 57, 57, 48, 57, 49, 57, 50, 57, 51, 57, 52, 57, 53, 57, 54, 57, 55, 57, 56, 57, 57]⟩) v1013 fun v1035 =>
xIxS a0 v1031 1 fun v1036 =>
xAt v1036 fun a1038 =>
XSt w1029.drew a1038 v1034 fun w1037 =>
xIxS a0 v1032 1 fun v1039 =>
xAt v1039 fun a1041 =>
XSt w1037 a1041 v1035 fun w1040 =>
xSub (vs1003.getD 0 undef) (.int .i64 5) fun v1042 =>
xSub (vs1003.getD 0 undef) (.int .i64 6) fun v1043 =>
xAdd v1019 (.int .u32 1) fun v1044 =>
xIxStr (.string ⟨#[48, 48, 48, 49, 48, 50, 48, 51, 48, 52, 48, 53, 48, 54, 48, 55, 48, 56, 48, 57, 49, 48, 49, 49, 49, 50, 49, 51, 49, 52, 49, 53, 49, 54, 49, 55, 49, 56, 49, 57, 50, 48, 50, 49, 50, 50, 50, 51, 50, 52, 50, 53, 50, 54, 50, 55, 50, 56, 50, 57, 51, 48, 51, 49, 51, 50, 51, 51, 51, 52, 51, 53, 51, 54, 51, 55, 51, 56, 51, 57, 52, 48, 52, 49, 52, 50, 52, 51, 52, 52, 52, 53, 52, 54, 52, 55, 52, 56, 52, 57, 53, 48, 53, 49, 53, 50, 53, 51, 53, 52, 53, 53, 53, 54, 53, 55, 53, 56, 53, 57, 54, 48, 54, 49, 54, 50, 54, 51, 54, 52, 54, 53, 54, 54, 54, 55, 54, 56, 54, 57, 55, 48, 55, 49, 55, 50, 55, 51, 55, 52, 55, 53, 55, 54, 55, 55, 55, 56, 55, 57, 56, 48, 56, 49, 56, 50, 56, 51, 56, 52, 56, 53, 56, 54, 56, 55, 56, 56, 56, 57, 57, 48, 57, 49, 57, 50, 57, 51, 57, 52, 57, 53, 57, 54, 57, 55, 57, 56, 57, 57]⟩) v1044 fun v1045 =>
xIxStr (.string ⟨#[48, 48, 48, 49, 48, 50, 48, 51, 48, 52, 48, 53, 48, 54, 48, 55, 48, 56, 48, 57, 49, 48, 49, 49, 49, 50, 49, 51, 49, 52, 49, 53, 49, 54, 49, 55, 49, 56, 49, 57, 50, 48, 50, 49, 50, 50, 50, 51, 50, 52, 50, 53, 50, 54, 50, 55, 50, 56, 50, 57, 51, 48, 51, 49, 51, 50, 51, 51, 51, 52, 51, 53, 51, 54, 51, 55, 51, 56, 51, 57, 52, 48, 52, 49, 52, 50, 52, 51, 52, 52, 52, 53, 52, 54, 52, 55, 52, 56, 52, 57, 53, 48, 53, 49, 53, 50, 53, 51, 53, 52, 53, 53, 53, 54, 53, 55, 53, 56, 53, 57, 54, 48, 54, 49, 54, 50, 54, 51, 54, 52, 54, 53, 54, 54, 54, 55, 54, 56, 54, 57, 55, 48, 55, 49, 55, 50, 55, 51, 55, 52, 55, 53, 55, 54, 55, 55, 55, 56, 55, 57, 56, 48, 56, 49, 56, 50, 56, 51, 56, 52, 56, 53, 56, 54, 56, 55, 56, 56, 56, 57, 57, 48, 57, 49, 57, 50, 57, 51, 57, 52, 57, 53, 57, 54, 57, 55, 57, 56, 57, 57]⟩) v1019 fun v1046 =>
xIxS a0 v1042 1 fun v1047 =>
xAt v1047 fun a1049 =>
XSt w1040.drew a1049 v1045 fun w1048 =>
xIxS a0 v1043 1 fun v1050 =>
xAt v1050 fun a1052 =>
XSt w1048 a1052 v1046 fun w1051 =>
xSub (vs1003.getD 0 undef) (.int .i64 7) fun v1053 =>
xSub (vs1003.getD 0 undef) (.int .i64 8) fun v1054 =>
xAdd v1017 (.int .u32 1) fun v1055 =>
xIxStr (.string ⟨#[48, 48, 48, 49, 48, 50, 48, 51, 48, 52, 48, 53, 48, 54, 48, 55, 48, 56, 48, 57, 49, 48, 49, 49, 49, 50, 49, 51, 49, 52, 49, 53, 49, 54, 49, 55, 49, 56, 49, 57, 50, 48, 50, 49, 50, 50, 50, 51, 50, 52, 50, 53, 50, 54, 50, 55, 50, 56, 50, 57, 51, 48, 51, 49, 51, 50, 51, 51, 51, 52, 51, 53, 51, 54, 51, 55, 51, 56, 51, 57, 52, 48, 52, 49, 52, 50, 52, 51, 52, 52, 52, 53, 52, 54, 52, 55, 52, 56, 52, 57, 53, 48, 53, 49, 53, 50, 53, 51, 53, 52, 53, 53, 53, 54, 53, 55, 53, 56, 53, 57, 54, 48, 54, 49, 54, 50, 54, 51, 54, 52, 54, 53, 54, 54, 54, 55, 54, 56, 54, 57, 55, 48, 55, 49, 55, 50, 55, 51, 55, 52, 55, 53, 55, 54, 55, 55, 55, 56, 55, 57, 56, 48, 56, 49, 56, 50, 56, 51, 56, 52, 56, 53, 56, 54, 56, 55, 56, 56, 56, 57, 57, 48, 57, 49, 57, 50, 57, 51, 57, 52, 57, 53, 57, 54, 57, 55, 57, 56, 57, 57]⟩) v1055 fun v1056 =>
xIxStr (.string ⟨#[48, 48, 48, 49, 48, 50, 48, 51, 48, 52, 48, 53, 48, 54, 48, 55, 48, 56, 48, 57, 49, 48, 49, 49, 49, 50, 49, 51, 49, 52, 49, 53, 49, 54, 49, 55, 49, 56, 49, 57, 50, 48, 50, 49, 50, 50, 50, 51, 50, 52, 50, 53, 50, 54, 50, 55, 50, 56, 50, 57, 51, 48, 51, 49, 51, 50, 51, 51, 51, 52, 51, 53, 51, 54, 51, 55, 51, 56, 51, 57, 52, 48, 52, 49, 52, 50, 52, 51, 52, 52, 52, 53, 52, 54, 52, 55, 52, 56, 52, 57, 53, 48, 53, 49, 53, 50, 53, 51, 53, 52, 53, 53, 53, 54, 53, 55, 53, 56, 53, 57, 54, 48, 54, 49, 54, 50, 54, 51, 54, 52, 54, 53, 54, 54, 54, 55, 54, 56, 54, 57, 55, 48, 55, 49, 55, 50, 55, 51, 55, 52, 55, 53, 55, 54, 55, 55, 55, 56, 55, 57, 56, 48, 56, 49, 56, 50, 56, 51, 56, 52, 56, 53, 56, 54, 56, 55, 56, 56, 56, 57, 57, 48, 57, 49, 57, 50, 57, 51, 57, 52, 57, 53, 57, 54, 57, 55, 57, 56, 57, 57]⟩) v1017 fun v1057 =>
xIxS a0 v1053 1 fun v1058 =>
xAt v1058 fun a1060 =>
XSt w1051.drew a1060 v1056 fun w1059 =>
xIxS a0 v1054 1 fun v1061 =>
xAt v1061 fun a1063 =>
XSt w1059 a1063 v1057 fun w1062 =>
xSub (vs1003.getD 0 undef) (.int .i64 8) fun v1064 =>
XNext I1001 n1002 [v1064, v1009, v1008, v1010, v1011, v1013, v1015, v1017, v1019] w1062) (xConv .u32 (vs1003.getD 1 undef) fun v1065 =>
/- 0 x10 1 x 2 x1 3 x0 4 nd -/ XJ (fun J1066 =>
xGe (vs1003.getD 0 undef) (.int .i64 4) fun v1070 =>
xIf v1070 (xRem v1065 (.int .u32 10000) fun v1071 =>
xQuo v1065 (.int .u32 10000) fun v1072 =>
xQuo v1071 (.int .u32 100) fun v1073 =>
xMul v1073 (.int .u32 2) fun v1074 =>
xRem v1071 (.int .u32 100) fun v1075 =>
xMul v1075 (.int .u32 2) fun v1076 =>
xSub (vs1003.getD 0 undef) (.int .i64 1) fun v1077 =>
xSub (vs1003.getD 0 undef) (.int .i64 2) fun v1078 =>
xAdd v1076 (.int .u32 1) fun v1079 =>
xIxStr (.string ⟨#[48, 48, 48, 49, 48, 50, 48, 51, 48, 52, 48, 53, 48, 54, 48, 55, 48, 56, 48, 57, 49, 48, 49, 49, 49, 50, 49, 51, 49, 52, 49, 53, 49, 54, 49, 55, 49, 56, 49, 57, 50, 48, 50, 49, 50, 50, 50, 51, 50, 52, 50, 53, 50, 54, 50, 55, 50, 56, 50, 57, 51, 48, 51, 49, 51, 50, 51, 51, 51, 52, 51, 53, 51, 54, 51, 55, 51, 56, 51, 57, 52, 48, 52, 49, 52, 50, 52, 51, 52, 52, 52, 53, 52, 54, 52, 55, 52, 56, 52, 57, 53, 48, 53, 49, 53, 50, 53, 51, 53, 52, 53, 53, 53, 54, 53, 55, 53, 56, 53, 57, 54, 48, 54, 49, 54, 50, 54, 51, 54, 52, 54, 53, 54, 54, 54, 55, 54, 56, 54, 57, 55, 48, 55, 49, 55, 50, 55, 51, 55, 52, 55, 53, 55, 54, 55, 55, 55, 56, 55, 57, 56, 48, 56, 49, 56, 50, 56, 51, 56, 52, 56, 53, 56, 54, 56, 55, 56, 56, 56, 57, 57, 48, 57, 49, 57, 50, 57, 51, 57, 52, 57, 53, 57, 54, 57, 55, 57, 56, 57, 57]⟩) v1079 fun v1080 =>
xIxStr (.string ⟨#[48, 48, 48, 49, 48, 50, 48, 51, 48, 52, 48, 53, 48, 54, 48, 55, 48, 56, 48, 57, 49, 48, 49, 49, 49, 50, 49, 51, 49, 52, 49, 53, 49, 54, 49, 55, 49, 56, 49, 57, 50, 48, 50, 49, 50, 50, 50, 51, 50, 52, 50, 53, 50, 54, 50, 55, 50, 56, 50, 57, 51, 48, 51, 49, 51, 50, 51, 51, 51, 52, 51, 53, 51, 54, 51, 55, 51, 56, 51, 57, 52, 48, 52, 49, 52, 50, 52, 51, 52, 52, 52, 53, 52, 54, 52, 55, 52, 56, 52, 57, 53, 48, 53, 49, 53, 50, 53, 51, 53, 52, 53, 53, 53, 54, 53, 55, 53, 56, 53, 57, 54, 48, 54, 49, 54, 50, 54, 51, 54, 52, 54, 53, 54, 54, 54, 55, 54, 56, 54, 57, 55, 48, 55, 49, 55, 50, 55, 51, 55, 52, 55, 53, 55, 54, 55, 55, 55, 56, 55, 57, 56, 48, 56, 49, 56, 50, 56, 51, 56, 52, 56, 53, 56, 54, 56, 55, 56, 56, 56, 57, 57, 48, 57, 49, 57, 50, 57, 51, 57, 52, 57, 53, 57, 54, 57, 55, 57, 56, 57, 57]⟩) v1076 fun v1081 =>
xIxS a0 v1077 1 fun v1082 =>
xAt v1082 fun a1084 =>
XSt w1005.drew a1084 v1080 fun w1083 =>
xIxS a0 v1078 1 fun v1085 =>
xAt v1085 fun a1087 =>
XSt w1083 a1087 v1081 fun w1086 =>
xSub (vs1003.getD 0 undef) (.int .i64 3) fun v1088 =>
xSub (vs1003.getD 0 undef) (.int .i64 4) fun v1089 =>
xAdd v1074 (.int .u32 1) fun v1090 =>
xIxStr (.string ⟨#[48, 48, 48, 49, 48, 50, 48, 51, 48, 52, 48, 53, 48, 54, 48, 55, 48, 56, 48, 57, 49, 48, 49, 49, 49, 50, 49, 51, 49, 52, 49, 53, 49, 54, 49, 55, 49, 56, 49, 57, 50, 48, 50, 49, 50, 50, 50, 51, 50, 52, 50, 53, 50, 54, 50, 55, 50, 56, 50, 57, 51, 48, 51, 49, 51, 50, 51, 51, 51, 52, 51, 53, 51, 54, 51, 55, 51, 56, 51, 57, 52, 48, 52, 49, 52, 50, 52, 51, 52, 52, 52, 53, 52, 54, 52, 55, 52, 56, 52, 57, 53, 48, 53, 49, 53, 50, 53, 51, 53, 52, 53, 53, 53, 54, 53, 55, 53, 56, 53, 57, 54, 48, 54, 49, 54, 50, 54, 51, 54, 52, 54, 53, 54, 54, 54, 55, 54, 56, 54, 57, 55, 48, 55, 49, 55, 50, 55, 51, 55, 52, 55, 53, 55, 54, 55, 55, 55, 56, 55, 57, 56, 48, 56, 49, 56, 50, 56, 51, 56, 52, 56, 53, 56, 54, 56, 55, 56, 56, 56, 57, 57, 48, 57, 49, 57, 50, 57, 51, 57, 52, 57, 53, 57, 54, 57, 55, 57, 56, 57, 57]⟩) v1090 fun v1091 =>
xIxStr (.string ⟨#[48, 48, 48, 49, 48, 50, 48, 51, 48, 52, 48, 53, 48, 54, 48, 55, 48, 56, 48, 57, 49, 48, 49, 49, 49, 50, 49, 51, 49, 52, 49, 53, 49, 54, 49, 55, 49, 56, 49, 57, 50, 48, 50, 49, 50, 50, 50, 51, 50, 52, 50, 53, 50, 54, 50, 55, 50, 56, 50, 57, 51, 48, 51, 49, 51, 50, 51, 51, 51, 52, 51, 53, 51, 54, 51, 55, 51, 56, 51, 57, 52, 48, 52, 49, 52, 50, 52, 51, 52, 52, 52, 53, 52, 54, 52, 55, 52, 56, 52, 57, 53, 48, 53, 49, 53, 50, 53, 51, 53, 52, 53, 53, 53, 54, 53, 55, 53, 56, 53, 57, 54, 48, 54, 49, 54, 50, 54, 51, 54, 52, 54, 53, 54, 54, 54, 55, 54, 56, 54, 57, 55, 48, 55, 49, 55, 50, 55, 51, 55, 52, 55, 53, 55, 54, 55, 55, 55, 56, 55, 57, 56, 48, 56, 49, 56, 50, 56, 51, 56, 52, 56, 53, 56, 54, 56, 55, 56, 56, 56, 57, 57, 48, 57, 49, 57, 50, 57, 51, 57, 52, 57, 53, 57, 54, 57, 55, 57, 56, 57, 57]⟩) v1074 fun v1092 =>
xIxS a0 v1088 1 fun v1093 =>
xAt v1093 fun a1095 =>
XSt w1086.drew a1095 v1091 fun w1094 =>
xIxS a0 v1089 1 fun v1096 =>
xAt v1096 fun a1098 =>
XSt w1094 a1098 v1092 fun w1097 =>
xSub (vs1003.getD 0 undef) (.int .i64 4) fun v1099 =>
J1066 [v1071, v1072, v1074, v1076, v1099] w1097) (J1066 [undef, v1065, undef, undef, (vs1003.getD 0 undef)] w1005)) fun vs1067 g1068 w1069 =>
/- 0 x0 1 x 2 nd -/ XJ (fun J1100 =>
xGe (vs1067.getD 4 undef) (.int .i64 2) fun v1104 =>
xIf v1104 (xRem (vs1067.getD 1 undef) (.int .u32 100) fun v1105 =>
xMul v1105 (.int .u32 2) fun v1106 =>
xQuo (vs1067.getD 1 undef) (.int .u32 100) fun v1107 =>
xSub (vs1067.getD 4 undef) (.int .i64 1) fun v1108 =>
xSub (vs1067.getD 4 undef) (.int .i64 2) fun v1109 =>
xAdd v1106 (.int .u32 1) fun v1110 =>
xIxStr (.string ⟨#[48, 48, 48, 49, 48, 50, 48, 51, 48, 52, 48, 53, 48, 54, 48, 55, 48, 56, 48, 57, 49, 48, 49, 49, 49, 50, 49, 51, 49, 52, 49, 53, 49, 54, 49, 55, 49, 56, 49, 57, 50, 48, 50, 49, 50, 50, 50, 51, 50, 52, 50, 53, 50, 54, 50, 55, 50, 56, 50, 57, 51, 48, 51, 49, 51, 50, 51, 51, 51, 52, 51, 53, 51, 54, 51, 55, 51, 56, 51, 57, 52, 48, 52, 49, 52, 50, 52, 51, 52, 52, 52, 53, 52, 54, 52, 55, 52, 56, 52, 57, 53, 48, 53, 49, 53, 50, 53, 51, 53, 52, 53, 53, 53, 54, 53, 55, 53, 56, 53, 57, 54, 48, 54, 49, 54, 50, 54, 51, 54, 52, 54, 53, 54, 54, 54, 55, 54, 56, 54, 57, 55, 48, 55, 49, 55, 50, 55, 51, 55, 52, 55, 53, 55, 54, 55, 55, 55, 56, 55, 57, 56, 48, 56, 49, 56, 50, 56, 51, 56, 52, 56, 53, 56, 54, 56, 55, 56, 56, 56, 57, 57, 48, 57, 49, 57, 50, 57, 51, 57, 52, 57, 53, 57, 54, 57, 55, 57, 56, 57, 57]⟩) v1110 fun v1111 =>
xIxStr (.string ⟨#[48, 48, 48, 49, 48, 50, 48, 51, 48, 52, 48, 53, 48, 54, 48, 55, 48, 56, 48, 57, 49, 48, 49, 49, 49, 50, 49, 51, 49, 52, 49, 53, 49, 54, 49, 55, 49, 56, 49, 57, 50, 48, 50, 49, 50, 50, 50, 51, 50, 52, 50, 53, 50, 54, 50, 55, 50, 56, 50, 57, 51, 48, 51, 49, 51, 50, 51, 51, 51, 52, 51, 53, 51, 54, 51, 55, 51, 56, 51, 57, 52, 48, 52, 49, 52, 50, 52, 51, 52, 52, 52, 53, 52, 54, 52, 55, 52, 56, 52, 57, 53, 48, 53, 49, 53, 50, 53, 51, 53, 52, 53, 53, 53, 54, 53, 55, 53, 56, 53, 57, 54, 48, 54, 49, 54, 50, 54, 51, 54, 52, 54, 53, 54, 54, 54, 55, 54, 56, 54, 57, 55, 48, 55, 49, 55, 50, 55, 51, 55, 52, 55, 53, 55, 54, 55, 55, 55, 56, 55, 57, 56, 48, 56, 49, 56, 50, 56, 51, 56, 52, 56, 53, 56, 54, 56, 55, 56, 56, 56, 57, 57, 48, 57, 49, 57, 50, 57, 51, 57, 52, 57, 53, 57, 54, 57, 55, 57, 56, 57, 57]⟩) v1106 fun v1112 =>
xIxS a0 v1108 1 fun v1113 =>
xAt v1113 fun a1115 =>
XSt w1069.drew a1115 v1111 fun w1114 =>
xIxS a0 v1109 1 fun v1116 =>
xAt v1116 fun a1118 =>
XSt w1114 a1118 v1112 fun w1117 =>
xSub (vs1067.getD 4 undef) (.int .i64 2) fun v1119 =>
J1100 [v1106, v1107, v1119] w1117) (J1100 [undef, (vs1067.getD 1 undef), (vs1067.getD 4 undef)] w1069)) fun vs1101 g1102 w1103 =>
xGt (vs1101.getD 2 undef) (.int .i64 0) fun v1120 =>
xIf v1120 (xAdd (.int .u32 48) (vs1101.getD 1 undef) fun v1121 =>
xConv .u8 v1121 fun v1122 =>
xIxS a0 (.int .i64 0) 1 fun v1123 =>
xAt v1123 fun a1125 =>
XSt w1103 a1125 v1122 fun w1124 =>
K (.tuple #[]) w1124) (K (.tuple #[]) w1103))
abbrev S_istrconv_formatBase10 (a0 : Value) (a1 : Value) (K : Value → World → Prop) (w0 : World) : Prop :=
xLen a0 fun v1000 =>
XLoop [v1000, a1, undef, undef, undef, undef, undef, undef, undef] w0 (S_istrconv_formatBase10_l1 K a0)
theorem W_istrconv_formatBase10 {a0 a1 : Value} {K : Value → World → Prop} {w : World} (h : S_istrconv_formatBase10 a0 a1 K w) : Ret P n_istrconv_formatBase10 [a0, a1] w K :=
  vcF_of mixed Tryz.func151 (show S_istrconv_formatBase10 a0 a1 K w = vcF P Tryz.f151 [a0, a1] w K from by kernel_rfl) h
/- internal/strconv.formatBits -/
/- S_istrconv_formatBits_l1: 0=slot 1 u 1=slot 13 i -/
def S_istrconv_formatBits_l1 (a1011 : Addr) (J1018 : List Value → World → Prop) (v1027 : Value) (v1028 : Value) (v1030 : Value) (I1031 : Nat → List Value → World → Prop) (n1032 : Nat) (vs1033 : List Value) (g1034 : Nat → Value) (w1035 : World) : Prop :=
xGe (vs1033.getD 0 undef) v1028 fun v1036 =>
xIf v1036 (xSub (vs1033.getD 1 undef) (.int .i64 1) fun v1037 =>
xAnd (vs1033.getD 0 undef) v1030 fun v1038 =>
xIxStr (.string ⟨#[48, 49, 50, 51, 52, 53, 54, 55, 56, 57, 97, 98, 99, 100, 101, 102, 103, 104, 105, 106, 107, 108, 109, 110, 111, 112, 113, 114, 115, 116, 117, 118, 119, 120, 121, 122]⟩) v1038 fun v1039 =>
xIxA (.pointer (some a1011)) v1037 65 1 fun v1040 =>
xAt v1040 fun a1042 =>
XSt w1035 a1042 v1039 fun w1041 =>
xShr (vs1033.getD 0 undef) v1027 fun v1043 =>
XNext I1031 n1032 [v1043, v1037] w1041) (xSub (vs1033.getD 1 undef) (.int .i64 1) fun v1044 =>
xIxStr (.string ⟨#[48, 49, 50, 51, 52, 53, 54, 55, 56, 57, 97, 98, 99, 100, 101, 102, 103, 104, 105, 106, 107, 108, 109, 110, 111, 112, 113, 114, 115, 116, 117, 118, 119, 120, 121, 122]⟩) (vs1033.getD 0 undef) fun v1045 =>
xIxA (.pointer (some a1011)) v1044 65 1 fun v1046 =>
xAt v1046 fun a1048 =>
XSt w1035 a1048 v1045 fun w1047 =>
J1018 [v1027, v1028, v1030, v1044, (vs1033.getD 0 undef), undef, undef] w1047)
/- S_istrconv_formatBits_l2: 0=slot 1 u 1=slot 13 i 2=slot 18 q -/
def S_istrconv_formatBits_l2 (a1011 : Addr) (J1018 : List Value → World → Prop) (v1049 : Value) (I1050 : Nat → List Value → World → Prop) (n1051 : Nat) (vs1052 : List Value) (g1053 : Nat → Value) (w1054 : World) : Prop :=
xGe (vs1052.getD 0 undef) v1049 fun v1055 =>
xIf v1055 (xSub (vs1052.getD 1 undef) (.int .i64 1) fun v1056 =>
xQuo (vs1052.getD 0 undef) v1049 fun v1057 =>
xMul v1057 v1049 fun v1058 =>
xSub (vs1052.getD 0 undef) v1058 fun v1059 =>
xIxStr (.string ⟨#[48, 49, 50, 51, 52, 53, 54, 55, 56, 57, 97, 98, 99, 100, 101, 102, 103, 104, 105, 106, 107, 108, 109, 110, 111, 112, 113, 114, 115, 116, 117, 118, 119, 120, 121, 122]⟩) v1059 fun v1060 =>
xIxA (.pointer (some a1011)) v1056 65 1 fun v1061 =>
xAt v1061 fun a1063 =>
XSt w1054 a1063 v1060 fun w1062 =>
XNext I1050 n1051 [v1057, v1056, v1057] w1062) (xSub (vs1052.getD 1 undef) (.int .i64 1) fun v1064 =>
xIxStr (.string ⟨#[48, 49, 50, 51, 52, 53, 54, 55, 56, 57, 97, 98, 99, 100, 101, 102, 103, 104, 105, 106, 107, 108, 109, 110, 111, 112, 113, 114, 115, 116, 117, 118, 119, 120, 121, 122]⟩) (vs1052.getD 0 undef) fun v1065 =>
xIxA (.pointer (some a1011)) v1064 65 1 fun v1066 =>
xAt v1066 fun a1068 =>
XSt w1054 a1068 v1065 fun w1067 =>
J1018 [undef, undef, undef, v1064, (vs1052.getD 0 undef), v1049, (vs1052.getD 2 undef)] w1067)
abbrev S_istrconv_formatBits (a0 : Value) (a1 : Value) (a2 : Value) (a3 : Value) (a4 : Value) (K : Value → World → Prop) (w0 : World) : Prop :=
/-  -/ XJ (fun J1000 =>
/- 0 -/ XJ (fun J1004 =>
xLt a2 (.int .i64 2) fun v1008 =>
xIf v1008 (J1004 [(.bool true)] w0) (xEq a2 (.int .i64 10) fun v1009 =>
xIf v1009 (J1004 [(.bool true)] w0) (xGt a2 (.int .i64 36) fun v1010 =>
J1004 [v1010] w0))) fun vs1005 g1006 w1007 =>
xIf (vs1005.getD 0 undef) (False) (J1000 [] w1007)) fun vs1001 g1002 w1003 =>
XNew w1003 z_a65_uint8 222 fun a1011 w1012 =>
/- 0 u -/ XJ (fun J1013 =>
xIf a3 (xNeg a1 fun v1017 =>
J1013 [v1017] w1012) (J1013 [a1] w1012)) fun vs1014 g1015 w1016 =>
/- 0 shift 1 b 2 m 3 i 4 u 5 b 6 q -/ XJ (fun J1018 =>
Ret P n_istrconv_isPowerOfTwo [a2] w1016 fun v1022 w1023 =>
xIf v1022 (xConv .u64 a2 fun v1024 =>
Ret P n_bits_TrailingZeros [v1024] w1023 fun v1025 w1026 =>
xConv .u64 v1025 fun v1027 =>
xConv .u64 a2 fun v1028 =>
xConv .u64 a2 fun v1029 =>
xSub v1029 (.int .u64 1) fun v1030 =>
XLoop [(vs1014.getD 0 undef), (.int .i64 65)] w1026 (S_istrconv_formatBits_l1 a1011 J1018 v1027 v1028 v1030)) (xConv .u64 a2 fun v1049 =>
XLoop [(vs1014.getD 0 undef), (.int .i64 65), undef] w1023 (S_istrconv_formatBits_l2 a1011 J1018 v1049))) fun vs1019 g1020 w1021 =>
/- 0 i -/ XJ (fun J1069 =>
xIf a3 (xSub (vs1019.getD 3 undef) (.int .i64 1) fun v1073 =>
xIxA (.pointer (some a1011)) v1073 65 1 fun v1074 =>
xAt v1074 fun a1076 =>
XSt w1021 a1076 (.int .u8 45) fun w1075 =>
J1069 [v1073] w1075) (J1069 [(vs1019.getD 3 undef)] w1021)) fun vs1070 g1071 w1072 =>
xIf a4 (xCutA 65 1 (.pointer (some a1011)) (some (vs1070.getD 0 undef)) none none fun v1077 =>
XRun P (Builtin.append_ #[61, 61] 61 #[a0, v1077]) w1072 fun v1078 w1079 =>
K (.tuple #[v1078, (.string ⟨#[]⟩)]) w1079) (xCutA 65 1 (.pointer (some a1011)) (some (vs1070.getD 0 undef)) none none fun v1080 =>
XRun P (convert 61 9 v1080) w1072 fun v1081 w1082 =>
K (.tuple #[(.slice none 0 0), v1081]) w1082)
theorem W_istrconv_formatBits {a0 a1 a2 a3 a4 : Value} {K : Value → World → Prop} {w : World} (h : S_istrconv_formatBits a0 a1 a2 a3 a4 K w) : Ret P n_istrconv_formatBits [a0, a1, a2, a3, a4] w K :=
  vcF_of mixed Tryz.func152 (show S_istrconv_formatBits a0 a1 a2 a3 a4 K w = vcF P Tryz.f152 [a0, a1, a2, a3, a4] w K from by kernel_rfl) h
/- spunyarn/del.Left -/
/- S_del_Left_l1: 0=slot 95 -/
def S_del_Left_l1 (K : Value → World → Prop) (a3 : Value) (a4 : Value) (v1080 : Value) (v1088 : Value) (I1089 : Nat → List Value → World → Prop) (n1090 : Nat) (vs1091 : List Value) (g1092 : Nat → Value) (w1093 : World) : Prop :=
xLt (vs1091.getD 0 undef) v1088 fun v1094 =>
xIf v1094 (xIxS a3 (vs1091.getD 0 undef) 2 fun v1095 =>
xAt v1095 fun a1096 =>
XLdN w1093 a1096 2 fun v1097 =>
XNew w1093 [(.int .u8 0), (.pointer none)] 169 fun a1098 w1099 =>
XDo P (storeVar 169 a1098 v1097) w1099 fun w1100 =>
XLd w1100 (a1098.add 0) fun v1101 =>
XLd w1100 (a1098.add 1) fun v1102 =>
Ret P n_node_Node_SetKid [v1080, a4, v1101, v1102] w1100 fun v1103 w1104 =>
xAdd (vs1091.getD 0 undef) (.int .i64 1) fun v1105 =>
XNext I1089 n1090 [v1105] w1104) (K (.tuple #[v1080, (.int .i64 0)]) w1093)
abbrev S_del_Left (a0 : Value) (a1 : Value) (a2 : Value) (a3 : Value) (a4 : Value) (a5 : Value) (K : Value → World → Prop) (w0 : World) : Prop :=
Ret P n_del_may [a0, a3, a4] w0 fun v1000 w1001 =>
xNe v1000 (.int .i64 0) fun v1002 =>
xIf v1002 (K (.tuple #[(.pointer none), v1000]) w1001) (Ret P n_del_just [a0, a1, a2, a3] w1001 fun v1003 w1004 =>
xIf v1003 (K (.tuple #[a0, (.int .i64 0)]) w1004) (/- 0 -/ XJ (fun J1005 =>
xLen a3 fun v1009 =>
xEq v1009 (.int .i64 0) fun v1010 =>
xIf v1010 (J1005 [a1] w1004) (J1005 [(.bool false)] w1004)) fun vs1006 g1007 w1008 =>
xIf (vs1006.getD 0 undef) (Ret P n_node_Node_Part [a0] w1008 fun v1011 w1012 =>
Ret P n_node_Leaf [a5, a4, v1011, a2] w1012 fun v1013 w1014 =>
K (.tuple #[v1013, (.int .i64 0)]) w1014) (xLen a3 fun v1015 =>
xEq v1015 (.int .i64 0) fun v1016 =>
xIf v1016 (K (.tuple #[(.pointer none), (.int .i64 0)]) w1008) (/- 0 -/ XJ (fun J1017 =>
xLen a3 fun v1021 =>
xEq v1021 (.int .i64 1) fun v1022 =>
xIf v1022 (xNot a1 fun v1023 =>
J1017 [v1023] w1008) (J1017 [(.bool false)] w1008)) fun vs1018 g1019 w1020 =>
xIf (vs1018.getD 0 undef) (xIxS a3 (.int .i64 0) 2 fun v1024 =>
xFld v1024 1 fun v1025 =>
xAt v1025 fun a1026 =>
XLd w1020 a1026 fun v1027 =>
Ret P n_node_Node_Copy [v1027, a5, a4] w1020 fun v1028 w1029 =>
xIxS a3 (.int .i64 0) 2 fun v1030 =>
xFld v1030 0 fun v1031 =>
xAt v1031 fun a1032 =>
XLd w1029.drew a1032 fun v1033 =>
xIxS a3 (.int .i64 0) 2 fun v1034 =>
xFld v1034 1 fun v1035 =>
xAt v1035 fun a1036 =>
XLd w1029.drew a1036 fun v1037 =>
(Ret P n_node_Node_Part [a0] w1029.drew fun v1038 w1039 =>
xKeep1 w1039 v1035 v1037 ∧ (xKeep1 w1039 v1031 v1033 ∧ ((xFill (repL [(.int .u8 0)] 1) [(0, 1, v1033)] fun c1040 =>
XNew w1039 c1040 5 fun a1041 w1042 =>
xKeep1 w1042 v1035 v1037 ∧ (Ret P n_node_Node_Part [v1037] w1042 fun v1043 w1044 =>
xFill (repL [(.slice none 0 0)] 3) [(0, 1, v1038), (1, 1, (.slice (some a1041) 1 1)), (2, 1, v1043)] fun c1045 =>
XNew w1044 c1045 61 fun a1046 w1047 =>
Ret P n_del_join [(.slice (some a1046) 3 3)] w1047 fun v1048 w1049 =>
Ret P n_node_Node_SetPart [v1028, a4, v1048] w1049 fun v1050 w1051 =>
K (.tuple #[v1028, (.int .i64 0)]) w1051)) ∧ (Ret P n_node_Node_Part [v1037] w1039 fun v1052 w1053 =>
xKeep1 w1053 v1031 v1033 ∧ (xFill (repL [(.int .u8 0)] 1) [(0, 1, v1033)] fun c1054 =>
XNew w1053 c1054 5 fun a1055 w1056 =>
xFill (repL [(.slice none 0 0)] 3) [(0, 1, v1038), (1, 1, (.slice (some a1055) 1 1)), (2, 1, v1052)] fun c1057 =>
XNew w1056 c1057 61 fun a1058 w1059 =>
Ret P n_del_join [(.slice (some a1058) 3 3)] w1059 fun v1060 w1061 =>
Ret P n_node_Node_SetPart [v1028, a4, v1060] w1061 fun v1062 w1063 =>
K (.tuple #[v1028, (.int .i64 0)]) w1063))))) ∧ (xFill (repL [(.int .u8 0)] 1) [(0, 1, v1033)] fun c1064 =>
XNew w1029.drew c1064 5 fun a1065 w1066 =>
xKeep1 w1066 v1035 v1037 ∧ (Ret P n_node_Node_Part [a0] w1066 fun v1067 w1068 =>
xKeep1 w1068 v1035 v1037 ∧ (Ret P n_node_Node_Part [v1037] w1068 fun v1069 w1070 =>
xFill (repL [(.slice none 0 0)] 3) [(0, 1, v1067), (1, 1, (.slice (some a1065) 1 1)), (2, 1, v1069)] fun c1071 =>
XNew w1070 c1071 61 fun a1072 w1073 =>
Ret P n_del_join [(.slice (some a1072) 3 3)] w1073 fun v1074 w1075 =>
Ret P n_node_Node_SetPart [v1028, a4, v1074] w1075 fun v1076 w1077 =>
K (.tuple #[v1028, (.int .i64 0)]) w1077)))) (Ret P n_node_Node_Part [a0] w1020 fun v1078 w1079 =>
Ret P n_node_Inner [a5, a4, v1078] w1079 fun v1080 w1081 =>
/-  -/ XJ (fun J1082 =>
xIf a1 (Ret P n_node_Node_SetVal [v1080, a4, a2] w1081 fun v1086 w1087 =>
J1082 [] w1087) (J1082 [] w1081)) fun vs1083 g1084 w1085 =>
xLen a3 fun v1088 =>
XLoop [(.int .i64 0)] w1085 (S_del_Left_l1 K a3 a4 v1080 v1088))))))
theorem W_del_Left {a0 a1 a2 a3 a4 a5 : Value} {K : Value → World → Prop} {w : World} (h : S_del_Left a0 a1 a2 a3 a4 a5 K w) : Ret P n_del_Left [a0, a1, a2, a3, a4, a5] w K :=
  vcF_of mixed Tryz.func153 (show S_del_Left a0 a1 a2 a3 a4 a5 K w = vcF P Tryz.f153 [a0, a1, a2, a3, a4, a5] w K from by kernel_rfl) h
/- (*spunyarn/small.Row[*spunyarn/node.Node]).ok -/
abbrev S_small_Row_ok (a0 : Value) (K : Value → World → Prop) (w0 : World) : Prop :=
/- 0 -/ XJ (fun J1000 =>
xPNe P w0 a0 (.pointer none) fun v1004 =>
xIf v1004 (xAt a0 fun a1005 =>
XLd w0 (a1005.add 0) fun v1006 =>
xGt v1006 (.int .i64 0) fun v1007 =>
J1000 [v1007] w0) (J1000 [(.bool false)] w0)) fun vs1001 g1002 w1003 =>
K (vs1001.getD 0 undef) w1003
theorem W_small_Row_ok {a0 : Value} {K : Value → World → Prop} {w : World} (h : S_small_Row_ok a0 K w) : Ret P n_small_Row_ok [a0] w K :=
  vcF_of mixed Tryz.func154 (show S_small_Row_ok a0 K w = vcF P Tryz.f154 [a0] w K from by kernel_rfl) h
/- (*spunyarn/wide.Board[*spunyarn/node.Node]).ok -/
abbrev S_wide_Board_ok (a0 : Value) (K : Value → World → Prop) (w0 : World) : Prop :=
/- 0 -/ XJ (fun J1000 =>
xPNe P w0 a0 (.pointer none) fun v1004 =>
xIf v1004 (xAt a0 fun a1005 =>
XLd w0 (a1005.add 0) fun v1006 =>
xGt v1006 (.int .i64 0) fun v1007 =>
J1000 [v1007] w0) (J1000 [(.bool false)] w0)) fun vs1001 g1002 w1003 =>
K (vs1001.getD 0 undef) w1003
theorem W_wide_Board_ok {a0 : Value} {K : Value → World → Prop} {w : World} (h : S_wide_Board_ok a0 K w) : Ret P n_wide_Board_ok [a0] w K :=
  vcF_of mixed Tryz.func155 (show S_wide_Board_ok a0 K w = vcF P Tryz.f155 [a0] w K from by kernel_rfl) h
/- bytes.Compare -/
abbrev S_bytes_Compare (a0 : Value) (a1 : Value) (K : Value → World → Prop) (w0 : World) : Prop :=
xCall P 176 [a0, a1] w0 fun v1000 w1001 =>
K v1000 w1001
theorem W_bytes_Compare {a0 a1 : Value} {K : Value → World → Prop} {w : World} (h : S_bytes_Compare a0 a1 K w) : Ret P n_bytes_Compare [a0, a1] w K :=
  vcF_of mixed Tryz.func156 (show S_bytes_Compare a0 a1 K w = vcF P Tryz.f156 [a0, a1] w K from by kernel_rfl) h
/- (*sync/atomic.Int64).Add -/
abbrev S_atomic_Int64_Add (a0 : Value) (a1 : Value) (K : Value → World → Prop) (w0 : World) : Prop :=
xAt a0 fun a1000 =>
xCall P 177 [(.pointer (some (a1000.add 0))), a1] w0 fun v1001 w1002 =>
K v1001 w1002
theorem W_atomic_Int64_Add {a0 a1 : Value} {K : Value → World → Prop} {w : World} (h : S_atomic_Int64_Add a0 a1 K w) : Ret P n_atomic_Int64_Add [a0, a1] w K :=
  vcF_of mixed Tryz.func157 (show S_atomic_Int64_Add a0 a1 K w = vcF P Tryz.f157 [a0, a1] w K from by kernel_rfl) h
/- spunyarn/kids.room[*spunyarn/node.Node] -/
abbrev S_kids_room_Node (a0 : Value) (K : Value → World → Prop) (w0 : World) : Prop :=
xFill [(.pointer none), (.pointer none)] [] fun c1000 =>
XNew w0 (cellsV (.agg c1000.toArray)) 181 fun a1001 w1002 =>
/-  -/ XJ (fun J1003 =>
xLe a0 (.int .i64 16) fun v1007 =>
xIf v1007 (Ret P n_small_New_Node [a0] w1002 fun v1008 w1009 =>
xTup v1008 0 fun v1010 =>
xTup v1008 1 fun v1011 =>
XSt w1009 (a1001.add 0) v1010 fun w1012 =>
J1003 [] w1012) (Ret P n_wide_New_Node [a0] w1002 fun v1013 w1014 =>
xTup v1013 0 fun v1015 =>
xTup v1013 1 fun v1016 =>
XSt w1014 (a1001.add 1) v1015 fun w1017 =>
J1003 [] w1017)) fun vs1004 g1005 w1006 =>
K (.pointer (some a1001)) w1006
theorem W_kids_room_Node {a0 : Value} {K : Value → World → Prop} {w : World} (h : S_kids_room_Node a0 K w) : Ret P n_kids_room_Node [a0] w K :=
  vcF_of mixed Tryz.func158 (show S_kids_room_Node a0 K w = vcF P Tryz.f158 [a0] w K from by kernel_rfl) h
/- spunyarn/kids.move[*spunyarn/node.Node] -/
/- S_kids_move_Node_l1: 0=slot 5 at 1=slot 6 b 2=slot 7 x 3=slot 8 is -/
def S_kids_move_Node_l1 (a0 : Value) (v1000 : Value) (J1002 : List Value → World → Prop) (I1006 : Nat → List Value → World → Prop) (n1007 : Nat) (vs1008 : List Value) (g1009 : Nat → Value) (w1010 : World) : Prop :=
xLt (vs1008.getD 0 undef) (.int .i64 256) fun v1011 =>
xIf v1011 (Ret P n_kids_Kids_Next [a0, (vs1008.getD 0 undef)] w1010 fun v1012 w1013 =>
xTup v1012 0 fun v1014 =>
xTup v1012 1 fun v1015 =>
xTup v1012 2 fun v1016 =>
xNot v1016 fun v1017 =>
xIf v1017 (J1002 [(vs1008.getD 0 undef), v1014, v1015, v1016] w1013) (Ret P n_kids_Kids_put [v1000, v1014, v1015] w1013 fun v1018 w1019 =>
xConv .i64 v1014 fun v1020 =>
xAdd v1020 (.int .i64 1) fun v1021 =>
XNext I1006 n1007 [v1021, v1014, v1015, v1016] w1019)) (J1002 [(vs1008.getD 0 undef), (vs1008.getD 1 undef), (vs1008.getD 2 undef), (vs1008.getD 3 undef)] w1010)
abbrev S_kids_move_Node (a0 : Value) (a1 : Value) (K : Value → World → Prop) (w0 : World) : Prop :=
Ret P n_kids_room_Node [a1] w0 fun v1000 w1001 =>
/- 0 at 1 b 2 x 3 is -/ XJ (fun J1002 =>
XLoop [(.int .i64 0), undef, undef, undef] w1001 (S_kids_move_Node_l1 a0 v1000 J1002)) fun vs1003 g1004 w1005 =>
xAt v1000 fun a1022 =>
XLdN w1005 a1022 2 fun v1023 =>
xAt a0 fun a1024 =>
XDo P (storeVar 181 a1024 v1023) w1005 fun w1025 =>
K (.tuple #[]) w1025
theorem W_kids_move_Node {a0 a1 : Value} {K : Value → World → Prop} {w : World} (h : S_kids_move_Node a0 a1 K w) : Ret P n_kids_move_Node [a0, a1] w K :=
  vcF_of mixed Tryz.func159 (show S_kids_move_Node a0 a1 K w = vcF P Tryz.f159 [a0, a1] w K from by kernel_rfl) h
/- spunyarn/kids.KindOf -/
/- S_kids_KindOf_l1: 0=slot 8 1=slot 4 kind 2=slot 2 -/
def S_kids_KindOf_l1 (K : Value → World → Prop) (a0 : Value) (c1001 : List Value) (I1002 : Nat → List Value → World → Prop) (n1003 : Nat) (vs1004 : List Value) (g1005 : Nat → Value) (w1006 : World) : Prop :=
xLt (vs1004.getD 0 undef) (.int .i64 4) fun v1007 =>
xIf v1007 (XRun P (Instr.index 232 (.agg c1001.toArray) (vs1004.getD 0 undef)) w1006 fun v1008 w1009 =>
xLe a0 v1008 fun v1010 =>
xIf v1010 (K v1008 w1009) (xAdd (vs1004.getD 0 undef) (.int .i64 1) fun v1011 =>
XNext I1002 n1003 [v1011, v1008, (vs1004.getD 2 undef)] w1009)) (K (.int .i64 0) w1006)
abbrev S_kids_KindOf (a0 : Value) (K : Value → World → Prop) (w0 : World) : Prop :=
xLt a0 (.int .i64 0) fun v1000 =>
xIf v1000 (K (.int .i64 0) w0) (xFill [(.int .i64 0), (.int .i64 0), (.int .i64 0), (.int .i64 0)] [(0, 1, (.int .i64 4)), (1, 1, (.int .i64 16)), (2, 1, (.int .i64 48)), (3, 1, (.int .i64 256))] fun c1001 =>
XLoop [(.int .i64 0), undef, (.int .i64 0)] w0 (S_kids_KindOf_l1 K a0 c1001))
theorem W_kids_KindOf {a0 : Value} {K : Value → World → Prop} {w : World} (h : S_kids_KindOf a0 K w) : Ret P n_kids_KindOf [a0] w K :=
  vcF_of mixed Tryz.func160 (show S_kids_KindOf a0 K w = vcF P Tryz.f160 [a0] w K from by kernel_rfl) h
/- (*spunyarn/kids.Kids[*spunyarn/node.Node]).put -/
abbrev S_kids_Kids_put (a0 : Value) (a1 : Value) (a2 : Value) (K : Value → World → Prop) (w0 : World) : Prop :=
xAt a0 fun a1000 =>
XLd w0 (a1000.add 0) fun v1001 =>
xPNe P w0 v1001 (.pointer none) fun v1002 =>
xIf v1002 (xAt a0 fun a1003 =>
XLd w0 (a1003.add 0) fun v1004 =>
Ret P n_small_Row_Set [v1004, a1, a2] w0 fun v1005 w1006 =>
K (.tuple #[]) w1006) (xAt a0 fun a1007 =>
XLd w0 (a1007.add 1) fun v1008 =>
Ret P n_wide_Board_Set [v1008, a1, a2] w0 fun v1009 w1010 =>
K (.tuple #[]) w1010)
theorem W_kids_Kids_put {a0 a1 a2 : Value} {K : Value → World → Prop} {w : World} (h : S_kids_Kids_put a0 a1 a2 K w) : Ret P n_kids_Kids_put [a0, a1, a2] w K :=
  vcF_of mixed Tryz.func161 (show S_kids_Kids_put a0 a1 a2 K w = vcF P Tryz.f161 [a0, a1, a2] w K from by kernel_rfl) h
/- spunyarn/del.join -/
abbrev S_del_join (a0 : Value) (K : Value → World → Prop) (w0 : World) : Prop :=
Ret P n_slices_Concat_byte [a0] w0 fun v1000 w1001 =>
K v1000 w1001
theorem W_del_join {a0 : Value} {K : Value → World → Prop} {w : World} (h : S_del_join a0 K w) : Ret P n_del_join [a0] w K :=
  vcF_of mixed Tryz.func162 (show S_del_join a0 K w = vcF P Tryz.f162 [a0] w K from by kernel_rfl) h
/- (*spunyarn/small.Row[*spunyarn/node.Node]).Get -/
abbrev S_small_Row_Get (a0 : Value) (a1 : Value) (K : Value → World → Prop) (w0 : World) : Prop :=
Ret P n_small_Row_ok [a0] w0 fun v1000 w1001 =>
xNot v1000 fun v1002 =>
xIf v1002 (K (.tuple #[(.pointer none), (.bool false)]) w1001) (Ret P n_small_Row_place [a0, a1] w1001 fun v1003 w1004 =>
xTup v1003 0 fun v1005 =>
xTup v1003 1 fun v1006 =>
xNot v1006 fun v1007 =>
xIf v1007 (K (.tuple #[(.pointer none), (.bool false)]) w1004) (xAt a0 fun a1008 =>
xIxA (.pointer (some (a1008.add 18))) v1005 16 1 fun v1009 =>
xAt v1009 fun a1010 =>
XLd w1004 a1010 fun v1011 =>
K (.tuple #[v1011, (.bool true)]) w1004))
theorem W_small_Row_Get {a0 a1 : Value} {K : Value → World → Prop} {w : World} (h : S_small_Row_Get a0 a1 K w) : Ret P n_small_Row_Get [a0, a1] w K :=
  vcF_of mixed Tryz.func163 (show S_small_Row_Get a0 a1 K w = vcF P Tryz.f163 [a0, a1] w K from by kernel_rfl) h
/- (*spunyarn/wide.Board[*spunyarn/node.Node]).Get -/
abbrev S_wide_Board_Get (a0 : Value) (a1 : Value) (K : Value → World → Prop) (w0 : World) : Prop :=
/- 0 -/ XJ (fun J1000 =>
Ret P n_wide_Board_ok [a0] w0 fun v1004 w1005 =>
xNot v1004 fun v1006 =>
xIf v1006 (J1000 [(.bool true)] w1005) (xAt a0 fun a1007 =>
xIxA (.pointer (some (a1007.add 2))) a1 256 1 fun v1008 =>
xAt v1008 fun a1009 =>
XLd w1005 a1009 fun v1010 =>
xEq v1010 (.int .u16 0) fun v1011 =>
J1000 [v1011] w1005)) fun vs1001 g1002 w1003 =>
xIf (vs1001.getD 0 undef) (K (.tuple #[(.pointer none), (.bool false)]) w1003) (xAt a0 fun a1012 =>
XLd w1003.drew (a1012.add 258) fun v1013 =>
xAt a0 fun a1014 =>
xIxA (.pointer (some (a1014.add 2))) a1 256 1 fun v1015 =>
xAt v1015 fun a1016 =>
XLd w1003.drew a1016 fun v1017 =>
xSub v1017 (.int .u16 1) fun v1018 =>
xIxS v1013 v1018 1 fun v1019 =>
xAt v1019 fun a1020 =>
XLd w1003.drew a1020 fun v1021 =>
K (.tuple #[v1021, (.bool true)]) (w1003.drew))
theorem W_wide_Board_Get {a0 a1 : Value} {K : Value → World → Prop} {w : World} (h : S_wide_Board_Get a0 a1 K w) : Ret P n_wide_Board_Get [a0, a1] w K :=
  vcF_of mixed Tryz.func164 (show S_wide_Board_Get a0 a1 K w = vcF P Tryz.f164 [a0, a1] w K from by kernel_rfl) h
/- (*spunyarn/kids.Kids[*spunyarn/node.Node]).Copy -/
abbrev S_kids_Kids_Copy (a0 : Value) (K : Value → World → Prop) (w0 : World) : Prop :=
Ret P n_kids_Kids_ok [a0] w0 fun v1000 w1001 =>
xNot v1000 fun v1002 =>
xIf v1002 (K (.pointer none) w1001) (xAt a0 fun a1003 =>
XLd w1001.drew (a1003.add 0) fun v1004 =>
xAt a0 fun a1005 =>
XLd w1001.drew (a1005.add 1) fun v1006 =>
Ret P n_small_Row_Copy [v1004] w1001.drew fun v1007 w1008 =>
xKeep1 w1008 (.pointer (some (a1005.add 1))) v1006 ∧ (Ret P n_wide_Board_Copy [v1006] w1008 fun v1009 w1010 =>
xFill [(.pointer none), (.pointer none)] [(0, 1, v1007), (1, 1, v1009)] fun c1011 =>
XNew w1010 (cellsV (.agg c1011.toArray)) 181 fun a1012 w1013 =>
K (.pointer (some a1012)) w1013))
theorem W_kids_Kids_Copy {a0 : Value} {K : Value → World → Prop} {w : World} (h : S_kids_Kids_Copy a0 K w) : Ret P n_kids_Kids_Copy [a0] w K :=
  vcF_of mixed Tryz.func165 (show S_kids_Kids_Copy a0 K w = vcF P Tryz.f165 [a0] w K from by kernel_rfl) h
/- (*spunyarn/kids.Kids[*spunyarn/node.Node]).Drop -/
abbrev S_kids_Kids_Drop (a0 : Value) (a1 : Value) (K : Value → World → Prop) (w0 : World) : Prop :=
Ret P n_kids_Kids_ok [a0] w0 fun v1000 w1001 =>
xNot v1000 fun v1002 =>
xIf v1002 (K (.int .i64 2) w1001) (/- 0 e -/ XJ (fun J1003 =>
xAt a0 fun a1007 =>
XLd w1001 (a1007.add 0) fun v1008 =>
xPNe P w1001 v1008 (.pointer none) fun v1009 =>
xIf v1009 (xAt a0 fun a1010 =>
XLd w1001 (a1010.add 0) fun v1011 =>
Ret P n_small_Row_Drop [v1011, a1] w1001 fun v1012 w1013 =>
J1003 [v1012] w1013) (xAt a0 fun a1014 =>
XLd w1001 (a1014.add 1) fun v1015 =>
Ret P n_wide_Board_Drop [v1015, a1] w1001 fun v1016 w1017 =>
J1003 [v1016] w1017)) fun vs1004 g1005 w1006 =>
/- 0 kind -/ XJ (fun J1018 =>
Ret P n_kids_Kids_Len [a0] w1006 fun v1022 w1023 =>
Ret P n_kids_KindOf [v1022] w1023 fun v1024 w1025 =>
Ret P n_kids_Kids_Kind [a0] w1025 fun v1026 w1027 =>
xNe v1024 v1026 fun v1028 =>
xIf v1028 (Ret P n_kids_move_Node [a0, v1024] w1027 fun v1029 w1030 =>
J1018 [v1024] w1030) (J1018 [v1024] w1027)) fun vs1019 g1020 w1021 =>
K (vs1004.getD 0 undef) w1021)
theorem W_kids_Kids_Drop {a0 a1 : Value} {K : Value → World → Prop} {w : World} (h : S_kids_Kids_Drop a0 a1 K w) : Ret P n_kids_Kids_Drop [a0, a1] w K :=
  vcF_of mixed Tryz.func166 (show S_kids_Kids_Drop a0 a1 K w = vcF P Tryz.f166 [a0, a1] w K from by kernel_rfl) h
/- (*spunyarn/small.Row[*spunyarn/node.Node]).place -/
abbrev S_small_Row_place (a0 : Value) (a1 : Value) (K : Value → World → Prop) (w0 : World) : Prop :=
xAt a0 fun a1000 =>
xAt a0 fun a1001 =>
XLd w0.drew (a1001.add 1) fun v1002 =>
xCutA 16 1 (.pointer (some (a1000.add 2))) none (some v1002) none fun v1003 =>
Ret P n_slices_BinarySearch_byte [v1003, a1] w0.drew fun v1004 w1005 =>
xTup v1004 0 fun v1006 =>
xTup v1004 1 fun v1007 =>
K (.tuple #[v1006, v1007]) w1005
theorem W_small_Row_place {a0 a1 : Value} {K : Value → World → Prop} {w : World} (h : S_small_Row_place a0 a1 K w) : Ret P n_small_Row_place [a0, a1] w K :=
  vcF_of mixed Tryz.func167 (show S_small_Row_place a0 a1 K w = vcF P Tryz.f167 [a0, a1] w K from by kernel_rfl) h
/- (*spunyarn/small.Row[*spunyarn/node.Node]).at -/
abbrev S_small_Row_at (a0 : Value) (a1 : Value) (K : Value → World → Prop) (w0 : World) : Prop :=
/- 0 -/ XJ (fun J1000 =>
xLt a1 (.int .i64 0) fun v1004 =>
xIf v1004 (J1000 [(.bool true)] w0) (xAt a0 fun a1005 =>
XLd w0 (a1005.add 1) fun v1006 =>
xGe a1 v1006 fun v1007 =>
J1000 [v1007] w0)) fun vs1001 g1002 w1003 =>
xIf (vs1001.getD 0 undef) (K (.tuple #[(.int .u8 0), (.pointer none), (.bool false)]) w1003) (xAt a0 fun a1008 =>
xIxA (.pointer (some (a1008.add 2))) a1 16 1 fun v1009 =>
xAt v1009 fun a1010 =>
XLd w1003.drew a1010 fun v1011 =>
xAt a0 fun a1012 =>
xIxA (.pointer (some (a1012.add 18))) a1 16 1 fun v1013 =>
xAt v1013 fun a1014 =>
XLd w1003.drew a1014 fun v1015 =>
xKeep1 w1003.drew v1013 v1015 ∧ (K (.tuple #[v1011, v1015, (.bool true)]) (w1003.drew)))
theorem W_small_Row_at {a0 a1 : Value} {K : Value → World → Prop} {w : World} (h : S_small_Row_at a0 a1 K w) : Ret P n_small_Row_at [a0, a1] w K :=
  vcF_of mixed Tryz.func168 (show S_small_Row_at a0 a1 K w = vcF P Tryz.f168 [a0, a1] w K from by kernel_rfl) h
/- internal/strconv.log10Pow2 -/
abbrev S_istrconv_log10Pow2 (a0 : Value) (K : Value → World → Prop) (w0 : World) : Prop :=
xMul a0 (.int .i64 78913) fun v1000 =>
xShr v1000 (.int .u64 18) fun v1001 =>
K v1001 w0
theorem W_istrconv_log10Pow2 {a0 : Value} {K : Value → World → Prop} {w : World} (h : S_istrconv_log10Pow2 a0 K w) : Ret P n_istrconv_log10Pow2 [a0] w K :=
  vcF_of mixed Tryz.func169 (show S_istrconv_log10Pow2 a0 K w = vcF P Tryz.f169 [a0] w K from by kernel_rfl) h
/- math/bits.Len64 -/
abbrev S_bits_Len64 (a0 : Value) (K : Value → World → Prop) (w0 : World) : Prop :=
/- 0 x 1 n -/ XJ (fun J1000 =>
xGe a0 (.int .u64 4294967296) fun v1004 =>
xIf v1004 (xShr a0 (.int .u64 32) fun v1005 =>
J1000 [v1005, (.int .i64 32)] w0) (J1000 [a0, (.int .i64 0)] w0)) fun vs1001 g1002 w1003 =>
/- 0 x 1 n -/ XJ (fun J1006 =>
xGe (vs1001.getD 0 undef) (.int .u64 65536) fun v1010 =>
xIf v1010 (xShr (vs1001.getD 0 undef) (.int .u64 16) fun v1011 =>
xAdd (vs1001.getD 1 undef) (.int .i64 16) fun v1012 =>
J1006 [v1011, v1012] w1003) (J1006 [(vs1001.getD 0 undef), (vs1001.getD 1 undef)] w1003)) fun vs1007 g1008 w1009 =>
/- 0 x 1 n -/ XJ (fun J1013 =>
xGe (vs1007.getD 0 undef) (.int .u64 256) fun v1017 =>
xIf v1017 (xShr (vs1007.getD 0 undef) (.int .u64 8) fun v1018 =>
xAdd (vs1007.getD 1 undef) (.int .i64 8) fun v1019 =>
J1013 [v1018, v1019] w1009) (J1013 [(vs1007.getD 0 undef), (vs1007.getD 1 undef)] w1009)) fun vs1014 g1015 w1016 =>
xConv .u8 (vs1014.getD 0 undef) fun v1020 =>
xIxStr (.string ⟨#[0, 1, 2, 2, 3, 3, 3, 3, 4, 4, 4, 4, 4, 4, 4, 4, 5, 5, 5, 5, 5, 5, 5, 5, 5, 5, 5, 5, 5, 5, 5, 5, 6, 6, 6, 6, 6, 6, 6, 6, 6, 6, 6, 6, 6, 6, 6, 6, 6, 6, 6, 6, 6, 6, 6, 6, 6, 6, 6, 6, 6, 6, 6, 6, 7, 7, 7, 7, 7, 7, 7, 7, 7, 7, 7, 7, 7, 7, 7, 7, 7, 7, 7, 7, 7, 7, 7, 7, 7, 7, 7, 7, 7, 7, 7, 7, 7, 7, 7, 7, 7, 7, 7, 7, 7, 7, 7, 7, 7, 7, 7, 7, 7, 7, 7, 7, 7, 7, 7, 7, 7, 7, 7, 7, 7, 7, 7, 7, 8, 8, 8, 8, 8, 8, 8, 8, 8, 8, 8, 8, 8, 8, 8, 8, 8, 8, 8, 8, 8, 8, 8, 8, 8, 8, 8, 8, 8, 8, 8, 8, 8, 8, 8, 8, 8, 8, 8, 8, 8, 8, 8, 8, 8, 8, 8, 8, 8, 8, 8, 8, 8, 8, 8, 8, 8, 8, 8, 8, 8, 8, 8, 8, 8, 8, 8, 8, 8, 8, 8, 8, 8, 8, 8, 8, 8, 8, 8, 8, 8, 8, 8, 8, 8, 8, 8, 8, 8, 8, 8, 8, 8, 8, 8, 8, 8, 8, 8, 8, 8, 8, 8, 8, 8, 8, 8, 8, 8, 8, 8, 8, 8, 8, 8, 8, 8, 8, 8, 8, 8, 8, 8, 8, 8, 8, 8, 8]⟩) v1020 fun v1021 =>
xConv .i64 v1021 fun v1022 =>
xAdd (vs1014.getD 1 undef) v1022 fun v1023 =>
K v1023 w1016
theorem W_bits_Len64 {a0 : Value} {K : Value → World → Prop} {w : World} (h : S_bits_Len64 a0 K w) : Ret P n_bits_Len64 [a0] w K :=
  vcF_of mixed Tryz.func170 (show S_bits_Len64 a0 K w = vcF P Tryz.f170 [a0] w K from by kernel_rfl) h
/- internal/strconv.bool2[int] -/
abbrev S_istrconv_bool2_int (a0 : Value) (K : Value → World → Prop) (w0 : World) : Prop :=
xIf a0 (K (.int .i64 1) w0) (K (.int .i64 0) w0)
theorem W_istrconv_bool2_int {a0 : Value} {K : Value → World → Prop} {w : World} (h : S_istrconv_bool2_int a0 K w) : Ret P n_istrconv_bool2_int [a0] w K :=
  vcF_of mixed Tryz.func171 (show S_istrconv_bool2_int a0 K w = vcF P Tryz.f171 [a0] w K from by kernel_rfl) h
/- internal/strconv.isPowerOfTwo -/
abbrev S_istrconv_isPowerOfTwo (a0 : Value) (K : Value → World → Prop) (w0 : World) : Prop :=
xSub a0 (.int .i64 1) fun v1000 =>
xAnd a0 v1000 fun v1001 =>
xEq v1001 (.int .i64 0) fun v1002 =>
K v1002 w0
theorem W_istrconv_isPowerOfTwo {a0 : Value} {K : Value → World → Prop} {w : World} (h : S_istrconv_isPowerOfTwo a0 K w) : Ret P n_istrconv_isPowerOfTwo [a0] w K :=
  vcF_of mixed Tryz.func172 (show S_istrconv_isPowerOfTwo a0 K w = vcF P Tryz.f172 [a0] w K from by kernel_rfl) h
/- math/bits.TrailingZeros -/
abbrev S_bits_TrailingZeros (a0 : Value) (K : Value → World → Prop) (w0 : World) : Prop :=
Ret P n_bits_TrailingZeros64 [a0] w0 fun v1000 w1001 =>
K v1000 w1001
theorem W_bits_TrailingZeros {a0 : Value} {K : Value → World → Prop} {w : World} (h : S_bits_TrailingZeros a0 K w) : Ret P n_bits_TrailingZeros [a0] w K :=
  vcF_of mixed Tryz.func173 (show S_bits_TrailingZeros a0 K w = vcF P Tryz.f173 [a0] w K from by kernel_rfl) h
/- spunyarn/del.may -/
abbrev S_del_may (a0 : Value) (a1 : Value) (a2 : Value) (K : Value → World → Prop) (w0 : World) : Prop :=
Ret P n_del_check [a1] w0 fun v1000 w1001 =>
/- 0 -/ XJ (fun J1002 =>
xEq a2 (.int .u64 0) fun v1006 =>
xIf v1006 (J1002 [(.bool true)] w1001) (xEq v1000 (.int .i64 1) fun v1007 =>
J1002 [v1007] w1001)) fun vs1003 g1004 w1005 =>
xIf (vs1003.getD 0 undef) (K (.int .i64 1) w1005) (xPEq P w1005 a0 (.pointer none) fun v1008 =>
xIf v1008 (K (.int .i64 2) w1005) (Ret P n_node_Node_Kind [a0] w1005 fun v1009 w1010 =>
xEq v1009 (.int .i64 1) fun v1011 =>
xIf v1011 (K (.int .i64 9) w1010) (K v1000 w1010)))
theorem W_del_may {a0 a1 a2 : Value} {K : Value → World → Prop} {w : World} (h : S_del_may a0 a1 a2 K w) : Ret P n_del_may [a0, a1, a2] w K :=
  vcF_of mixed Tryz.func174 (show S_del_may a0 a1 a2 K w = vcF P Tryz.f174 [a0, a1, a2] w K from by kernel_rfl) h
/- spunyarn/del.just -/
/- S_del_just_l1: 0=slot 38 1=slot 8 -/
def S_del_just_l1 (K : Value → World → Prop) (a0 : Value) (a3 : Value) (v1018 : Value) (I1019 : Nat → List Value → World → Prop) (n1020 : Nat) (vs1021 : List Value) (g1022 : Nat → Value) (w1023 : World) : Prop :=
xLt (vs1021.getD 0 undef) v1018 fun v1024 =>
xIf v1024 (xIxS a3 (vs1021.getD 0 undef) 2 fun v1025 =>
xAt v1025 fun a1026 =>
XLdN w1023 a1026 2 fun v1027 =>
XNew w1023 [(.int .u8 0), (.pointer none)] 169 fun a1028 w1029 =>
XDo P (storeVar 169 a1028 v1027) w1029 fun w1030 =>
XLd w1030.drew (a1028.add 0) fun v1031 =>
XLd w1030.drew (a1028.add 1) fun v1032 =>
Ret P n_node_Node_Kid [a0, v1031] w1030.drew fun v1033 w1034 =>
xKeep1 w1034 (.pointer (some (a1028.add 1))) v1032 ∧ (xPNe P w1034 v1033 v1032 fun v1035 =>
xIf v1035 (K (.bool false) w1034) (xAdd (vs1021.getD 0 undef) (.int .i64 1) fun v1036 =>
XNext I1019 n1020 [v1036, (vs1021.getD 1 undef)] w1034))) (K (.bool true) w1023)
abbrev S_del_just (a0 : Value) (a1 : Value) (a2 : Value) (a3 : Value) (K : Value → World → Prop) (w0 : World) : Prop :=
Ret P n_node_Node_Val [a0] w0 fun v1000 w1001 =>
xTup v1000 0 fun v1002 =>
xTup v1000 1 fun v1003 =>
/- 0 -/ XJ (fun J1004 =>
xBNe v1003 a1 fun v1008 =>
xIf v1008 (J1004 [(.bool true)] w1001) (xIf v1003 (xNe v1002 a2 fun v1009 =>
xIf v1009 (J1004 [(.bool true)] w1001) (Ret P n_node_Node_Len [a0] w1001 fun v1010 w1011 =>
xLen a3 fun v1012 =>
xNe v1010 v1012 fun v1013 =>
J1004 [v1013] w1011)) (Ret P n_node_Node_Len [a0] w1001 fun v1014 w1015 =>
xLen a3 fun v1016 =>
xNe v1014 v1016 fun v1017 =>
J1004 [v1017] w1015))) fun vs1005 g1006 w1007 =>
xIf (vs1005.getD 0 undef) (K (.bool false) w1007) (xLen a3 fun v1018 =>
XLoop [(.int .i64 0), (.bool false)] w1007 (S_del_just_l1 K a0 a3 v1018))
theorem W_del_just {a0 a1 a2 a3 : Value} {K : Value → World → Prop} {w : World} (h : S_del_just a0 a1 a2 a3 K w) : Ret P n_del_just [a0, a1, a2, a3] w K :=
  vcF_of mixed Tryz.func175 (show S_del_just a0 a1 a2 a3 K w = vcF P Tryz.f175 [a0, a1, a2, a3] w K from by kernel_rfl) h
/- spunyarn/small.New[*spunyarn/node.Node] -/
abbrev S_small_New_Node (a0 : Value) (K : Value → World → Prop) (w0 : World) : Prop :=
/- 0 -/ XJ (fun J1000 =>
xLt a0 (.int .i64 1) fun v1004 =>
xIf v1004 (J1000 [(.bool true)] w0) (xGt a0 (.int .i64 16) fun v1005 =>
J1000 [v1005] w0)) fun vs1001 g1002 w1003 =>
xIf (vs1001.getD 0 undef) (K (.tuple #[(.pointer none), (.int .i64 1)]) w1003) (xFill z_small_Row [(0, 1, a0)] fun c1006 =>
XNew w1003 (cellsV (.agg c1006.toArray)) 204 fun a1007 w1008 =>
K (.tuple #[(.pointer (some a1007)), (.int .i64 0)]) w1008)
theorem W_small_New_Node {a0 : Value} {K : Value → World → Prop} {w : World} (h : S_small_New_Node a0 K w) : Ret P n_small_New_Node [a0] w K :=
  vcF_of mixed Tryz.func178 (show S_small_New_Node a0 K w = vcF P Tryz.f178 [a0] w K from by kernel_rfl) h
/- spunyarn/wide.New[*spunyarn/node.Node] -/
abbrev S_wide_New_Node (a0 : Value) (K : Value → World → Prop) (w0 : World) : Prop :=
/- 0 -/ XJ (fun J1000 =>
xNe a0 (.int .i64 48) fun v1004 =>
xIf v1004 (xNe a0 (.int .i64 256) fun v1005 =>
J1000 [v1005] w0) (J1000 [(.bool false)] w0)) fun vs1001 g1002 w1003 =>
xIf (vs1001.getD 0 undef) (K (.tuple #[(.pointer none), (.int .i64 1)]) w1003) (xFill z_wide_Board [(0, 1, a0)] fun c1006 =>
XNew w1003 (cellsV (.agg c1006.toArray)) 210 fun a1007 w1008 =>
K (.tuple #[(.pointer (some a1007)), (.int .i64 0)]) w1008)
theorem W_wide_New_Node {a0 : Value} {K : Value → World → Prop} {w : World} (h : S_wide_New_Node a0 K w) : Ret P n_wide_New_Node [a0] w K :=
  vcF_of mixed Tryz.func179 (show S_wide_New_Node a0 K w = vcF P Tryz.f179 [a0] w K from by kernel_rfl) h
/- (*spunyarn/small.Row[*spunyarn/node.Node]).Set -/
abbrev S_small_Row_Set (a0 : Value) (a1 : Value) (a2 : Value) (K : Value → World → Prop) (w0 : World) : Prop :=
Ret P n_small_Row_ok [a0] w0 fun v1000 w1001 =>
xNot v1000 fun v1002 =>
xIf v1002 (K (.int .i64 2) w1001) (Ret P n_small_Row_place [a0, a1] w1001 fun v1003 w1004 =>
xTup v1003 0 fun v1005 =>
xTup v1003 1 fun v1006 =>
xIf v1006 (xAt a0 fun a1007 =>
xIxA (.pointer (some (a1007.add 18))) v1005 16 1 fun v1008 =>
xAt v1008 fun a1010 =>
XSt w1004 a1010 a2 fun w1009 =>
K (.int .i64 0) w1009) (xAt a0 fun a1011 =>
XLd w1004.drew (a1011.add 1) fun v1012 =>
xAt a0 fun a1013 =>
XLd w1004.drew (a1013.add 0) fun v1014 =>
xEq v1012 v1014 fun v1015 =>
xIf v1015 (K (.int .i64 10) (w1004.drew)) (xAt a0 fun a1016 =>
xAdd v1005 (.int .i64 1) fun v1017 =>
xCutA 16 1 (.pointer (some (a1016.add 2))) (some v1017) none none fun v1018 =>
xAt a0 fun a1019 =>
xAt a0 fun a1020 =>
XLd w1004.drew.drew (a1020.add 1) fun v1021 =>
xCutA 16 1 (.pointer (some (a1019.add 2))) (some v1005) (some v1021) none fun v1022 =>
XRun P (Builtin.copy_ #[61, 61] 3 #[v1018, v1022]) w1004.drew.drew fun v1023 w1024 =>
xAt a0 fun a1025 =>
xAdd v1005 (.int .i64 1) fun v1026 =>
xCutA 16 1 (.pointer (some (a1025.add 18))) (some v1026) none none fun v1027 =>
xAt a0 fun a1028 =>
xAt a0 fun a1029 =>
XLd w1024.drew (a1029.add 1) fun v1030 =>
xCutA 16 1 (.pointer (some (a1028.add 18))) (some v1005) (some v1030) none fun v1031 =>
XRun P (Builtin.copy_ #[207, 207] 3 #[v1027, v1031]) w1024.drew fun v1032 w1033 =>
xAt a0 fun a1034 =>
xIxA (.pointer (some (a1034.add 2))) v1005 16 1 fun v1035 =>
xAt a0 fun a1036 =>
xAt v1035 fun a1038 =>
XSt w1033.drew a1038 a1 fun w1037 =>
xIxA (.pointer (some (a1036.add 18))) v1005 16 1 fun v1039 =>
xAt v1039 fun a1041 =>
XSt w1037 a1041 a2 fun w1040 =>
xAt a0 fun a1042 =>
XLd w1040 (a1042.add 1) fun v1043 =>
xAdd v1043 (.int .i64 1) fun v1044 =>
xAt a0 fun a1045 =>
XSt w1040 (a1045.add 1) v1044 fun w1046 =>
K (.int .i64 0) w1046)))
theorem W_small_Row_Set {a0 a1 a2 : Value} {K : Value → World → Prop} {w : World} (h : S_small_Row_Set a0 a1 a2 K w) : Ret P n_small_Row_Set [a0, a1, a2] w K :=
  vcF_of mixed Tryz.func180 (show S_small_Row_Set a0 a1 a2 K w = vcF P Tryz.f180 [a0, a1, a2] w K from by kernel_rfl) h
/- (*spunyarn/wide.Board[*spunyarn/node.Node]).Set -/
abbrev S_wide_Board_Set (a0 : Value) (a1 : Value) (a2 : Value) (K : Value → World → Prop) (w0 : World) : Prop :=
/- 0 1 2 3 -/ XJ (fun J1000 =>
Ret P n_wide_Board_ok [a0] w0 fun v1004 w1005 =>
xNot v1004 fun v1006 =>
xIf v1006 (K (.int .i64 2) w1005) (/- 0 -/ XJ (fun J1007 =>
xAt a0 fun a1011 =>
xIxA (.pointer (some (a1011.add 2))) a1 256 1 fun v1012 =>
xAt v1012 fun a1013 =>
XLd w1005.drew a1013 fun v1014 =>
xEq v1014 (.int .u16 0) fun v1015 =>
xIf v1015 (xAt a0 fun a1016 =>
XLd w1005.drew (a1016.add 1) fun v1017 =>
xAt a0 fun a1018 =>
XLd w1005.drew (a1018.add 0) fun v1019 =>
xEq v1017 v1019 fun v1020 =>
J1007 [v1020] (w1005.drew)) (J1007 [(.bool false)] (w1005.drew))) fun vs1008 g1009 w1010 =>
xIf (vs1008.getD 0 undef) (K (.int .i64 10) w1010) (xAt a0 fun a1021 =>
xIxA (.pointer (some (a1021.add 2))) a1 256 1 fun v1022 =>
xAt v1022 fun a1023 =>
XLd w1010 a1023 fun v1024 =>
xEq v1024 (.int .u16 0) fun v1025 =>
xIf v1025 (xAt a0 fun a1026 =>
Ret P n_wide_Board_place [a0] w1010.drew fun v1027 w1028 =>
xIxA (.pointer (some (a1026.add 2))) a1 256 1 fun v1029 =>
xAt v1029 fun a1031 =>
XSt w1028 a1031 v1027 fun w1030 =>
xAt a0 fun a1032 =>
XLd w1030 (a1032.add 1) fun v1033 =>
xAdd v1033 (.int .i64 1) fun v1034 =>
xAt a0 fun a1035 =>
XSt w1030 (a1035.add 1) v1034 fun w1036 =>
J1000 [v1006, (.int .i64 0), (vs1008.getD 0 undef), v1025] w1036) (J1000 [v1006, (.int .i64 0), (vs1008.getD 0 undef), v1025] w1010)))) fun vs1001 g1002 w1003 =>
xAt a0 fun a1037 =>
XLd w1003.drew (a1037.add 258) fun v1038 =>
xAt a0 fun a1039 =>
xIxA (.pointer (some (a1039.add 2))) a1 256 1 fun v1040 =>
xAt v1040 fun a1041 =>
XLd w1003.drew a1041 fun v1042 =>
xSub v1042 (.int .u16 1) fun v1043 =>
xIxS v1038 v1043 1 fun v1044 =>
xAt v1044 fun a1046 =>
XSt w1003.drew a1046 a2 fun w1045 =>
K (.int .i64 0) w1045
theorem W_wide_Board_Set {a0 a1 a2 : Value} {K : Value → World → Prop} {w : World} (h : S_wide_Board_Set a0 a1 a2 K w) : Ret P n_wide_Board_Set [a0, a1, a2] w K :=
  vcF_of mixed Tryz.func181 (show S_wide_Board_Set a0 a1 a2 K w = vcF P Tryz.f181 [a0, a1, a2] w K from by kernel_rfl) h
/- slices.Concat[[]byte,byte] -/
/- S_slices_Concat_byte_l1: 0=slot 27 1=slot 8 s 2=slot 6 newslice -/
def S_slices_Concat_byte_l1 (K : Value → World → Prop) (a0 : Value) (v1020 : Value) (I1021 : Nat → List Value → World → Prop) (n1022 : Nat) (vs1023 : List Value) (g1024 : Nat → Value) (w1025 : World) : Prop :=
xLt (vs1023.getD 0 undef) v1020 fun v1026 =>
xIf v1026 (xIxS a0 (vs1023.getD 0 undef) 1 fun v1027 =>
xAt v1027 fun a1028 =>
XLd w1025 a1028 fun v1029 =>
XRun P (Builtin.append_ #[61, 61] 61 #[(vs1023.getD 2 undef), v1029]) w1025 fun v1030 w1031 =>
xAdd (vs1023.getD 0 undef) (.int .i64 1) fun v1032 =>
XNext I1021 n1022 [v1032, v1029, v1030] w1031) (K (vs1023.getD 2 undef) w1025)
/- S_slices_Concat_byte_l2: 0=slot 11 1=slot 5 s 2=slot 3 size -/
def S_slices_Concat_byte_l2 (K : Value → World → Prop) (a0 : Value) (v1000 : Value) (I1001 : Nat → List Value → World → Prop) (n1002 : Nat) (vs1003 : List Value) (g1004 : Nat → Value) (w1005 : World) : Prop :=
xLt (vs1003.getD 0 undef) v1000 fun v1006 =>
xIf v1006 (/- 0 s 1 size -/ XJ (fun J1007 =>
xIxS a0 (vs1003.getD 0 undef) 1 fun v1011 =>
xAt v1011 fun a1012 =>
XLd w1005 a1012 fun v1013 =>
xLen v1013 fun v1014 =>
xAdd (vs1003.getD 2 undef) v1014 fun v1015 =>
xLt v1015 (.int .i64 0) fun v1016 =>
xIf v1016 (False) (J1007 [v1013, v1015] w1005)) fun vs1008 g1009 w1010 =>
xAdd (vs1003.getD 0 undef) (.int .i64 1) fun v1017 =>
XNext I1001 n1002 [v1017, (vs1008.getD 0 undef), (vs1008.getD 1 undef)] w1010) (Ret P n_slices_Grow_byte [(.slice none 0 0), (vs1003.getD 2 undef)] w1005 fun v1018 w1019 =>
xLen a0 fun v1020 =>
XLoop [(.int .i64 0), undef, v1018] w1019 (S_slices_Concat_byte_l1 K a0 v1020))
abbrev S_slices_Concat_byte (a0 : Value) (K : Value → World → Prop) (w0 : World) : Prop :=
xLen a0 fun v1000 =>
XLoop [(.int .i64 0), undef, (.int .i64 0)] w0 (S_slices_Concat_byte_l2 K a0 v1000)
theorem W_slices_Concat_byte {a0 : Value} {K : Value → World → Prop} {w : World} (h : S_slices_Concat_byte a0 K w) : Ret P n_slices_Concat_byte [a0] w K :=
  vcF_of mixed Tryz.func182 (show S_slices_Concat_byte a0 K w = vcF P Tryz.f182 [a0] w K from by kernel_rfl) h
/- (*spunyarn/small.Row[*spunyarn/node.Node]).Copy -/
abbrev S_small_Row_Copy (a0 : Value) (K : Value → World → Prop) (w0 : World) : Prop :=
Ret P n_small_Row_ok [a0] w0 fun v1000 w1001 =>
xNot v1000 fun v1002 =>
xIf v1002 (K (.pointer none) w1001) (xAt a0 fun a1003 =>
XLdN w1001 a1003 34 fun v1004 =>
XNew w1001 z_small_Row 204 fun a1005 w1006 =>
XDo P (storeVar 204 a1005 v1004) w1006 fun w1007 =>
K (.pointer (some a1005)) w1007)
theorem W_small_Row_Copy {a0 : Value} {K : Value → World → Prop} {w : World} (h : S_small_Row_Copy a0 K w) : Ret P n_small_Row_Copy [a0] w K :=
  vcF_of mixed Tryz.func183 (show S_small_Row_Copy a0 K w = vcF P Tryz.f183 [a0] w K from by kernel_rfl) h
/- (*spunyarn/wide.Board[*spunyarn/node.Node]).Copy -/
abbrev S_wide_Board_Copy (a0 : Value) (K : Value → World → Prop) (w0 : World) : Prop :=
Ret P n_wide_Board_ok [a0] w0 fun v1000 w1001 =>
xNot v1000 fun v1002 =>
xIf v1002 (K (.pointer none) w1001) (xAt a0 fun a1003 =>
XLdN w1001 a1003 260 fun v1004 =>
XNew w1001 z_wide_Board 210 fun a1005 w1006 =>
XDo P (storeVar 210 a1005 v1004) w1006 fun w1007 =>
xAt a0 fun a1008 =>
XLd w1007.drew (a1008.add 258) fun v1009 =>
xAt a0 fun a1010 =>
XLd w1007.drew (a1010.add 259) fun v1011 =>
Ret P n_slices_Clone_Node [v1009] w1007.drew fun v1012 w1013 =>
xKeep1 w1013 (.pointer (some (a1010.add 259))) v1011 ∧ (Ret P n_slices_Clone_uint16 [v1011] w1013 fun v1014 w1015 =>
XSt w1015 (a1005.add 258) v1012 fun w1016 =>
XSt w1016 (a1005.add 259) v1014 fun w1017 =>
K (.pointer (some a1005)) w1017))
theorem W_wide_Board_Copy {a0 : Value} {K : Value → World → Prop} {w : World} (h : S_wide_Board_Copy a0 K w) : Ret P n_wide_Board_Copy [a0] w K :=
  vcF_of mixed Tryz.func184 (show S_wide_Board_Copy a0 K w = vcF P Tryz.f184 [a0] w K from by kernel_rfl) h
end Go.Proofs.YtbgfmgkimccbeaaGreatDoor
