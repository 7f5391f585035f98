/-  Written by gen.py for this claim: of each function a form without frames, the same as the engine's condition by reckoning.  -/
import Derived.Test.YtbleadagnpckbaaGreatDoorSN
import Derived.Test.YtbleadagnpckbaaGreatDoorProg
namespace Go.Proofs.YtbleadagnpckbaaGreatDoor
open Go X
set_option linter.unusedVariables false
set_option maxRecDepth 100000
/- (*spunyarn/trans.Trans).Frozen -/
abbrev S_trans_Trans_Frozen (a0 : Value) (K : Value → World → Prop) (w0 : World) : Prop :=
/- 0 -/ XJ (fun J1000 =>
xPNe P w0 a0 (.pointer none) fun v1004 =>
xIf v1004 (xAt a0 fun a1005 =>
XLd w0 (a1005.add 4) fun v1006 =>
J1000 [v1006] w0) (J1000 [(.bool false)] w0)) fun vs1001 g1002 w1003 =>
K (vs1001.getD 0 undef) w1003
theorem W_trans_Trans_Frozen {a0 : Value} {K : Value → World → Prop} {w : World} (h : S_trans_Trans_Frozen a0 K w) : Ret P n_trans_Trans_Frozen [a0] w K :=
  vcF_of mixed Tryz.func94 (show S_trans_Trans_Frozen a0 K w = vcF P Tryz.f94 [a0] w K from by kernel_rfl) h
/- (*spunyarn/spunyarnlaw20.world).step -/
abbrev S_law20_world_step (a0 : Value) (a1 : Value) (K : Value → World → Prop) (w0 : World) : Prop :=
XNew w0 (cellsV a1) 163 fun a1000 w1001 =>
XLd w1001.drew (a1000.add 1) fun v1002 =>
xConv .i64 v1002 fun v1003 =>
xAt a0 fun a1004 =>
XLd w1001.drew (a1004.add 0) fun v1005 =>
xLen v1005 fun v1006 =>
xRem v1003 v1006 fun v1007 =>
/- 0 -/ XJ (fun J1008 =>
XLd w1001.drew (a1000.add 0) fun v1012 =>
xRem v1012 (.int .u8 6) fun v1013 =>
xEq v1013 (.int .u8 0) fun v1014 =>
xIf v1014 (J1008 [(.bool true)] (w1001.drew)) (xAt a0 fun a1015 =>
XLd w1001.drew (a1015.add 2) fun v1016 =>
xLen v1016 fun v1017 =>
xEq v1017 (.int .i64 0) fun v1018 =>
J1008 [v1018] (w1001.drew))) fun vs1009 g1010 w1011 =>
xIf (vs1009.getD 0 undef) (Ret P n_law20_world_edit [a0, v1007] w1011 fun v1019 w1020 =>
K v1019 w1020) (XLd w1011.drew (a1000.add 2) fun v1021 =>
xConv .i64 v1021 fun v1022 =>
xAt a0 fun a1023 =>
XLd w1011.drew (a1023.add 2) fun v1024 =>
xLen v1024 fun v1025 =>
xRem v1022 v1025 fun v1026 =>
XLd w1011.drew (a1000.add 0) fun v1027 =>
xRem v1027 (.int .u8 6) fun v1028 =>
xEq v1028 (.int .u8 3) fun v1029 =>
xIf v1029 (Ret P n_law20_world_freeze [a0, v1026] w1011.drew fun v1030 w1031 =>
K v1030 w1031) (xEq v1028 (.int .u8 4) fun v1032 =>
xIf v1032 (xAt a0 fun a1033 =>
XLd w1011.drew.drew (a1033.add 0) fun v1034 =>
xIxS v1034 v1007 1 fun v1035 =>
xAt v1035 fun a1036 =>
XLd w1011.drew.drew a1036 fun v1037 =>
XLd w1011.drew.drew (a1000.add 3) fun v1038 =>
XLd w1011.drew.drew (a1000.add 4) fun v1039 =>
Ret P n_tree_Version_Put [v1037, v1038, v1039] w1011.drew.drew fun v1040 w1041 =>
xTup v1040 0 fun v1042 =>
xTup v1040 1 fun v1043 =>
xAt a0 fun a1044 =>
XLd w1041.drew (a1044.add 0) fun v1045 =>
xAt a0 fun a1046 =>
XLd w1041.drew (a1046.add 1) fun v1047 =>
xAt a0 fun a1048 =>
XLd w1041.drew (a1048.add 1) fun v1049 =>
xIxS v1049 v1007 1 fun v1050 =>
xAt v1050 fun a1051 =>
XLd w1041.drew a1051 fun v1052 =>
XLd w1041.drew (a1000.add 3) fun v1053 =>
XLd w1041.drew (a1000.add 4) fun v1054 =>
xFill (repL [(.pointer none)] 1) [(0, 1, v1042)] fun c1055 =>
XNew w1041.drew c1055 88 fun a1056 w1057 =>
xKeep1 w1057 (.pointer (some (a1000.add 4))) v1054 ∧ (xKeep1 w1057 (.pointer (some (a1000.add 3))) v1053 ∧ (xKeep1 w1057 v1050 v1052 ∧ (xKeep1 w1057 (.pointer (some (a1048.add 1))) v1049 ∧ (xKeep1 w1057 (.pointer (some (a1046.add 1))) v1047 ∧ (xKeep1 w1057 (.pointer (some (a1044.add 0))) v1045 ∧ (XRun P (Builtin.append_ #[145, 145] 145 #[v1045, (.slice (some a1056) 1 1)]) w1057 fun v1058 w1059 =>
xKeep1 w1059 (.pointer (some (a1000.add 4))) v1054 ∧ (xKeep1 w1059 (.pointer (some (a1000.add 3))) v1053 ∧ (xKeep1 w1059 v1050 v1052 ∧ (xKeep1 w1059 (.pointer (some (a1048.add 1))) v1049 ∧ (xKeep1 w1059 (.pointer (some (a1046.add 1))) v1047 ∧ (Ret P n_ref15_Put [v1052, v1053, v1054] w1059 fun v1060 w1061 =>
xKeep1 w1061 (.pointer (some (a1046.add 1))) v1047 ∧ (xFill (repL [(.slice none 0 0)] 1) [(0, 1, v1060)] fun c1062 =>
XNew w1061 c1062 33 fun a1063 w1064 =>
xKeep1 w1064 (.pointer (some (a1046.add 1))) v1047 ∧ (XRun P (Builtin.append_ #[158, 158] 158 #[v1047, (.slice (some a1063) 1 1)]) w1064 fun v1065 w1066 =>
xAt a0 fun a1067 =>
XSt w1066 (a1067.add 0) v1058 fun w1068 =>
xAt a0 fun a1069 =>
XSt w1068 (a1069.add 1) v1065 fun w1070 =>
/- 0 -/ XJ (fun J1071 =>
xEq v1043 (.int .i64 0) fun v1075 =>
xIf v1075 (xPNe P w1070 v1042 (.pointer none) fun v1076 =>
J1071 [v1076] w1070) (J1071 [(.bool false)] w1070)) fun vs1072 g1073 w1074 =>
K (vs1072.getD 0 undef) w1074)))))))))))))) (XLdN w1011.drew a1000 5 fun v1077 =>
Ret P n_law20_world_write [a0, v1026, v1077] w1011.drew fun v1078 w1079 =>
K v1078 w1079)))
theorem W_law20_world_step {a0 a1 : Value} {K : Value → World → Prop} {w : World} (h : S_law20_world_step a0 a1 K w) : Ret P n_law20_world_step [a0, a1] w K :=
  vcF_of mixed Tryz.func95 (show S_law20_world_step a0 a1 K w = vcF P Tryz.f95 [a0, a1] w K from by kernel_rfl) h
/- (*spunyarn/spunyarnlaw20.world).as -/
abbrev S_law20_world_as (a0 : Value) (a1 : Value) (a2 : Value) (K : Value → World → Prop) (w0 : World) : Prop :=
xAt a0 fun a1000 =>
XLd w0.drew (a1000.add 2) fun v1001 =>
xIxS v1001 a1 1 fun v1002 =>
xAt v1002 fun a1003 =>
XLd w0.drew a1003 fun v1004 =>
xAt a0 fun a1005 =>
XLd w0.drew (a1005.add 3) fun v1006 =>
xIxS v1006 a1 2 fun v1007 =>
xAt v1007 fun a1008 =>
XLdN w0.drew a1008 2 fun v1009 =>
XNew w0.drew [(.slice none 0 0), (.bool false)] 245 fun a1010 w1011 =>
xKeepN w1011 v1007 v1009 ∧ (xKeep1 w1011 (.pointer (some (a1005.add 3))) v1006 ∧ (xKeep1 w1011 v1002 v1004 ∧ (xKeep1 w1011 (.pointer (some (a1000.add 2))) v1001 ∧ (xKeepN w1011 v1007 v1009 ∧ (xKeep1 w1011 (.pointer (some (a1005.add 3))) v1006 ∧ (XDo P (storeVar 245 a1010 v1009) w1011 fun w1012 =>
Ret P n_trans_Trans_List [v1004] w1012 fun v1013 w1014 =>
xTup v1013 0 fun v1015 =>
xTup v1013 1 fun v1016 =>
Ret P n_trans_Trans_Len [v1004] w1014 fun v1017 w1018 =>
xTup v1017 0 fun v1019 =>
xTup v1017 1 fun v1020 =>
Ret P n_trans_Trans_Get [v1004, a2] w1018 fun v1021 w1022 =>
xTup v1021 0 fun v1023 =>
xTup v1021 1 fun v1024 =>
xTup v1021 2 fun v1025 =>
XLd w1022 (a1010.add 1) fun v1026 =>
xIf v1026 (/- 0 -/ XJ (fun J1027 =>
Ret P n_trans_Trans_Frozen [v1004] w1022 fun v1031 w1032 =>
xIf v1031 (xEq v1016 (.int .i64 11) fun v1033 =>
xIf v1033 (xEq v1020 (.int .i64 11) fun v1034 =>
xIf v1034 (xEq v1025 (.int .i64 11) fun v1035 =>
xIf v1035 (xLen v1015 fun v1036 =>
xAdd v1036 v1019 fun v1037 =>
xEq v1037 (.int .i64 0) fun v1038 =>
xIf v1038 (xEq v1023 (.int .u64 0) fun v1039 =>
xIf v1039 (xNot v1024 fun v1040 =>
J1027 [v1040] w1032) (J1027 [(.bool false)] w1032)) (J1027 [(.bool false)] w1032)) (J1027 [(.bool false)] w1032)) (J1027 [(.bool false)] w1032)) (J1027 [(.bool false)] w1032)) (J1027 [(.bool false)] w1032)) fun vs1028 g1029 w1030 =>
K (vs1028.getD 0 undef) w1030) (XLd w1022 (a1010.add 0) fun v1041 =>
Ret P n_ref14_Get [v1041, a2] w1022 fun v1042 w1043 =>
xTup v1042 0 fun v1044 =>
xTup v1042 1 fun v1045 =>
/- 0 -/ XJ (fun J1046 =>
Ret P n_trans_Trans_Frozen [v1004] w1043 fun v1050 w1051 =>
xNot v1050 fun v1052 =>
xIf v1052 (xEq v1016 (.int .i64 0) fun v1053 =>
xIf v1053 (xEq v1020 (.int .i64 0) fun v1054 =>
xIf v1054 (xEq v1025 (.int .i64 0) fun v1055 =>
xIf v1055 (XLd w1051 (a1010.add 0) fun v1056 =>
Ret P n_law20_same [v1015, v1056] w1051 fun v1057 w1058 =>
xIf v1057 (XLd w1058 (a1010.add 0) fun v1059 =>
xLen v1059 fun v1060 =>
xEq v1019 v1060 fun v1061 =>
xIf v1061 (xEq v1023 v1044 fun v1062 =>
xIf v1062 (xBEq v1024 v1045 fun v1063 =>
J1046 [v1063] w1058) (J1046 [(.bool false)] w1058)) (J1046 [(.bool false)] w1058)) (J1046 [(.bool false)] w1058)) (J1046 [(.bool false)] w1051)) (J1046 [(.bool false)] w1051)) (J1046 [(.bool false)] w1051)) (J1046 [(.bool false)] w1051)) fun vs1047 g1048 w1049 =>
K (vs1047.getD 0 undef) w1049)))))))
theorem W_law20_world_as {a0 a1 a2 : Value} {K : Value → World → Prop} {w : World} (h : S_law20_world_as a0 a1 a2 K w) : Ret P n_law20_world_as [a0, a1, a2] w K :=
  vcF_of mixed Tryz.func96 (show S_law20_world_as a0 a1 a2 K w = vcF P Tryz.f96 [a0, a1, a2] w K from by kernel_rfl) h
/- spunyarn/spunyarnlaw20.same -/
/- S_law20_same_l1: 0=slot 10 1=slot 5 l -/
def S_law20_same_l1 (K : Value → World → Prop) (a0 : Value) (a1 : Value) (v1000 : Value) (I1001 : Nat → List Value → World → Prop) (n1002 : Nat) (vs1003 : List Value) (g1004 : Nat → Value) (w1005 : World) : Prop :=
xLt (vs1003.getD 0 undef) v1000 fun v1006 =>
xIf v1006 (xIxS a0 (vs1003.getD 0 undef) 2 fun v1007 =>
xAt v1007 fun a1008 =>
XLdN w1005 a1008 2 fun v1009 =>
XNew w1005 [(.slice none 0 0), (.int .u64 0)] 102 fun a1010 w1011 =>
XDo P (storeVar 102 a1010 v1009) w1011 fun w1012 =>
XLdN w1012 a1010 2 fun v1013 =>
xFill (repL [(.slice none 0 0), (.int .u64 0)] 1) [(0, 2, v1013)] fun c1014 =>
XNew w1012 c1014 52 fun a1015 w1016 =>
XRun P (Builtin.append_ #[33, 33] 33 #[(vs1003.getD 1 undef), (.slice (some a1015) 1 1)]) w1016 fun v1017 w1018 =>
xAdd (vs1003.getD 0 undef) (.int .i64 1) fun v1019 =>
XNext I1001 n1002 [v1019, v1017] w1018) (Ret P n_ref19_Same [(vs1003.getD 1 undef), a1] w1005 fun v1020 w1021 =>
K v1020 w1021)
abbrev S_law20_same (a0 : Value) (a1 : Value) (K : Value → World → Prop) (w0 : World) : Prop :=
xLen a0 fun v1000 =>
XLoop [(.int .i64 0), (.slice none 0 0)] w0 (S_law20_same_l1 K a0 a1 v1000)
theorem W_law20_same {a0 a1 : Value} {K : Value → World → Prop} {w : World} (h : S_law20_same a0 a1 K w) : Ret P n_law20_same [a0, a1] w K :=
  vcF_of mixed Tryz.func97 (show S_law20_same a0 a1 K w = vcF P Tryz.f97 [a0, a1] w K from by kernel_rfl) h
/- (*spunyarn/tree.Version).World -/
abbrev S_tree_Version_World (a0 : Value) (K : Value → World → Prop) (w0 : World) : Prop :=
xPEq P w0 a0 (.pointer none) fun v1000 =>
xIf v1000 (K (.pointer none) w0) (xAt a0 fun a1001 =>
XLd w0 (a1001.add 0) fun v1002 =>
K v1002 w0)
theorem W_tree_Version_World {a0 : Value} {K : Value → World → Prop} {w : World} (h : S_tree_Version_World a0 K w) : Ret P n_tree_Version_World [a0] w K :=
  vcF_of mixed Tryz.func98 (show S_tree_Version_World a0 K w = vcF P Tryz.f98 [a0] w K from by kernel_rfl) h
/- (*spunyarn/tree.World).Meter -/
abbrev S_tree_World_Meter (a0 : Value) (K : Value → World → Prop) (w0 : World) : Prop :=
xPEq P w0 a0 (.pointer none) fun v1000 =>
xIf v1000 (K (.pointer none) w0) (xAt a0 fun a1001 =>
K (.pointer (some (a1001.add 0))) w0)
theorem W_tree_World_Meter {a0 : Value} {K : Value → World → Prop} {w : World} (h : S_tree_World_Meter a0 K w) : Ret P n_tree_World_Meter [a0] w K :=
  vcF_of mixed Tryz.func99 (show S_tree_World_Meter a0 K w = vcF P Tryz.f99 [a0] w K from by kernel_rfl) h
/- (*spunyarn/tree.World).Version -/
abbrev S_tree_World_Version (a0 : Value) (a1 : Value) (K : Value → World → Prop) (w0 : World) : Prop :=
xPEq P w0 a0 (.pointer none) fun v1000 =>
xIf v1000 (K (.pointer none) w0) (xFill [(.pointer none), (.pointer none), (.int .u32 0), (.int .i32 0), (.int .u32 0), (.int .i64 0), (.bool false)] [(0, 1, a0), (1, 1, a1)] fun c1001 =>
XNew w0 (cellsV (.agg c1001.toArray)) 144 fun a1002 w1003 =>
K (.pointer (some a1002)) w1003)
theorem W_tree_World_Version {a0 a1 : Value} {K : Value → World → Prop} {w : World} (h : S_tree_World_Version a0 a1 K w) : Ret P n_tree_World_Version [a0, a1] w K :=
  vcF_of mixed Tryz.func100 (show S_tree_World_Version a0 a1 K w = vcF P Tryz.f100 [a0, a1] w K from by kernel_rfl) h
/- (*spunyarn/tree.Version).Strip -/
abbrev S_tree_Version_Strip (a0 : Value) (a1 : Value) (K : Value → World → Prop) (w0 : World) : Prop :=
Ret P n_tree_Version_ok [a0] w0 fun v1000 w1001 =>
xNot v1000 fun v1002 =>
xIf v1002 (K (.tuple #[(.pointer none), (.int .i64 2)]) w1001) (xAt a0 fun a1003 =>
XLd w1001.drew (a1003.add 1) fun v1004 =>
xAt a0 fun a1005 =>
XLd w1001.drew (a1005.add 0) fun v1006 =>
xAt a0 fun a1007 =>
XLd w1001.drew (a1007.add 0) fun v1008 =>
Ret P n_tree_World_Owner [v1006] w1001.drew fun v1009 w1010 =>
xKeep1 w1010 (.pointer (some (a1007.add 0))) v1008 ∧ (xKeep1 w1010 (.pointer (some (a1003.add 1))) v1004 ∧ (Ret P n_tree_World_Meter [v1008] w1010 fun v1011 w1012 =>
xKeep1 w1012 (.pointer (some (a1003.add 1))) v1004 ∧ (Ret P n_sub_Strip [v1004, a1, v1009, v1011] w1012 fun v1013 w1014 =>
xTup v1013 0 fun v1015 =>
xTup v1013 1 fun v1016 =>
Ret P n_tree_Version_now [a0, v1015, v1016] w1014 fun v1017 w1018 =>
xTup v1017 0 fun v1019 =>
xTup v1017 1 fun v1020 =>
K (.tuple #[v1019, v1020]) w1018))))
theorem W_tree_Version_Strip {a0 a1 : Value} {K : Value → World → Prop} {w : World} (h : S_tree_Version_Strip a0 a1 K w) : Ret P n_tree_Version_Strip [a0, a1] w K :=
  vcF_of mixed Tryz.func101 (show S_tree_Version_Strip a0 a1 K w = vcF P Tryz.f101 [a0, a1] w K from by kernel_rfl) h
/- (*spunyarn/tree.Version).Under -/
abbrev S_tree_Version_Under (a0 : Value) (a1 : Value) (K : Value → World → Prop) (w0 : World) : Prop :=
Ret P n_tree_Version_ok [a0] w0 fun v1000 w1001 =>
xNot v1000 fun v1002 =>
xIf v1002 (K (.tuple #[(.pointer none), (.int .i64 2)]) w1001) (xAt a0 fun a1003 =>
XLd w1001.drew (a1003.add 1) fun v1004 =>
xAt a0 fun a1005 =>
XLd w1001.drew (a1005.add 0) fun v1006 =>
xAt a0 fun a1007 =>
XLd w1001.drew (a1007.add 0) fun v1008 =>
Ret P n_tree_World_Owner [v1006] w1001.drew fun v1009 w1010 =>
xKeep1 w1010 (.pointer (some (a1007.add 0))) v1008 ∧ (xKeep1 w1010 (.pointer (some (a1003.add 1))) v1004 ∧ (Ret P n_tree_World_Meter [v1008] w1010 fun v1011 w1012 =>
xKeep1 w1012 (.pointer (some (a1003.add 1))) v1004 ∧ (Ret P n_sub_Under [v1004, a1, v1009, v1011] w1012 fun v1013 w1014 =>
xTup v1013 0 fun v1015 =>
xTup v1013 1 fun v1016 =>
Ret P n_tree_Version_now [a0, v1015, v1016] w1014 fun v1017 w1018 =>
xTup v1017 0 fun v1019 =>
xTup v1017 1 fun v1020 =>
K (.tuple #[v1019, v1020]) w1018))))
theorem W_tree_Version_Under {a0 a1 : Value} {K : Value → World → Prop} {w : World} (h : S_tree_Version_Under a0 a1 K w) : Ret P n_tree_Version_Under [a0, a1] w K :=
  vcF_of mixed Tryz.func102 (show S_tree_Version_Under a0 a1 K w = vcF P Tryz.f102 [a0, a1] w K from by kernel_rfl) h
/- spunyarn/spunyarnlaw19.long -/
/- S_law19_long_l1: 0=slot 11 1=slot 2 -/
def S_law19_long_l1 (K : Value → World → Prop) (a0 : Value) (v1002 : Value) (v1003 : Value) (I1004 : Nat → List Value → World → Prop) (n1005 : Nat) (vs1006 : List Value) (g1007 : Nat → Value) (w1008 : World) : Prop :=
xLt (vs1006.getD 0 undef) v1003 fun v1009 =>
xIf v1009 (xIxS v1002 (vs1006.getD 0 undef) 5 fun v1010 =>
xAt v1010 fun a1011 =>
XLdN w1008 a1011 5 fun v1012 =>
XNew w1008 [(.int .u8 0), (.int .u16 0), (.slice none 0 0), (.int .u64 0), (.slice none 0 0)] 172 fun a1013 w1014 =>
XDo P (storeVar 172 a1013 v1012) w1014 fun w1015 =>
/- 0 -/ XJ (fun J1016 =>
XLd w1015 (a1013.add 2) fun v1020 =>
xLen v1020 fun v1021 =>
xGt v1021 (.int .i64 40) fun v1022 =>
xIf v1022 (J1016 [(.bool true)] w1015) (XLd w1015 (a1013.add 4) fun v1023 =>
Ret P n_law19_far [v1023, (.int .i64 60)] w1015 fun v1024 w1025 =>
J1016 [v1024] w1025)) fun vs1017 g1018 w1019 =>
xIf (vs1017.getD 0 undef) (K (.bool true) w1019) (xAdd (vs1006.getD 0 undef) (.int .i64 1) fun v1026 =>
XNext I1004 n1005 [v1026, (vs1006.getD 1 undef)] w1019)) (xLen a0 fun v1027 =>
xGt v1027 (.int .i64 40) fun v1028 =>
K v1028 w1008)
abbrev S_law19_long (a0 : Value) (K : Value → World → Prop) (w0 : World) : Prop :=
xLen a0 fun v1000 =>
xMin v1000 (.int .i64 40) fun v1001 =>
xCutS 5 a0 none (some v1001) none fun v1002 =>
xLen v1002 fun v1003 =>
XLoop [(.int .i64 0), (.bool false)] w0 (S_law19_long_l1 K a0 v1002 v1003)
theorem W_law19_long {a0 : Value} {K : Value → World → Prop} {w : World} (h : S_law19_long a0 K w) : Ret P n_law19_long [a0] w K :=
  vcF_of mixed Tryz.func103 (show S_law19_long a0 K w = vcF P Tryz.f103 [a0] w K from by kernel_rfl) h
/- spunyarn/spunyarnlaw19.after -/
abbrev S_law19_after (a0 : Value) (a1 : Value) (a2 : Value) (K : Value → World → Prop) (w0 : World) : Prop :=
XNew w0 (cellsV a2) 172 fun a1000 w1001 =>
XLd w1001 (a1000.add 0) fun v1002 =>
xRem v1002 (.int .u8 6) fun v1003 =>
xEq v1003 (.int .u8 0) fun v1004 =>
xIf v1004 (XLd w1001 (a1000.add 4) fun v1005 =>
Ret P n_law19_pairs [v1005] w1001 fun v1006 w1007 =>
Ret P n_tree_World_From [a0, v1006] w1007 fun v1008 w1009 =>
xTup v1008 0 fun v1010 =>
xTup v1008 1 fun v1011 =>
K (.tuple #[v1010, v1011]) w1009) (xEq v1003 (.int .u8 1) fun v1012 =>
xIf v1012 (XLd w1001 (a1000.add 2) fun v1013 =>
XLd w1001 (a1000.add 3) fun v1014 =>
Ret P n_tree_Version_Put [a1, v1013, v1014] w1001 fun v1015 w1016 =>
xTup v1015 0 fun v1017 =>
xTup v1015 1 fun v1018 =>
K (.tuple #[v1017, v1018]) w1016) (xEq v1003 (.int .u8 2) fun v1019 =>
xIf v1019 (XLd w1001 (a1000.add 2) fun v1020 =>
Ret P n_tree_Version_Del [a1, v1020] w1001 fun v1021 w1022 =>
xTup v1021 0 fun v1023 =>
xTup v1021 1 fun v1024 =>
xTup v1021 2 fun v1025 =>
K (.tuple #[v1023, v1025]) w1022) (xEq v1003 (.int .u8 3) fun v1026 =>
xIf v1026 (XLd w1001 (a1000.add 2) fun v1027 =>
Ret P n_tree_Version_Sub [a1, v1027] w1001 fun v1028 w1029 =>
xTup v1028 0 fun v1030 =>
xTup v1028 1 fun v1031 =>
K (.tuple #[v1030, v1031]) w1029) (xEq v1003 (.int .u8 4) fun v1032 =>
xIf v1032 (XLd w1001 (a1000.add 2) fun v1033 =>
Ret P n_tree_Version_Strip [a1, v1033] w1001 fun v1034 w1035 =>
xTup v1034 0 fun v1036 =>
xTup v1034 1 fun v1037 =>
K (.tuple #[v1036, v1037]) w1035) (XLd w1001 (a1000.add 2) fun v1038 =>
Ret P n_tree_Version_Under [a1, v1038] w1001 fun v1039 w1040 =>
xTup v1039 0 fun v1041 =>
xTup v1039 1 fun v1042 =>
K (.tuple #[v1041, v1042]) w1040)))))
theorem W_law19_after {a0 a1 a2 : Value} {K : Value → World → Prop} {w : World} (h : S_law19_after a0 a1 a2 K w) : Ret P n_law19_after [a0, a1, a2] w K :=
  vcF_of mixed Tryz.func104 (show S_law19_after a0 a1 a2 K w = vcF P Tryz.f104 [a0, a1, a2] w K from by kernel_rfl) h
/- spunyarn/spunyarnref19.After -/
abbrev S_ref19_After (a0 : Value) (a1 : Value) (K : Value → World → Prop) (w0 : World) : Prop :=
XNew w0 (cellsV a1) 172 fun a1000 w1001 =>
XLd w1001 (a1000.add 0) fun v1002 =>
xRem v1002 (.int .u8 6) fun v1003 =>
xEq v1003 (.int .u8 0) fun v1004 =>
xIf v1004 (XLd w1001 (a1000.add 4) fun v1005 =>
Ret P n_ref13_Check [v1005] w1001 fun v1006 w1007 =>
xNe v1006 (.int .i64 0) fun v1008 =>
xIf v1008 (K (.tuple #[(.slice none 0 0), v1006]) w1007) (XLd w1007 (a1000.add 4) fun v1009 =>
K (.tuple #[v1009, (.int .i64 0)]) w1007)) (XLd w1001 (a1000.add 0) fun v1010 =>
xRem v1010 (.int .u8 6) fun v1011 =>
xEq v1011 (.int .u8 1) fun v1012 =>
xIf v1012 (XLd w1001 (a1000.add 2) fun v1013 =>
XLd w1001 (a1000.add 3) fun v1014 =>
Ret P n_ref15_Put [a0, v1013, v1014] w1001 fun v1015 w1016 =>
K (.tuple #[v1015, (.int .i64 0)]) w1016) (xEq v1011 (.int .u8 2) fun v1017 =>
xIf v1017 (XLd w1001 (a1000.add 2) fun v1018 =>
Ret P n_ref16_Del [a0, v1018] w1001 fun v1019 w1020 =>
xTup v1019 0 fun v1021 =>
xTup v1019 1 fun v1022 =>
K (.tuple #[v1021, (.int .i64 0)]) w1020) (xEq v1011 (.int .u8 3) fun v1023 =>
xIf v1023 (XLd w1001 (a1000.add 2) fun v1024 =>
Ret P n_ref18_Sub [a0, v1024] w1001 fun v1025 w1026 =>
K (.tuple #[v1025, (.int .i64 0)]) w1026) (xEq v1011 (.int .u8 4) fun v1027 =>
xIf v1027 (XLd w1001 (a1000.add 2) fun v1028 =>
Ret P n_ref18_Strip [a0, v1028] w1001 fun v1029 w1030 =>
K (.tuple #[v1029, (.int .i64 0)]) w1030) (XLd w1001 (a1000.add 2) fun v1031 =>
Ret P n_ref18_Under [a0, v1031] w1001 fun v1032 w1033 =>
xTup v1032 0 fun v1034 =>
xTup v1032 1 fun v1035 =>
K (.tuple #[v1034, v1035]) w1033)))))
theorem W_ref19_After {a0 a1 : Value} {K : Value → World → Prop} {w : World} (h : S_ref19_After a0 a1 K w) : Ret P n_ref19_After [a0, a1] w K :=
  vcF_of mixed Tryz.func105 (show S_ref19_After a0 a1 K w = vcF P Tryz.f105 [a0, a1] w K from by kernel_rfl) h
/- spunyarn/spunyarnlaw19.same -/
/- S_law19_same_l1: 0=slot 10 1=slot 5 l -/
def S_law19_same_l1 (K : Value → World → Prop) (a0 : Value) (a1 : Value) (v1000 : Value) (I1001 : Nat → List Value → World → Prop) (n1002 : Nat) (vs1003 : List Value) (g1004 : Nat → Value) (w1005 : World) : Prop :=
xLt (vs1003.getD 0 undef) v1000 fun v1006 =>
xIf v1006 (xIxS a0 (vs1003.getD 0 undef) 2 fun v1007 =>
xAt v1007 fun a1008 =>
XLdN w1005 a1008 2 fun v1009 =>
XNew w1005 [(.slice none 0 0), (.int .u64 0)] 102 fun a1010 w1011 =>
XDo P (storeVar 102 a1010 v1009) w1011 fun w1012 =>
XLdN w1012 a1010 2 fun v1013 =>
xFill (repL [(.slice none 0 0), (.int .u64 0)] 1) [(0, 2, v1013)] fun c1014 =>
XNew w1012 c1014 52 fun a1015 w1016 =>
XRun P (Builtin.append_ #[33, 33] 33 #[(vs1003.getD 1 undef), (.slice (some a1015) 1 1)]) w1016 fun v1017 w1018 =>
xAdd (vs1003.getD 0 undef) (.int .i64 1) fun v1019 =>
XNext I1001 n1002 [v1019, v1017] w1018) (Ret P n_ref19_Same [(vs1003.getD 1 undef), a1] w1005 fun v1020 w1021 =>
K v1020 w1021)
abbrev S_law19_same (a0 : Value) (a1 : Value) (K : Value → World → Prop) (w0 : World) : Prop :=
xLen a0 fun v1000 =>
XLoop [(.int .i64 0), (.slice none 0 0)] w0 (S_law19_same_l1 K a0 a1 v1000)
theorem W_law19_same {a0 a1 : Value} {K : Value → World → Prop} {w : World} (h : S_law19_same a0 a1 K w) : Ret P n_law19_same [a0, a1] w K :=
  vcF_of mixed Tryz.func106 (show S_law19_same a0 a1 K w = vcF P Tryz.f106 [a0, a1] w K from by kernel_rfl) h
/- spunyarn/union.find -/
abbrev S_union_find (a0 : Value) (K : Value → World → Prop) (w0 : World) : Prop :=
XNew w0 [.nilFunc, (.bool false)] 178 fun a1000 w1001 =>
xEq a0 (.int .i64 1) fun v1002 =>
xIf v1002 (xFill [.nilFunc, (.bool false)] [(0, 1, (.func (.func 170) #[] #[])), (1, 1, (.bool true))] fun c1003 =>
XDo P (storeVar 178 a1000 (.agg c1003.toArray)) w1001 fun w1004 =>
XLdN w1004 a1000 2 fun v1005 =>
K (.tuple #[v1005, (.int .i64 0)]) w1004) (xEq a0 (.int .i64 2) fun v1006 =>
xIf v1006 (xFill [.nilFunc, (.bool false)] [(0, 1, (.func (.func 171) #[] #[])), (1, 1, (.bool true))] fun c1007 =>
XDo P (storeVar 178 a1000 (.agg c1007.toArray)) w1001 fun w1008 =>
XLdN w1008 a1000 2 fun v1009 =>
K (.tuple #[v1009, (.int .i64 0)]) w1008) (xEq a0 (.int .i64 3) fun v1010 =>
xIf v1010 (xFill [.nilFunc, (.bool false)] [(0, 1, (.func (.func 172) #[] #[])), (1, 1, (.bool false))] fun c1011 =>
XDo P (storeVar 178 a1000 (.agg c1011.toArray)) w1001 fun w1012 =>
XLdN w1012 a1000 2 fun v1013 =>
K (.tuple #[v1013, (.int .i64 0)]) w1012) (xEq a0 (.int .i64 4) fun v1014 =>
xIf v1014 (xFill [.nilFunc, (.bool false)] [(0, 1, (.func (.func 173) #[] #[])), (1, 1, (.bool true))] fun c1015 =>
XDo P (storeVar 178 a1000 (.agg c1015.toArray)) w1001 fun w1016 =>
XLdN w1016 a1000 2 fun v1017 =>
K (.tuple #[v1017, (.int .i64 0)]) w1016) (xEq a0 (.int .i64 5) fun v1018 =>
xIf v1018 (xFill [.nilFunc, (.bool false)] [(0, 1, (.func (.func 174) #[] #[])), (1, 1, (.bool true))] fun c1019 =>
XDo P (storeVar 178 a1000 (.agg c1019.toArray)) w1001 fun w1020 =>
XLdN w1020 a1000 2 fun v1021 =>
K (.tuple #[v1021, (.int .i64 0)]) w1020) (xFill [.nilFunc, (.bool false)] [] fun c1022 =>
XDo P (storeVar 178 a1000 (.agg c1022.toArray)) w1001 fun w1023 =>
XLdN w1023 a1000 2 fun v1024 =>
K (.tuple #[v1024, (.int .i64 1)]) w1023)))))
theorem W_union_find {a0 : Value} {K : Value → World → Prop} {w : World} (h : S_union_find a0 K w) : Ret P n_union_find [a0] w K :=
  vcF_of mixed Tryz.func107 (show S_union_find a0 K w = vcF P Tryz.f107 [a0] w K from by kernel_rfl) h
/- (spunyarn/union.joiner).of -/
abbrev S_union_joiner_of (a0 : Value) (a1 : Value) (a2 : Value) (K : Value → World → Prop) (w0 : World) : Prop :=
XNew w0 (cellsV a0) 182 fun a1000 w1001 =>
XNew w1001 (cellsV a1) 185 fun a1002 w1003 =>
XNew w1003 (cellsV a2) 185 fun a1004 w1005 =>
XLd w1005 (a1002.add 0) fun v1006 =>
xPEq P w1005 v1006 (.pointer none) fun v1007 =>
xIf v1007 (XLdN w1005 a1000 4 fun v1008 =>
XLdN w1005 a1004 2 fun v1009 =>
Ret P n_union_joiner_whole [v1008, v1009] w1005 fun v1010 w1011 =>
K v1010 w1011) (/- 0 -/ XJ (fun J1012 =>
XLd w1005 (a1004.add 0) fun v1016 =>
xPEq P w1005 v1016 (.pointer none) fun v1017 =>
xIf v1017 (J1012 [v1017] w1005) (XLdN w1005 a1002 2 fun v1018 =>
XLdN w1005 a1004 2 fun v1019 =>
XEqv P .eql 185 (.tmp 21) (.tmp 22) v1018 v1019 w1005 fun r1020 =>
xIf (.bool r1020) (XLd w1005 ((a1000.add 0).add 1) fun v1021 =>
J1012 [v1021] w1005) (J1012 [(.bool false)] w1005))) fun vs1013 g1014 w1015 =>
xIf (vs1013.getD 0 undef) (XLdN w1015 a1000 4 fun v1022 =>
XLdN w1015 a1002 2 fun v1023 =>
Ret P n_union_joiner_whole [v1022, v1023] w1015 fun v1024 w1025 =>
K v1024 w1025) (XLdN w1015.drew a1002 2 fun v1026 =>
XLdN w1015.drew a1004 2 fun v1027 =>
Ret P n_union_end_part [v1026] w1015.drew fun v1028 w1029 =>
xKeepN w1029 (.pointer (some a1004)) v1027 ∧ (Ret P n_union_end_part [v1027] w1029 fun v1030 w1031 =>
Ret P n_keys_Common [v1028, v1030] w1031 fun v1032 w1033 =>
/- 0 -/ XJ (fun J1034 =>
xLen v1028 fun v1038 =>
xLt v1032 v1038 fun v1039 =>
xIf v1039 (xLen v1030 fun v1040 =>
xLt v1032 v1040 fun v1041 =>
J1034 [v1041] w1033) (J1034 [(.bool false)] w1033)) fun vs1035 g1036 w1037 =>
xIf (vs1035.getD 0 undef) (XLdN w1037.drew a1000 4 fun v1042 =>
xCutS 1 v1028 none (some v1032) none fun v1043 =>
xIxS v1028 v1032 1 fun v1044 =>
xAt v1044 fun a1045 =>
XLd w1037.drew a1045 fun v1046 =>
XLdN w1037.drew a1002 2 fun v1047 =>
xIxS v1030 v1032 1 fun v1048 =>
xAt v1048 fun a1049 =>
XLd w1037.drew a1049 fun v1050 =>
XLdN w1037.drew a1004 2 fun v1051 =>
Ret P n_union_end_behind [v1047, v1032] w1037.drew fun v1052 w1053 =>
xKeepN w1053 (.pointer (some a1004)) v1051 ∧ (xKeep1 w1053 v1048 v1050 ∧ (xKeep1 w1053 v1044 v1046 ∧ (xKeepN w1053 (.pointer (some a1000)) v1042 ∧ (Ret P n_union_end_behind [v1051, v1032] w1053 fun v1054 w1055 =>
xKeep1 w1055 v1048 v1050 ∧ (xKeep1 w1055 v1044 v1046 ∧ (xKeepN w1055 (.pointer (some a1000)) v1042 ∧ (Ret P n_union_joiner_fork [v1042, v1043, v1046, v1052, v1050, v1054] w1055 fun v1056 w1057 =>
K v1056 w1057)))))))) (xLen v1030 fun v1058 =>
xLt v1032 v1058 fun v1059 =>
xIf v1059 (XLdN w1037.drew a1000 4 fun v1060 =>
XLdN w1037.drew a1002 2 fun v1061 =>
xIxS v1030 v1032 1 fun v1062 =>
xAt v1062 fun a1063 =>
XLd w1037.drew a1063 fun v1064 =>
XLdN w1037.drew a1004 2 fun v1065 =>
Ret P n_union_end_behind [v1065, v1032] w1037.drew fun v1066 w1067 =>
xKeep1 w1067 v1062 v1064 ∧ (xKeepN w1067 (.pointer (some a1002)) v1061 ∧ (xKeepN w1067 (.pointer (some a1000)) v1060 ∧ (Ret P n_union_joiner_under [v1060, v1061, v1064, v1066, (.bool false)] w1067 fun v1068 w1069 =>
K v1068 w1069)))) (xLen v1028 fun v1070 =>
xLt v1032 v1070 fun v1071 =>
xIf v1071 (XLdN w1037.drew a1000 4 fun v1072 =>
XLdN w1037.drew a1004 2 fun v1073 =>
xIxS v1028 v1032 1 fun v1074 =>
xAt v1074 fun a1075 =>
XLd w1037.drew a1075 fun v1076 =>
XLdN w1037.drew a1002 2 fun v1077 =>
Ret P n_union_end_behind [v1077, v1032] w1037.drew fun v1078 w1079 =>
xKeep1 w1079 v1074 v1076 ∧ (xKeepN w1079 (.pointer (some a1004)) v1073 ∧ (xKeepN w1079 (.pointer (some a1000)) v1072 ∧ (Ret P n_union_joiner_under [v1072, v1073, v1076, v1078, (.bool true)] w1079 fun v1080 w1081 =>
K v1080 w1081)))) (XLdN w1037 a1000 4 fun v1082 =>
XLdN w1037 a1002 2 fun v1083 =>
XLdN w1037 a1004 2 fun v1084 =>
Ret P n_union_joiner_level [v1082, v1083, v1084] w1037 fun v1085 w1086 =>
K v1085 w1086))))))
theorem W_union_joiner_of {a0 a1 a2 : Value} {K : Value → World → Prop} {w : World} (h : S_union_joiner_of a0 a1 a2 K w) : Ret P n_union_joiner_of [a0, a1, a2] w K :=
  vcF_of mixed Tryz.func108 (show S_union_joiner_of a0 a1 a2 K w = vcF P Tryz.f108 [a0, a1, a2] w K from by kernel_rfl) h
/- spunyarn/canon.Build -/
abbrev S_canon_Build (a0 : Value) (a1 : Value) (a2 : Value) (K : Value → World → Prop) (w0 : World) : Prop :=
Ret P n_canon_check [a2] w0 fun v1000 w1001 =>
xNe v1000 (.int .i64 0) fun v1002 =>
xIf v1002 (K (.tuple #[(.pointer none), v1000]) w1001) (xFill [(.pointer none), (.int .u64 0)] [(0, 1, a0), (1, 1, a1)] fun c1003 =>
Ret P n_canon_maker_tree [(.agg c1003.toArray), a2, (.int .i64 0)] w1001 fun v1004 w1005 =>
K (.tuple #[v1004, (.int .i64 0)]) w1005)
theorem W_canon_Build {a0 a1 a2 : Value} {K : Value → World → Prop} {w : World} (h : S_canon_Build a0 a1 a2 K w) : Ret P n_canon_Build [a0, a1, a2] w K :=
  vcF_of mixed Tryz.func109 (show S_canon_Build a0 a1 a2 K w = vcF P Tryz.f109 [a0, a1, a2] w K from by kernel_rfl) h
/- spunyarn/spunyarnref01.Cmp -/
abbrev S_ref01_Cmp (a0 : Value) (a1 : Value) (K : Value → World → Prop) (w0 : World) : Prop :=
Ret P n_ref01_Common [a0, a1] w0 fun v1000 w1001 =>
/- 0 -/ XJ (fun J1002 =>
xLen a0 fun v1006 =>
xEq v1000 v1006 fun v1007 =>
xIf v1007 (xLen a1 fun v1008 =>
xEq v1000 v1008 fun v1009 =>
J1002 [v1009] w1001) (J1002 [(.bool false)] w1001)) fun vs1003 g1004 w1005 =>
xIf (vs1003.getD 0 undef) (K (.int .i64 0) w1005) (xLen a0 fun v1010 =>
xEq v1000 v1010 fun v1011 =>
xIf v1011 (K (.int .i64 (-1)) w1005) (xLen a1 fun v1012 =>
xEq v1000 v1012 fun v1013 =>
xIf v1013 (K (.int .i64 1) w1005) (xIxS a0 v1000 1 fun v1014 =>
xAt v1014 fun a1015 =>
XLd w1005.drew a1015 fun v1016 =>
xIxS a1 v1000 1 fun v1017 =>
xAt v1017 fun a1018 =>
XLd w1005.drew a1018 fun v1019 =>
xLt v1016 v1019 fun v1020 =>
xIf v1020 (K (.int .i64 (-1)) (w1005.drew)) (K (.int .i64 1) (w1005.drew)))))
theorem W_ref01_Cmp {a0 a1 : Value} {K : Value → World → Prop} {w : World} (h : S_ref01_Cmp a0 a1 K w) : Ret P n_ref01_Cmp [a0, a1] w K :=
  vcF_of mixed Tryz.func110 (show S_ref01_Cmp a0 a1 K w = vcF P Tryz.f110 [a0, a1] w K from by kernel_rfl) h
/- spunyarn/canon.shape -/
/- S_canon_shape_l1: 0=slot 7 k 1=slot 6 b -/
def S_canon_shape_l1 (K : Value → World → Prop) (a0 : Value) (a1 : Value) (I1045 : Nat → List Value → World → Prop) (n1046 : Nat) (vs1047 : List Value) (g1048 : Nat → Value) (w1049 : World) : Prop :=
xPNe P w1049 (vs1047.getD 0 undef) (.pointer none) fun v1050 =>
xIf v1050 (xFill (repL [(.int .u8 0)] 1) [(0, 1, (vs1047.getD 1 undef))] fun c1051 =>
XNew w1049 c1051 5 fun a1052 w1053 =>
Ret P n_keys_Text [(.slice (some a1052) 1 1)] w1053 fun v1054 w1055 =>
xSCat (.string ⟨#[58]⟩) v1054 fun v1056 =>
Ret P n_strings_Builder_WriteString [a0, v1056] w1055 fun v1057 w1058 =>
Ret P n_canon_shape [a0, (vs1047.getD 0 undef)] w1058 fun v1059 w1060 =>
xConv .i64 (vs1047.getD 1 undef) fun v1061 =>
xAdd v1061 (.int .i64 1) fun v1062 =>
Ret P n_node_Node_Next [a1, v1062] w1060 fun v1063 w1064 =>
xTup v1063 0 fun v1065 =>
xTup v1063 1 fun v1066 =>
XNext I1045 n1046 [v1066, v1065] w1064) (Ret P n_strings_Builder_WriteString [a0, (.string ⟨#[62]⟩)] w1049 fun v1067 w1068 =>
K (.tuple #[]) w1068)
abbrev S_canon_shape (a0 : Value) (a1 : Value) (K : Value → World → Prop) (w0 : World) : Prop :=
xPEq P w0 a1 (.pointer none) fun v1000 =>
xIf v1000 (Ret P n_strings_Builder_WriteString [a0, (.string ⟨#[46]⟩)] w0 fun v1001 w1002 =>
K (.tuple #[]) w1002) (Ret P n_node_Node_Val [a1] w0 fun v1003 w1004 =>
xTup v1003 0 fun v1005 =>
xTup v1003 1 fun v1006 =>
/-  -/ XJ (fun J1007 =>
Ret P n_node_Node_Kind [a1] w1004 fun v1011 w1012 =>
xEq v1011 (.int .i64 1) fun v1013 =>
xIf v1013 (Ret P n_strings_Builder_WriteString [a0, (.string ⟨#[76]⟩)] w1012 fun v1014 w1015 =>
J1007 [] w1015) (Ret P n_node_Node_Kind [a1] w1012 fun v1016 w1017 =>
Ret P n_strconv_Itoa [v1016] w1017 fun v1018 w1019 =>
xSCat v1018 (.string ⟨#[60]⟩) fun v1020 =>
Ret P n_strings_Builder_WriteString [a0, v1020] w1019 fun v1021 w1022 =>
J1007 [] w1022)) fun vs1008 g1009 w1010 =>
Ret P n_node_Node_Part [a1] w1010 fun v1023 w1024 =>
Ret P n_keys_Text [v1023] w1024 fun v1025 w1026 =>
Ret P n_strings_Builder_WriteString [a0, v1025] w1026 fun v1027 w1028 =>
/-  -/ XJ (fun J1029 =>
xIf v1006 (Ret P n_strconv_FormatUint [v1005, (.int .i64 10)] w1028 fun v1033 w1034 =>
xSCat (.string ⟨#[61]⟩) v1033 fun v1035 =>
Ret P n_strings_Builder_WriteString [a0, v1035] w1034 fun v1036 w1037 =>
J1029 [] w1037) (J1029 [] w1028)) fun vs1030 g1031 w1032 =>
Ret P n_node_Node_Kind [a1] w1032 fun v1038 w1039 =>
xEq v1038 (.int .i64 1) fun v1040 =>
xIf v1040 (K (.tuple #[]) w1039) (Ret P n_node_Node_Next [a1, (.int .i64 0)] w1039 fun v1041 w1042 =>
xTup v1041 0 fun v1043 =>
xTup v1041 1 fun v1044 =>
XLoop [v1044, v1043] w1042 (S_canon_shape_l1 K a0 a1)))
theorem W_canon_shape {a0 a1 : Value} {K : Value → World → Prop} {w : World} (h : S_canon_shape a0 a1 K w) : Ret P n_canon_shape [a0, a1] w K :=
  vcF_of mixed Tryz.func111 (show S_canon_shape a0 a1 K w = vcF P Tryz.f111 [a0, a1] w K from by kernel_rfl) h
/- (*strings.Builder).String -/
abbrev S_strings_Builder_String (a0 : Value) (K : Value → World → Prop) (w0 : World) : Prop :=
xAt a0 fun a1000 =>
XLd w0.drew (a1000.add 1) fun v1001 =>
xAt a0 fun a1002 =>
XLd w0.drew (a1002.add 1) fun v1003 =>
xLen v1003 fun v1004 =>
XRun P (Builtin.unsafeSliceData_ #[50] 263 #[v1001]) w0.drew fun v1005 w1006 =>
xKeep1 w1006 (.pointer (some (a1002.add 1))) v1003 ∧ (XRun P (Builtin.unsafeString_ #[263, 3] 9 #[v1005, v1004]) w1006 fun v1007 w1008 =>
K v1007 w1008)
theorem W_strings_Builder_String {a0 : Value} {K : Value → World → Prop} {w : World} (h : S_strings_Builder_String a0 K w) : Ret P n_strings_Builder_String [a0] w K :=
  vcF_of mixed Tryz.func112 (show S_strings_Builder_String a0 K w = vcF P Tryz.f112 [a0] w K from by kernel_rfl) h
/- spunyarn/canon.each -/
abbrev S_canon_each (a0 : Value) (a1 : Value) (K : Value → World → Prop) (w0 : World) : Prop :=
XNew w0 (cellsV a1) 195 fun a1000 w1001 =>
XNew w1001 [.nilFunc] 195 fun a1002 w1003 =>
XSt w1003 a1002 (.func (.func 189) #[] #[(.pointer (some a1000)), (.pointer (some a1002))]) fun w1004 =>
XLd w1004 a1002 fun v1005 =>
xFunc v1005 [(.slice none 0 0), a0] fun f1006 xs1007 =>
xCall P f1006 xs1007 w1004 fun v1008 w1009 =>
K (.tuple #[]) w1009
theorem W_canon_each {a0 a1 : Value} {K : Value → World → Prop} {w : World} (h : S_canon_each a0 a1 K w) : Ret P n_canon_each [a0, a1] w K :=
  vcF_of mixed Tryz.func113 (show S_canon_each a0 a1 K w = vcF P Tryz.f113 [a0, a1] w K from by kernel_rfl) h
/- spunyarn/canon.Fine$1 -/
abbrev S_canon_Fine_1 (a0 : Value) (a1 : Value) (a2 : Value) (K : Value → World → Prop) (w0 : World) : Prop :=
Ret P n_node_Node_Val [a1] w0 fun v1000 w1001 =>
xTup v1000 0 fun v1002 =>
xTup v1000 1 fun v1003 =>
/- 0 -/ XJ (fun J1004 =>
Ret P n_node_Node_Kind [a1] w1001 fun v1008 w1009 =>
xNe v1008 (.int .i64 1) fun v1010 =>
xIf v1010 (Ret P n_node_Node_Occupants [a1] w1009 fun v1011 w1012 =>
xLt v1011 (.int .i64 2) fun v1013 =>
xIf v1013 (J1004 [(.bool true)] w1012) (xIf v1003 (Ret P n_keys_May [a0] w1012 fun v1014 w1015 =>
xNe v1014 (.int .i64 0) fun v1016 =>
J1004 [v1016] w1015) (J1004 [(.bool false)] w1012))) (xIf v1003 (Ret P n_keys_May [a0] w1009 fun v1017 w1018 =>
xNe v1017 (.int .i64 0) fun v1019 =>
J1004 [v1019] w1018) (J1004 [(.bool false)] w1009))) fun vs1005 g1006 w1007 =>
xIf (vs1005.getD 0 undef) (xAt a2 fun a1021 =>
XSt w1007 a1021 (.bool false) fun w1020 =>
K (.tuple #[]) w1020) (K (.tuple #[]) w1007)
theorem W_canon_Fine_1 {a0 a1 a2 : Value} {K : Value → World → Prop} {w : World} (h : S_canon_Fine_1 a0 a1 a2 K w) : Ret P n_canon_Fine_1 [a0, a1, a2] w K :=
  vcF_of mixed Tryz.func114 (show S_canon_Fine_1 a0 a1 a2 K w = vcF P Tryz.f114 [a0, a1, a2] w K from by kernel_rfl) h
/- (*spunyarn/node.Node).Val -/
abbrev S_node_Node_Val (a0 : Value) (K : Value → World → Prop) (w0 : World) : Prop :=
/- 0 -/ XJ (fun J1000 =>
xPEq P w0 a0 (.pointer none) fun v1004 =>
xIf v1004 (J1000 [(.bool true)] w0) (xAt a0 fun a1005 =>
XLd w0 (a1005.add 3) fun v1006 =>
xNot v1006 fun v1007 =>
J1000 [v1007] w0)) fun vs1001 g1002 w1003 =>
xIf (vs1001.getD 0 undef) (K (.tuple #[(.int .u64 0), (.bool false)]) w1003) (xAt a0 fun a1008 =>
XLd w1003 (a1008.add 2) fun v1009 =>
K (.tuple #[v1009, (.bool true)]) w1003)
theorem W_node_Node_Val {a0 : Value} {K : Value → World → Prop} {w : World} (h : S_node_Node_Val a0 K w) : Ret P n_node_Node_Val [a0] w K :=
  vcF_of mixed Tryz.func115 (show S_node_Node_Val a0 K w = vcF P Tryz.f115 [a0] w K from by kernel_rfl) h
/- (*spunyarn/node.Node).Kind -/
abbrev S_node_Node_Kind (a0 : Value) (K : Value → World → Prop) (w0 : World) : Prop :=
xPEq P w0 a0 (.pointer none) fun v1000 =>
xIf v1000 (K (.int .i64 0) w0) (Ret P n_node_Node_isLeaf [a0] w0 fun v1001 w1002 =>
xIf v1001 (K (.int .i64 1) w1002) (xAt a0 fun a1003 =>
XLd w1002 (a1003.add 4) fun v1004 =>
Ret P n_kids_Kids_Kind [v1004] w1002 fun v1005 w1006 =>
K v1005 w1006))
theorem W_node_Node_Kind {a0 : Value} {K : Value → World → Prop} {w : World} (h : S_node_Node_Kind a0 K w) : Ret P n_node_Node_Kind [a0] w K :=
  vcF_of mixed Tryz.func116 (show S_node_Node_Kind a0 K w = vcF P Tryz.f116 [a0] w K from by kernel_rfl) h
/- (*spunyarn/node.Node).Occupants -/
abbrev S_node_Node_Occupants (a0 : Value) (K : Value → World → Prop) (w0 : World) : Prop :=
/- 0 -/ XJ (fun J1000 =>
xPNe P w0 a0 (.pointer none) fun v1004 =>
xIf v1004 (xAt a0 fun a1005 =>
XLd w0 (a1005.add 3) fun v1006 =>
J1000 [v1006] w0) (J1000 [(.bool false)] w0)) fun vs1001 g1002 w1003 =>
xIf (vs1001.getD 0 undef) (xAt a0 fun a1007 =>
XLd w1003 (a1007.add 4) fun v1008 =>
Ret P n_kids_Kids_Len [v1008] w1003 fun v1009 w1010 =>
xAdd v1009 (.int .i64 1) fun v1011 =>
K v1011 w1010) (Ret P n_node_Node_Len [a0] w1003 fun v1012 w1013 =>
K v1012 w1013)
theorem W_node_Node_Occupants {a0 : Value} {K : Value → World → Prop} {w : World} (h : S_node_Node_Occupants a0 K w) : Ret P n_node_Node_Occupants [a0] w K :=
  vcF_of mixed Tryz.func117 (show S_node_Node_Occupants a0 K w = vcF P Tryz.f117 [a0] w K from by kernel_rfl) h
/- spunyarn/keys.May -/
abbrev S_keys_May (a0 : Value) (K : Value → World → Prop) (w0 : World) : Prop :=
xLen a0 fun v1000 =>
xGt v1000 (.int .i64 65535) fun v1001 =>
xIf v1001 (K (.int .i64 8) w0) (K (.int .i64 0) w0)
theorem W_keys_May {a0 : Value} {K : Value → World → Prop} {w : World} (h : S_keys_May a0 K w) : Ret P n_keys_May [a0] w K :=
  vcF_of mixed Tryz.func118 (show S_keys_May a0 K w = vcF P Tryz.f118 [a0] w K from by kernel_rfl) h
/- (*sync/atomic.Int64).Load -/
abbrev S_atomic_Int64_Load (a0 : Value) (K : Value → World → Prop) (w0 : World) : Prop :=
xAt a0 fun a1000 =>
xCall P 194 [(.pointer (some (a1000.add 0)))] w0 fun v1001 w1002 =>
K v1001 w1002
theorem W_atomic_Int64_Load {a0 : Value} {K : Value → World → Prop} {w : World} (h : S_atomic_Int64_Load a0 K w) : Ret P n_atomic_Int64_Load [a0] w K :=
  vcF_of mixed Tryz.func119 (show S_atomic_Int64_Load a0 K w = vcF P Tryz.f119 [a0] w K from by kernel_rfl) h
/- (spunyarn/del.taker).out -/
abbrev S_del_taker_out (a0 : Value) (a1 : Value) (a2 : Value) (K : Value → World → Prop) (w0 : World) : Prop :=
XNew w0 (cellsV a0) 198 fun a1000 w1001 =>
Ret P n_node_Node_Part [a1] w1001 fun v1002 w1003 =>
xLen v1002 fun v1004 =>
xCutS 1 a2 (some v1004) none none fun v1005 =>
xLen v1005 fun v1006 =>
xEq v1006 (.int .i64 0) fun v1007 =>
xIf v1007 (XLdN w1003 a1000 2 fun v1008 =>
Ret P n_del_taker_here [v1008, a1] w1003 fun v1009 w1010 =>
K v1009 w1010) (xIxS v1005 (.int .i64 0) 1 fun v1011 =>
xAt v1011 fun a1012 =>
XLd w1003 a1012 fun v1013 =>
Ret P n_node_Node_Kid [a1, v1013] w1003 fun v1014 w1015 =>
XLdN w1015.drew a1000 2 fun v1016 =>
xCutS 1 v1005 (some (.int .i64 1)) none none fun v1017 =>
Ret P n_del_taker_out [v1016, v1014, v1017] w1015.drew fun v1018 w1019 =>
xPEq P w1019 v1018 v1014 fun v1020 =>
xIf v1020 (K a1 w1019) (xPNe P w1019 v1018 (.pointer none) fun v1021 =>
xIf v1021 (XLd w1019 (a1000.add 1) fun v1022 =>
XLd w1019 (a1000.add 0) fun v1023 =>
Ret P n_node_Node_Own [a1, v1022, v1023] w1019 fun v1024 w1025 =>
XLd w1025.drew (a1000.add 0) fun v1026 =>
xIxS v1005 (.int .i64 0) 1 fun v1027 =>
xAt v1027 fun a1028 =>
XLd w1025.drew a1028 fun v1029 =>
Ret P n_node_Node_SetKid [v1024, v1026, v1029, v1018] w1025.drew fun v1030 w1031 =>
K v1024 w1031) (XLdN w1019.drew a1000 2 fun v1032 =>
xIxS v1005 (.int .i64 0) 1 fun v1033 =>
xAt v1033 fun a1034 =>
XLd w1019.drew a1034 fun v1035 =>
Ret P n_del_taker_without [v1032, a1, v1035] w1019.drew fun v1036 w1037 =>
K v1036 w1037)))
theorem W_del_taker_out {a0 a1 a2 : Value} {K : Value → World → Prop} {w : World} (h : S_del_taker_out a0 a1 a2 K w) : Ret P n_del_taker_out [a0, a1, a2] w K :=
  vcF_of mixed Tryz.func120 (show S_del_taker_out a0 a1 a2 K w = vcF P Tryz.f120 [a0, a1, a2] w K from by kernel_rfl) h
/- spunyarn/find.each -/
/- S_find_each_l1: 0=slot 8 v 1=slot 9 has -/
def S_find_each_l1 (a2 : Value) (a1001 : Addr) (J1003 : List Value → World → Prop) (I1007 : Nat → List Value → World → Prop) (n1008 : Nat) (vs1009 : List Value) (g1010 : Nat → Value) (w1011 : World) : Prop :=
Ret P n_find_walk_into [(.pointer (some a1001))] w1011 fun v1012 w1013 =>
xIf v1012 (/- 0 v 1 has -/ XJ (fun J1014 =>
XLd w1013 (a1001.add 0) fun v1018 =>
Ret P n_node_Node_Val [v1018] w1013 fun v1019 w1020 =>
xTup v1019 0 fun v1021 =>
xTup v1019 1 fun v1022 =>
xIf v1022 (XLd w1020 (a1001.add 2) fun v1023 =>
xFunc a2 [v1023, v1021] fun f1024 xs1025 =>
xCall P f1024 xs1025 w1020 fun v1026 w1027 =>
J1014 [v1021, v1022] w1027) (J1014 [v1021, v1022] w1020)) fun vs1015 g1016 w1017 =>
Ret P n_find_walk_ends [(.pointer (some a1001))] w1017 fun v1028 w1029 =>
xIf v1028 (J1003 [(vs1015.getD 0 undef), (vs1015.getD 1 undef)] w1029) (Ret P n_find_walk_down [(.pointer (some a1001))] w1029 fun v1030 w1031 =>
XNext I1007 n1008 [(vs1015.getD 0 undef), (vs1015.getD 1 undef)] w1031)) (J1003 [(vs1009.getD 0 undef), (vs1009.getD 1 undef)] w1013)
abbrev S_find_each (a0 : Value) (a1 : Value) (a2 : Value) (K : Value → World → Prop) (w0 : World) : Prop :=
xFill [(.pointer none), (.slice none 0 0), (.int .i64 0), (.int .i64 0)] [(0, 1, a0), (1, 1, a1)] fun c1000 =>
XNew w0 (cellsV (.agg c1000.toArray)) 206 fun a1001 w1002 =>
/- 0 v 1 has -/ XJ (fun J1003 =>
XLoop [undef, undef] w1002 (S_find_each_l1 a2 a1001 J1003)) fun vs1004 g1005 w1006 =>
XLd w1006 (a1001.add 3) fun v1032 =>
K v1032 w1006
theorem W_find_each {a0 a1 a2 : Value} {K : Value → World → Prop} {w : World} (h : S_find_each a0 a1 a2 K w) : Ret P n_find_each [a0, a1, a2] w K :=
  vcF_of mixed Tryz.func121 (show S_find_each a0 a1 a2 K w = vcF P Tryz.f121 [a0, a1, a2] w K from by kernel_rfl) h
/- spunyarn/find.Steps$1 -/
abbrev S_find_Steps_1 (a0 : Value) (a1 : Value) (K : Value → World → Prop) (w0 : World) : Prop :=
K (.tuple #[]) w0
theorem W_find_Steps_1 {a0 a1 : Value} {K : Value → World → Prop} {w : World} (h : S_find_Steps_1 a0 a1 K w) : Ret P n_find_Steps_1 [a0, a1] w K :=
  vcF_of mixed Tryz.func122 (show S_find_Steps_1 a0 a1 K w = vcF P Tryz.f122 [a0, a1] w K from by kernel_rfl) h
/- (*spunyarn/node.Node).Next -/
abbrev S_node_Node_Next (a0 : Value) (a1 : Value) (K : Value → World → Prop) (w0 : World) : Prop :=
xPEq P w0 a0 (.pointer none) fun v1000 =>
xIf v1000 (K (.tuple #[(.int .u8 0), (.pointer none)]) w0) (xAt a0 fun a1001 =>
XLd w0 (a1001.add 4) fun v1002 =>
Ret P n_kids_Kids_Next [v1002, a1] w0 fun v1003 w1004 =>
xTup v1003 0 fun v1005 =>
xTup v1003 1 fun v1006 =>
xTup v1003 2 fun v1007 =>
K (.tuple #[v1005, v1006]) w1004)
theorem W_node_Node_Next {a0 a1 : Value} {K : Value → World → Prop} {w : World} (h : S_node_Node_Next a0 a1 K w) : Ret P n_node_Node_Next [a0, a1] w K :=
  vcF_of mixed Tryz.func123 (show S_node_Node_Next a0 a1 K w = vcF P Tryz.f123 [a0, a1] w K from by kernel_rfl) h
/- (*spunyarn/find.walk).into -/
abbrev S_find_walk_into (a0 : Value) (K : Value → World → Prop) (w0 : World) : Prop :=
xAt a0 fun a1000 =>
XLd w0 (a1000.add 0) fun v1001 =>
xPEq P w0 v1001 (.pointer none) fun v1002 =>
xIf v1002 (K (.bool false) w0) (xAt a0 fun a1003 =>
XLd w0 (a1003.add 3) fun v1004 =>
xAdd v1004 (.int .i64 1) fun v1005 =>
xAt a0 fun a1006 =>
XSt w0 (a1006.add 3) v1005 fun w1007 =>
xAt a0 fun a1008 =>
XLd w1007 (a1008.add 0) fun v1009 =>
Ret P n_node_Node_Part [v1009] w1007 fun v1010 w1011 =>
xAt a0 fun a1012 =>
XLd w1011.drew (a1012.add 1) fun v1013 =>
xAt a0 fun a1014 =>
XLd w1011.drew (a1014.add 2) fun v1015 =>
xCutS 1 v1013 (some v1015) none none fun v1016 =>
Ret P n_bytes_HasPrefix [v1016, v1010] w1011.drew fun v1017 w1018 =>
xNot v1017 fun v1019 =>
xIf v1019 (K (.bool false) w1018) (xAt a0 fun a1020 =>
XLd w1018 (a1020.add 2) fun v1021 =>
xLen v1010 fun v1022 =>
xAdd v1021 v1022 fun v1023 =>
xAt a0 fun a1024 =>
XSt w1018 (a1024.add 2) v1023 fun w1025 =>
K (.bool true) w1025))
theorem W_find_walk_into {a0 : Value} {K : Value → World → Prop} {w : World} (h : S_find_walk_into a0 K w) : Ret P n_find_walk_into [a0] w K :=
  vcF_of mixed Tryz.func124 (show S_find_walk_into a0 K w = vcF P Tryz.f124 [a0] w K from by kernel_rfl) h
/- (*spunyarn/find.walk).ends -/
abbrev S_find_walk_ends (a0 : Value) (K : Value → World → Prop) (w0 : World) : Prop :=
xAt a0 fun a1000 =>
XLd w0.drew (a1000.add 2) fun v1001 =>
xAt a0 fun a1002 =>
XLd w0.drew (a1002.add 1) fun v1003 =>
xLen v1003 fun v1004 =>
xEq v1001 v1004 fun v1005 =>
K v1005 (w0.drew)
theorem W_find_walk_ends {a0 : Value} {K : Value → World → Prop} {w : World} (h : S_find_walk_ends a0 K w) : Ret P n_find_walk_ends [a0] w K :=
  vcF_of mixed Tryz.func125 (show S_find_walk_ends a0 K w = vcF P Tryz.f125 [a0] w K from by kernel_rfl) h
/- (*spunyarn/find.walk).down -/
abbrev S_find_walk_down (a0 : Value) (K : Value → World → Prop) (w0 : World) : Prop :=
xAt a0 fun a1000 =>
XLd w0.drew (a1000.add 0) fun v1001 =>
xAt a0 fun a1002 =>
XLd w0.drew (a1002.add 1) fun v1003 =>
xAt a0 fun a1004 =>
XLd w0.drew (a1004.add 2) fun v1005 =>
xIxS v1003 v1005 1 fun v1006 =>
xAt v1006 fun a1007 =>
XLd w0.drew a1007 fun v1008 =>
Ret P n_node_Node_Kid [v1001, v1008] w0.drew fun v1009 w1010 =>
xAt a0 fun a1011 =>
XSt w1010 (a1011.add 0) v1009 fun w1012 =>
xAt a0 fun a1013 =>
XLd w1012 (a1013.add 2) fun v1014 =>
xAdd v1014 (.int .i64 1) fun v1015 =>
xAt a0 fun a1016 =>
XSt w1012 (a1016.add 2) v1015 fun w1017 =>
K (.tuple #[]) w1017
theorem W_find_walk_down {a0 : Value} {K : Value → World → Prop} {w : World} (h : S_find_walk_down a0 K w) : Ret P n_find_walk_down [a0] w K :=
  vcF_of mixed Tryz.func126 (show S_find_walk_down a0 K w = vcF P Tryz.f126 [a0] w K from by kernel_rfl) h
/- (spunyarn/put.putter).into -/
abbrev S_put_putter_into (a0 : Value) (a1 : Value) (a2 : Value) (K : Value → World → Prop) (w0 : World) : Prop :=
XNew w0 (cellsV a0) 208 fun a1000 w1001 =>
xPEq P w1001 a1 (.pointer none) fun v1002 =>
xIf v1002 (XLd w1001 (a1000.add 2) fun v1003 =>
XLd w1001 (a1000.add 1) fun v1004 =>
XLd w1001 (a1000.add 0) fun v1005 =>
Ret P n_node_Leaf [v1003, v1004, a2, v1005] w1001 fun v1006 w1007 =>
K v1006 w1007) (Ret P n_node_Node_Part [a1] w1001 fun v1008 w1009 =>
Ret P n_keys_Common [v1008, a2] w1009 fun v1010 w1011 =>
Ret P n_node_Node_Kind [a1] w1011 fun v1012 w1013 =>
xEq v1012 (.int .i64 1) fun v1014 =>
/- 0 1 2 3 -/ XJ (fun J1015 =>
/- 0 -/ XJ (fun J1019 =>
xLen v1008 fun v1023 =>
xEq v1010 v1023 fun v1024 =>
xIf v1024 (xLen a2 fun v1025 =>
xEq v1010 v1025 fun v1026 =>
J1019 [v1026] w1013) (J1019 [(.bool false)] w1013)) fun vs1020 g1021 w1022 =>
xIf (vs1020.getD 0 undef) (XLdN w1022 a1000 3 fun v1027 =>
Ret P n_put_putter_here [v1027, a1] w1022 fun v1028 w1029 =>
K v1028 w1029) (xLen v1008 fun v1030 =>
xLt v1010 v1030 fun v1031 =>
xIf v1031 (J1015 [(vs1020.getD 0 undef), v1031, undef, (.pointer none)] w1022) (xIf v1014 (J1015 [(vs1020.getD 0 undef), v1031, v1014, (.pointer none)] w1022) (XLdN w1022.drew a1000 3 fun v1032 =>
xCutS 1 a2 (some v1010) none none fun v1033 =>
Ret P n_put_putter_below [v1032, a1, v1033] w1022.drew fun v1034 w1035 =>
K v1034 w1035)))) fun vs1016 g1017 w1018 =>
XLdN w1018 a1000 3 fun v1036 =>
Ret P n_put_putter_split [v1036, a1, v1008, a2, v1010] w1018 fun v1037 w1038 =>
K v1037 w1038)
theorem W_put_putter_into {a0 a1 a2 : Value} {K : Value → World → Prop} {w : World} (h : S_put_putter_into a0 a1 a2 K w) : Ret P n_put_putter_into [a0, a1, a2] w K :=
  vcF_of mixed Tryz.func127 (show S_put_putter_into a0 a1 a2 K w = vcF P Tryz.f127 [a0, a1, a2] w K from by kernel_rfl) h
/- (*spunyarn/node.Node).Kid -/
abbrev S_node_Node_Kid (a0 : Value) (a1 : Value) (K : Value → World → Prop) (w0 : World) : Prop :=
xPEq P w0 a0 (.pointer none) fun v1000 =>
xIf v1000 (K (.pointer none) w0) (xAt a0 fun a1001 =>
XLd w0 (a1001.add 4) fun v1002 =>
Ret P n_kids_Kids_Get [v1002, a1] w0 fun v1003 w1004 =>
xTup v1003 0 fun v1005 =>
xTup v1003 1 fun v1006 =>
K v1005 w1004)
theorem W_node_Node_Kid {a0 a1 : Value} {K : Value → World → Prop} {w : World} (h : S_node_Node_Kid a0 a1 K w) : Ret P n_node_Node_Kid [a0, a1] w K :=
  vcF_of mixed Tryz.func128 (show S_node_Node_Kid a0 a1 K w = vcF P Tryz.f128 [a0, a1] w K from by kernel_rfl) h
/- spunyarn/del.may -/
abbrev S_del_may (a0 : Value) (a1 : Value) (a2 : Value) (K : Value → World → Prop) (w0 : World) : Prop :=
Ret P n_del_check [a1] w0 fun v1000 w1001 =>
/- 0 -/ XJ (fun J1002 =>
xEq a2 (.int .u64 0) fun v1006 =>
xIf v1006 (J1002 [(.bool true)] w1001) (xEq v1000 (.int .i64 1) fun v1007 =>
J1002 [v1007] w1001)) fun vs1003 g1004 w1005 =>
xIf (vs1003.getD 0 undef) (K (.int .i64 1) w1005) (xPEq P w1005 a0 (.pointer none) fun v1008 =>
xIf v1008 (K (.int .i64 2) w1005) (Ret P n_node_Node_Kind [a0] w1005 fun v1009 w1010 =>
xEq v1009 (.int .i64 1) fun v1011 =>
xIf v1011 (K (.int .i64 9) w1010) (K v1000 w1010)))
theorem W_del_may {a0 a1 a2 : Value} {K : Value → World → Prop} {w : World} (h : S_del_may a0 a1 a2 K w) : Ret P n_del_may [a0, a1, a2] w K :=
  vcF_of mixed Tryz.func129 (show S_del_may a0 a1 a2 K w = vcF P Tryz.f129 [a0, a1, a2] w K from by kernel_rfl) h
/- spunyarn/del.just -/
/- S_del_just_l1: 0=slot 38 1=slot 8 -/
def S_del_just_l1 (K : Value → World → Prop) (a0 : Value) (a3 : Value) (v1018 : Value) (I1019 : Nat → List Value → World → Prop) (n1020 : Nat) (vs1021 : List Value) (g1022 : Nat → Value) (w1023 : World) : Prop :=
xLt (vs1021.getD 0 undef) v1018 fun v1024 =>
xIf v1024 (xIxS a3 (vs1021.getD 0 undef) 2 fun v1025 =>
xAt v1025 fun a1026 =>
XLdN w1023 a1026 2 fun v1027 =>
XNew w1023 [(.int .u8 0), (.pointer none)] 78 fun a1028 w1029 =>
XDo P (storeVar 78 a1028 v1027) w1029 fun w1030 =>
XLd w1030.drew (a1028.add 0) fun v1031 =>
XLd w1030.drew (a1028.add 1) fun v1032 =>
Ret P n_node_Node_Kid [a0, v1031] w1030.drew fun v1033 w1034 =>
xKeep1 w1034 (.pointer (some (a1028.add 1))) v1032 ∧ (xPNe P w1034 v1033 v1032 fun v1035 =>
xIf v1035 (K (.bool false) w1034) (xAdd (vs1021.getD 0 undef) (.int .i64 1) fun v1036 =>
XNext I1019 n1020 [v1036, (vs1021.getD 1 undef)] w1034))) (K (.bool true) w1023)
abbrev S_del_just (a0 : Value) (a1 : Value) (a2 : Value) (a3 : Value) (K : Value → World → Prop) (w0 : World) : Prop :=
Ret P n_node_Node_Val [a0] w0 fun v1000 w1001 =>
xTup v1000 0 fun v1002 =>
xTup v1000 1 fun v1003 =>
/- 0 -/ XJ (fun J1004 =>
xBNe v1003 a1 fun v1008 =>
xIf v1008 (J1004 [(.bool true)] w1001) (xIf v1003 (xNe v1002 a2 fun v1009 =>
xIf v1009 (J1004 [(.bool true)] w1001) (Ret P n_node_Node_Len [a0] w1001 fun v1010 w1011 =>
xLen a3 fun v1012 =>
xNe v1010 v1012 fun v1013 =>
J1004 [v1013] w1011)) (Ret P n_node_Node_Len [a0] w1001 fun v1014 w1015 =>
xLen a3 fun v1016 =>
xNe v1014 v1016 fun v1017 =>
J1004 [v1017] w1015))) fun vs1005 g1006 w1007 =>
xIf (vs1005.getD 0 undef) (K (.bool false) w1007) (xLen a3 fun v1018 =>
XLoop [(.int .i64 0), (.bool false)] w1007 (S_del_just_l1 K a0 a3 v1018))
theorem W_del_just {a0 a1 a2 a3 : Value} {K : Value → World → Prop} {w : World} (h : S_del_just a0 a1 a2 a3 K w) : Ret P n_del_just [a0, a1, a2, a3] w K :=
  vcF_of mixed Tryz.func130 (show S_del_just a0 a1 a2 a3 K w = vcF P Tryz.f130 [a0, a1, a2, a3] w K from by kernel_rfl) h
/- spunyarn/node.Leaf -/
abbrev S_node_Leaf (a0 : Value) (a1 : Value) (a2 : Value) (a3 : Value) (K : Value → World → Prop) (w0 : World) : Prop :=
Ret P n_meter_Meter_Made [a0, (.int .i64 1)] w0 fun v1000 w1001 =>
Ret P n_bytes_Clone [a2] w1001 fun v1002 w1003 =>
xFill [(.int .u64 0), (.slice none 0 0), (.int .u64 0), (.bool false), (.pointer none)] [(0, 1, a1), (1, 1, v1002), (2, 1, a3), (3, 1, (.bool true))] fun c1004 =>
XNew w1003 (cellsV (.agg c1004.toArray)) 231 fun a1005 w1006 =>
K (.pointer (some a1005)) w1006
theorem W_node_Leaf {a0 a1 a2 a3 : Value} {K : Value → World → Prop} {w : World} (h : S_node_Leaf a0 a1 a2 a3 K w) : Ret P n_node_Leaf [a0, a1, a2, a3] w K :=
  vcF_of mixed Tryz.func131 (show S_node_Leaf a0 a1 a2 a3 K w = vcF P Tryz.f131 [a0, a1, a2, a3] w K from by kernel_rfl) h
/- (*spunyarn/node.Node).Part -/
abbrev S_node_Node_Part (a0 : Value) (K : Value → World → Prop) (w0 : World) : Prop :=
xPEq P w0 a0 (.pointer none) fun v1000 =>
xIf v1000 (K (.slice none 0 0) w0) (xAt a0 fun a1001 =>
XLd w0 (a1001.add 1) fun v1002 =>
xLen v1002 fun v1003 =>
XRun P (Instr.makeSlice 50 v1003 v1003) w0 fun v1004 w1005 =>
xAt a0 fun a1006 =>
XLd w1005 (a1006.add 1) fun v1007 =>
XRun P (Builtin.copy_ #[50, 50] 3 #[v1004, v1007]) w1005 fun v1008 w1009 =>
K v1004 w1009)
theorem W_node_Node_Part {a0 : Value} {K : Value → World → Prop} {w : World} (h : S_node_Node_Part a0 K w) : Ret P n_node_Node_Part [a0] w K :=
  vcF_of mixed Tryz.func132 (show S_node_Node_Part a0 K w = vcF P Tryz.f132 [a0] w K from by kernel_rfl) h
/- (*spunyarn/node.Node).Copy -/
abbrev S_node_Node_Copy (a0 : Value) (a1 : Value) (a2 : Value) (K : Value → World → Prop) (w0 : World) : Prop :=
xPEq P w0 a0 (.pointer none) fun v1000 =>
xIf v1000 (K (.pointer none) w0) (Ret P n_meter_Meter_Made [a1, (.int .i64 1)] w0 fun v1001 w1002 =>
xAt a0 fun a1003 =>
XLdN w1002 a1003 5 fun v1004 =>
XNew w1002 [(.int .u64 0), (.slice none 0 0), (.int .u64 0), (.bool false), (.pointer none)] 231 fun a1005 w1006 =>
XDo P (storeVar 231 a1005 v1004) w1006 fun w1007 =>
XSt w1007 (a1005.add 0) a2 fun w1008 =>
xAt a0 fun a1009 =>
XLd w1008 (a1009.add 4) fun v1010 =>
Ret P n_kids_Kids_Copy [v1010] w1008 fun v1011 w1012 =>
XSt w1012 (a1005.add 4) v1011 fun w1013 =>
K (.pointer (some a1005)) w1013)
theorem W_node_Node_Copy {a0 a1 a2 : Value} {K : Value → World → Prop} {w : World} (h : S_node_Node_Copy a0 a1 a2 K w) : Ret P n_node_Node_Copy [a0, a1, a2] w K :=
  vcF_of mixed Tryz.func133 (show S_node_Node_Copy a0 a1 a2 K w = vcF P Tryz.f133 [a0, a1, a2] w K from by kernel_rfl) h
/- (*spunyarn/node.Node).SetPart -/
abbrev S_node_Node_SetPart (a0 : Value) (a1 : Value) (a2 : Value) (K : Value → World → Prop) (w0 : World) : Prop :=
Ret P n_node_Node_may [a0, a1] w0 fun v1000 w1001 =>
/-  -/ XJ (fun J1002 =>
xEq v1000 (.int .i64 0) fun v1006 =>
xIf v1006 (Ret P n_bytes_Clone [a2] w1001 fun v1007 w1008 =>
xAt a0 fun a1009 =>
XSt w1008 (a1009.add 1) v1007 fun w1010 =>
J1002 [] w1010) (J1002 [] w1001)) fun vs1003 g1004 w1005 =>
K v1000 w1005
theorem W_node_Node_SetPart {a0 a1 a2 : Value} {K : Value → World → Prop} {w : World} (h : S_node_Node_SetPart a0 a1 a2 K w) : Ret P n_node_Node_SetPart [a0, a1, a2] w K :=
  vcF_of mixed Tryz.func134 (show S_node_Node_SetPart a0 a1 a2 K w = vcF P Tryz.f134 [a0, a1, a2] w K from by kernel_rfl) h
/- spunyarn/del.join -/
abbrev S_del_join (a0 : Value) (K : Value → World → Prop) (w0 : World) : Prop :=
Ret P n_slices_Concat_byte [a0] w0 fun v1000 w1001 =>
K v1000 w1001
theorem W_del_join {a0 : Value} {K : Value → World → Prop} {w : World} (h : S_del_join a0 K w) : Ret P n_del_join [a0] w K :=
  vcF_of mixed Tryz.func135 (show S_del_join a0 K w = vcF P Tryz.f135 [a0] w K from by kernel_rfl) h
/- spunyarn/node.Inner -/
abbrev S_node_Inner (a0 : Value) (a1 : Value) (a2 : Value) (K : Value → World → Prop) (w0 : World) : Prop :=
Ret P n_meter_Meter_Made [a0, (.int .i64 1)] w0 fun v1000 w1001 =>
Ret P n_bytes_Clone [a2] w1001 fun v1002 w1003 =>
Ret P n_kids_New_Node [] w1003 fun v1004 w1005 =>
xFill [(.int .u64 0), (.slice none 0 0), (.int .u64 0), (.bool false), (.pointer none)] [(0, 1, a1), (1, 1, v1002), (4, 1, v1004)] fun c1006 =>
XNew w1005 (cellsV (.agg c1006.toArray)) 231 fun a1007 w1008 =>
K (.pointer (some a1007)) w1008
theorem W_node_Inner {a0 a1 a2 : Value} {K : Value → World → Prop} {w : World} (h : S_node_Inner a0 a1 a2 K w) : Ret P n_node_Inner [a0, a1, a2] w K :=
  vcF_of mixed Tryz.func136 (show S_node_Inner a0 a1 a2 K w = vcF P Tryz.f136 [a0, a1, a2] w K from by kernel_rfl) h
/- (*spunyarn/node.Node).SetVal -/
abbrev S_node_Node_SetVal (a0 : Value) (a1 : Value) (a2 : Value) (K : Value → World → Prop) (w0 : World) : Prop :=
Ret P n_node_Node_may [a0, a1] w0 fun v1000 w1001 =>
/-  -/ XJ (fun J1002 =>
xEq v1000 (.int .i64 0) fun v1006 =>
xIf v1006 (xAt a0 fun a1007 =>
XSt w1001 (a1007.add 2) a2 fun w1008 =>
xAt a0 fun a1009 =>
XSt w1008 (a1009.add 3) (.bool true) fun w1010 =>
J1002 [] w1010) (J1002 [] w1001)) fun vs1003 g1004 w1005 =>
K v1000 w1005
theorem W_node_Node_SetVal {a0 a1 a2 : Value} {K : Value → World → Prop} {w : World} (h : S_node_Node_SetVal a0 a1 a2 K w) : Ret P n_node_Node_SetVal [a0, a1, a2] w K :=
  vcF_of mixed Tryz.func137 (show S_node_Node_SetVal a0 a1 a2 K w = vcF P Tryz.f137 [a0, a1, a2] w K from by kernel_rfl) h
/- (*spunyarn/node.Node).SetKid -/
abbrev S_node_Node_SetKid (a0 : Value) (a1 : Value) (a2 : Value) (a3 : Value) (K : Value → World → Prop) (w0 : World) : Prop :=
Ret P n_node_Node_inner [a0, a1] w0 fun v1000 w1001 =>
xNe v1000 (.int .i64 0) fun v1002 =>
xIf v1002 (K v1000 w1001) (xPEq P w1001 a3 (.pointer none) fun v1003 =>
xIf v1003 (K (.int .i64 1) w1001) (xAt a0 fun a1004 =>
XLd w1001 (a1004.add 4) fun v1005 =>
Ret P n_kids_Kids_Set [v1005, a2, a3] w1001 fun v1006 w1007 =>
K v1006 w1007))
theorem W_node_Node_SetKid {a0 a1 a2 a3 : Value} {K : Value → World → Prop} {w : World} (h : S_node_Node_SetKid a0 a1 a2 a3 K w) : Ret P n_node_Node_SetKid [a0, a1, a2, a3] w K :=
  vcF_of mixed Tryz.func138 (show S_node_Node_SetKid a0 a1 a2 a3 K w = vcF P Tryz.f138 [a0, a1, a2, a3] w K from by kernel_rfl) h
/- spunyarn/spunyarnref15.Put -/
abbrev S_ref15_Put (a0 : Value) (a1 : Value) (a2 : Value) (K : Value → World → Prop) (w0 : World) : Prop :=
XRun P (Builtin.append_ #[33, 33] 33 #[(.slice none 0 0), a0]) w0 fun v1000 w1001 =>
xFill [(.slice none 0 0), (.int .u64 0)] [(0, 1, a1), (1, 1, a2)] fun c1002 =>
xFill (repL [(.slice none 0 0), (.int .u64 0)] 1) [(0, 2, (.agg c1002.toArray))] fun c1003 =>
XNew w1001 c1003 52 fun a1004 w1005 =>
XRun P (Builtin.append_ #[33, 33] 33 #[v1000, (.slice (some a1004) 1 1)]) w1005 fun v1006 w1007 =>
Ret P n_ref13_Sort [v1006] w1007 fun v1008 w1009 =>
K v1008 w1009
theorem W_ref15_Put {a0 a1 a2 : Value} {K : Value → World → Prop} {w : World} (h : S_ref15_Put a0 a1 a2 K w) : Ret P n_ref15_Put [a0, a1, a2] w K :=
  vcF_of mixed Tryz.func139 (show S_ref15_Put a0 a1 a2 K w = vcF P Tryz.f139 [a0, a1, a2] w K from by kernel_rfl) h
/- (*spunyarn/tree.Version).ok -/
abbrev S_tree_Version_ok (a0 : Value) (K : Value → World → Prop) (w0 : World) : Prop :=
/- 0 -/ XJ (fun J1000 =>
xPNe P w0 a0 (.pointer none) fun v1004 =>
xIf v1004 (xAt a0 fun a1005 =>
XLd w0 (a1005.add 0) fun v1006 =>
xPNe P w0 v1006 (.pointer none) fun v1007 =>
J1000 [v1007] w0) (J1000 [(.bool false)] w0)) fun vs1001 g1002 w1003 =>
K (vs1001.getD 0 undef) w1003
theorem W_tree_Version_ok {a0 : Value} {K : Value → World → Prop} {w : World} (h : S_tree_Version_ok a0 K w) : Ret P n_tree_Version_ok [a0] w K :=
  vcF_of mixed Tryz.func140 (show S_tree_Version_ok a0 K w = vcF P Tryz.f140 [a0] w K from by kernel_rfl) h
/- (*spunyarn/meter.Once).Get -/
abbrev S_meter_Once_Get (a0 : Value) (a1 : Value) (K : Value → World → Prop) (w0 : World) : Prop :=
XNew w0 (cellsV a0) 279 fun a1000 w1001 =>
XNew w1001 (cellsV a1) 53 fun a1002 w1003 =>
XLd w1003 a1000 fun v1004 =>
xPEq P w1003 v1004 (.pointer none) fun v1005 =>
xIf v1005 (K (.int .i64 0) w1003) (XLd w1003 a1000 fun v1006 =>
xAt v1006 fun a1007 =>
Ret P n_sync_Once_Do [(.pointer (some (a1007.add 0))), (.func (.func 213) #[] #[(.pointer (some a1002)), (.pointer (some a1000))])] w1003 fun v1008 w1009 =>
XLd w1009 a1000 fun v1010 =>
xAt v1010 fun a1011 =>
XLd w1009 (a1011.add 3) fun v1012 =>
K v1012 w1009)
theorem W_meter_Once_Get {a0 a1 : Value} {K : Value → World → Prop} {w : World} (h : S_meter_Once_Get a0 a1 K w) : Ret P n_meter_Once_Get [a0, a1] w K :=
  vcF_of mixed Tryz.func141 (show S_meter_Once_Get a0 a1 K w = vcF P Tryz.f141 [a0, a1] w K from by kernel_rfl) h
end Go.Proofs.YtbleadagnpckbaaGreatDoor
