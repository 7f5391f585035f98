/-  Written by gen.py for this claim: of each function a form without frames, the same as the engine's condition by reckoning.  -/
import Derived.Test.YtbneecjeifionaaGreatDoorSN
import Derived.Test.YtbneecjeifionaaGreatDoorProg
namespace Go.Proofs.YtbneecjeifionaaGreatDoor
open Go X
set_option linter.unusedVariables false
set_option maxRecDepth 100000
/- spunyarn/find.Has -/
abbrev S_find_Has (a0 : Value) (a1 : Value) (K : Value → World → Prop) (w0 : World) : Prop :=
Ret P n_find_Get [a0, a1] w0 fun v1000 w1001 =>
xTup v1000 0 fun v1002 =>
xTup v1000 1 fun v1003 =>
K v1003 w1001
theorem W_find_Has {a0 a1 : Value} {K : Value → World → Prop} {w : World} (h : S_find_Has a0 a1 K w) : Ret P n_find_Has [a0, a1] w K :=
  vcF_of mixed Tryz.func80 (show S_find_Has a0 a1 K w = vcF P Tryz.f80 [a0, a1] w K from by kernel_rfl) h
/- (spunyarn/del.taker).out -/
abbrev S_del_taker_out (a0 : Value) (a1 : Value) (a2 : Value) (K : Value → World → Prop) (w0 : World) : Prop :=
XNew w0 (cellsV a0) 129 fun a1000 w1001 =>
Ret P n_node_Node_Part [a1] w1001 fun v1002 w1003 =>
xLen v1002 fun v1004 =>
xCutS 1 a2 (some v1004) none none fun v1005 =>
xLen v1005 fun v1006 =>
xEq v1006 (.int .i64 0) fun v1007 =>
xIf v1007 (XLdN w1003 a1000 2 fun v1008 =>
Ret P n_del_taker_here [v1008, a1] w1003 fun v1009 w1010 =>
K v1009 w1010) (xIxS v1005 (.int .i64 0) 1 fun v1011 =>
xAt v1011 fun a1012 =>
XLd w1003 a1012 fun v1013 =>
Ret P n_node_Node_Kid [a1, v1013] w1003 fun v1014 w1015 =>
XLdN w1015.drew a1000 2 fun v1016 =>
xCutS 1 v1005 (some (.int .i64 1)) none none fun v1017 =>
Ret P n_del_taker_out [v1016, v1014, v1017] w1015.drew fun v1018 w1019 =>
xPEq P w1019 v1018 v1014 fun v1020 =>
xIf v1020 (K a1 w1019) (xPNe P w1019 v1018 (.pointer none) fun v1021 =>
xIf v1021 (XLd w1019 (a1000.add 1) fun v1022 =>
XLd w1019 (a1000.add 0) fun v1023 =>
Ret P n_node_Node_Own [a1, v1022, v1023] w1019 fun v1024 w1025 =>
XLd w1025.drew (a1000.add 0) fun v1026 =>
xIxS v1005 (.int .i64 0) 1 fun v1027 =>
xAt v1027 fun a1028 =>
XLd w1025.drew a1028 fun v1029 =>
Ret P n_node_Node_SetKid [v1024, v1026, v1029, v1018] w1025.drew fun v1030 w1031 =>
K v1024 w1031) (XLdN w1019.drew a1000 2 fun v1032 =>
xIxS v1005 (.int .i64 0) 1 fun v1033 =>
xAt v1033 fun a1034 =>
XLd w1019.drew a1034 fun v1035 =>
Ret P n_del_taker_without [v1032, a1, v1035] w1019.drew fun v1036 w1037 =>
K v1036 w1037)))
theorem W_del_taker_out {a0 a1 a2 : Value} {K : Value → World → Prop} {w : World} (h : S_del_taker_out a0 a1 a2 K w) : Ret P n_del_taker_out [a0, a1, a2] w K :=
  vcF_of mixed Tryz.func81 (show S_del_taker_out a0 a1 a2 K w = vcF P Tryz.f81 [a0, a1, a2] w K from by kernel_rfl) h
/- (*sync/atomic.Int64).Add -/
abbrev S_atomic_Int64_Add (a0 : Value) (a1 : Value) (K : Value → World → Prop) (w0 : World) : Prop :=
xAt a0 fun a1000 =>
xCall P 124 [(.pointer (some (a1000.add 0))), a1] w0 fun v1001 w1002 =>
K v1001 w1002
theorem W_atomic_Int64_Add {a0 a1 : Value} {K : Value → World → Prop} {w : World} (h : S_atomic_Int64_Add a0 a1 K w) : Ret P n_atomic_Int64_Add [a0, a1] w K :=
  vcF_of mixed Tryz.func82 (show S_atomic_Int64_Add a0 a1 K w = vcF P Tryz.f82 [a0, a1] w K from by kernel_rfl) h
/- spunyarn/keys.Same -/
abbrev S_keys_Same (a0 : Value) (a1 : Value) (K : Value → World → Prop) (w0 : World) : Prop :=
Ret P n_bytes_Equal [a0, a1] w0 fun v1000 w1001 =>
K v1000 w1001
theorem W_keys_Same {a0 a1 : Value} {K : Value → World → Prop} {w : World} (h : S_keys_Same a0 a1 K w) : Ret P n_keys_Same [a0, a1] w K :=
  vcF_of mixed Tryz.func83 (show S_keys_Same a0 a1 K w = vcF P Tryz.f83 [a0, a1] w K from by kernel_rfl) h
/- (*spunyarn/node.Node).Copy -/
abbrev S_node_Node_Copy (a0 : Value) (a1 : Value) (a2 : Value) (K : Value → World → Prop) (w0 : World) : Prop :=
xPEq P w0 a0 (.pointer none) fun v1000 =>
xIf v1000 (K (.pointer none) w0) (Ret P n_meter_Meter_Made [a1, (.int .i64 1)] w0 fun v1001 w1002 =>
xAt a0 fun a1003 =>
XLdN w1002 a1003 5 fun v1004 =>
XNew w1002 [(.int .u64 0), (.slice none 0 0), (.int .u64 0), (.bool false), (.pointer none)] 81 fun a1005 w1006 =>
XDo P (storeVar 81 a1005 v1004) w1006 fun w1007 =>
XSt w1007 (a1005.add 0) a2 fun w1008 =>
xAt a0 fun a1009 =>
XLd w1008 (a1009.add 4) fun v1010 =>
Ret P n_kids_Kids_Copy [v1010] w1008 fun v1011 w1012 =>
XSt w1012 (a1005.add 4) v1011 fun w1013 =>
K (.pointer (some a1005)) w1013)
theorem W_node_Node_Copy {a0 a1 a2 : Value} {K : Value → World → Prop} {w : World} (h : S_node_Node_Copy a0 a1 a2 K w) : Ret P n_node_Node_Copy [a0, a1, a2] w K :=
  vcF_of mixed Tryz.func84 (show S_node_Node_Copy a0 a1 a2 K w = vcF P Tryz.f84 [a0, a1, a2] w K from by kernel_rfl) h
/- (*spunyarn/node.Node).SetPart -/
abbrev S_node_Node_SetPart (a0 : Value) (a1 : Value) (a2 : Value) (K : Value → World → Prop) (w0 : World) : Prop :=
Ret P n_node_Node_may [a0, a1] w0 fun v1000 w1001 =>
/-  -/ XJ (fun J1002 =>
xEq v1000 (.int .i64 0) fun v1006 =>
xIf v1006 (Ret P n_bytes_Clone [a2] w1001 fun v1007 w1008 =>
xAt a0 fun a1009 =>
XSt w1008 (a1009.add 1) v1007 fun w1010 =>
J1002 [] w1010) (J1002 [] w1001)) fun vs1003 g1004 w1005 =>
K v1000 w1005
theorem W_node_Node_SetPart {a0 a1 a2 : Value} {K : Value → World → Prop} {w : World} (h : S_node_Node_SetPart a0 a1 a2 K w) : Ret P n_node_Node_SetPart [a0, a1, a2] w K :=
  vcF_of mixed Tryz.func85 (show S_node_Node_SetPart a0 a1 a2 K w = vcF P Tryz.f85 [a0, a1, a2] w K from by kernel_rfl) h
/- (*spunyarn/kids.Kids[*spunyarn/node.Node]).Next -/
abbrev S_kids_Kids_Next (a0 : Value) (a1 : Value) (K : Value → World → Prop) (w0 : World) : Prop :=
Ret P n_kids_Kids_ok [a0] w0 fun v1000 w1001 =>
xNot v1000 fun v1002 =>
xIf v1002 (K (.tuple #[(.int .u8 0), (.pointer none), (.bool false)]) w1001) (xAt a0 fun a1003 =>
XLd w1001 (a1003.add 0) fun v1004 =>
xPNe P w1001 v1004 (.pointer none) fun v1005 =>
xIf v1005 (xAt a0 fun a1006 =>
XLd w1001 (a1006.add 0) fun v1007 =>
Ret P n_small_Row_Next [v1007, a1] w1001 fun v1008 w1009 =>
xTup v1008 0 fun v1010 =>
xTup v1008 1 fun v1011 =>
xTup v1008 2 fun v1012 =>
K (.tuple #[v1010, v1011, v1012]) w1009) (xAt a0 fun a1013 =>
XLd w1001 (a1013.add 1) fun v1014 =>
Ret P n_wide_Board_Next [v1014, a1] w1001 fun v1015 w1016 =>
xTup v1015 0 fun v1017 =>
xTup v1015 1 fun v1018 =>
xTup v1015 2 fun v1019 =>
K (.tuple #[v1017, v1018, v1019]) w1016))
theorem W_kids_Kids_Next {a0 a1 : Value} {K : Value → World → Prop} {w : World} (h : S_kids_Kids_Next a0 a1 K w) : Ret P n_kids_Kids_Next [a0, a1] w K :=
  vcF_of mixed Tryz.func86 (show S_kids_Kids_Next a0 a1 K w = vcF P Tryz.f86 [a0, a1] w K from by kernel_rfl) h
/- spunyarn/spunyarnref01.Common -/
/- S_ref01_Common_l1: 0=slot 5 n -/
def S_ref01_Common_l1 (K : Value → World → Prop) (a0 : Value) (a1 : Value) (I1000 : Nat → List Value → World → Prop) (n1001 : Nat) (vs1002 : List Value) (g1003 : Nat → Value) (w1004 : World) : Prop :=
/- 0 -/ XJ (fun J1005 =>
xLen a0 fun v1009 =>
xLt (vs1002.getD 0 undef) v1009 fun v1010 =>
xIf v1010 (xLen a1 fun v1011 =>
xLt (vs1002.getD 0 undef) v1011 fun v1012 =>
xIf v1012 (xIxS a0 (vs1002.getD 0 undef) 1 fun v1013 =>
xAt v1013 fun a1014 =>
XLd w1004.drew a1014 fun v1015 =>
xIxS a1 (vs1002.getD 0 undef) 1 fun v1016 =>
xAt v1016 fun a1017 =>
XLd w1004.drew a1017 fun v1018 =>
xEq v1015 v1018 fun v1019 =>
J1005 [v1019] (w1004.drew)) (J1005 [(.bool false)] (w1004.drew))) (J1005 [(.bool false)] (w1004.drew))) fun vs1006 g1007 w1008 =>
xIf (vs1006.getD 0 undef) (xAdd (vs1002.getD 0 undef) (.int .i64 1) fun v1020 =>
XNext I1000 n1001 [v1020] w1008) (K (vs1002.getD 0 undef) w1008)
abbrev S_ref01_Common (a0 : Value) (a1 : Value) (K : Value → World → Prop) (w0 : World) : Prop :=
XLoop [(.int .i64 0)] w0 (S_ref01_Common_l1 K a0 a1)
theorem W_ref01_Common {a0 a1 : Value} {K : Value → World → Prop} {w : World} (h : S_ref01_Common a0 a1 K w) : Ret P n_ref01_Common [a0, a1] w K :=
  vcF_of mixed Tryz.func87 (show S_ref01_Common a0 a1 K w = vcF P Tryz.f87 [a0, a1] w K from by kernel_rfl) h
/- spunyarn/canon.check -/
/- S_canon_check_l1: 0=slot 8 1=slot 5 e 2=slot 2 -/
def S_canon_check_l1 (K : Value → World → Prop) (a0 : Value) (v1000 : Value) (I1001 : Nat → List Value → World → Prop) (n1002 : Nat) (vs1003 : List Value) (g1004 : Nat → Value) (w1005 : World) : Prop :=
xLt (vs1003.getD 0 undef) v1000 fun v1006 =>
xIf v1006 (xIxS a0 (vs1003.getD 0 undef) 2 fun v1007 =>
xAt v1007 fun a1008 =>
XLdN w1005 a1008 2 fun v1009 =>
XNew w1005 [(.slice none 0 0), (.int .u64 0)] 89 fun a1010 w1011 =>
XDo P (storeVar 89 a1010 v1009) w1011 fun w1012 =>
XLd w1012 (a1010.add 0) fun v1013 =>
Ret P n_keys_May [v1013] w1012 fun v1014 w1015 =>
xNe v1014 (.int .i64 0) fun v1016 =>
xIf v1016 (K v1014 w1015) (xAdd (vs1003.getD 0 undef) (.int .i64 1) fun v1017 =>
XNext I1001 n1002 [v1017, v1014, (vs1003.getD 2 undef)] w1015)) (Ret P n_keys_Sorted [a0] w1005 fun v1018 w1019 =>
xNot v1018 fun v1020 =>
xIf v1020 (K (.int .i64 12) w1019) (K (.int .i64 0) w1019))
abbrev S_canon_check (a0 : Value) (K : Value → World → Prop) (w0 : World) : Prop :=
xLen a0 fun v1000 =>
XLoop [(.int .i64 0), undef, (.int .i64 0)] w0 (S_canon_check_l1 K a0 v1000)
theorem W_canon_check {a0 : Value} {K : Value → World → Prop} {w : World} (h : S_canon_check a0 K w) : Ret P n_canon_check [a0] w K :=
  vcF_of mixed Tryz.func88 (show S_canon_check a0 K w = vcF P Tryz.f88 [a0] w K from by kernel_rfl) h
/- (spunyarn/canon.maker).tree -/
/- S_canon_maker_tree_l1: 0=slot 11 many -/
def S_canon_maker_tree_l1 (a1000 : Addr) (v1028 : Value) (v1033 : Value) (I1049 : Nat → List Value → World → Prop) (n1050 : Nat) (vs1051 : List Value) (v1062 : Value) (I1063 : Nat → List Value → World → Prop) (n1064 : Nat) (vs1065 : List Value) (g1066 : Nat → Value) (w1067 : World) : Prop :=
/- 0 -/ XJ (fun J1068 =>
xLen (vs1051.getD 0 undef) fun v1072 =>
xLt (vs1065.getD 0 undef) v1072 fun v1073 =>
xIf v1073 (xIxS (vs1051.getD 0 undef) (vs1065.getD 0 undef) 2 fun v1074 =>
xFld v1074 0 fun v1075 =>
xAt v1075 fun a1076 =>
XLd w1067 a1076 fun v1077 =>
xIxS v1077 v1028 1 fun v1078 =>
xAt v1078 fun a1079 =>
XLd w1067 a1079 fun v1080 =>
xEq v1080 v1062 fun v1081 =>
J1068 [v1081] w1067) (J1068 [(.bool false)] w1067)) fun vs1069 g1070 w1071 =>
xIf (vs1069.getD 0 undef) (xAdd (vs1065.getD 0 undef) (.int .i64 1) fun v1082 =>
XNext I1063 n1064 [v1082] w1071) (XLd w1071.drew (a1000.add 1) fun v1083 =>
XLdN w1071.drew a1000 2 fun v1084 =>
xCutS 2 (vs1051.getD 0 undef) none (some (vs1065.getD 0 undef)) none fun v1085 =>
xAdd v1028 (.int .i64 1) fun v1086 =>
Ret P n_canon_maker_tree [v1084, v1085, v1086] w1071.drew fun v1087 w1088 =>
xKeep1 w1088 (.pointer (some (a1000.add 1))) v1083 ∧ (Ret P n_node_Node_SetKid [v1033, v1083, v1062, v1087] w1088 fun v1089 w1090 =>
xCutS 2 (vs1051.getD 0 undef) (some (vs1065.getD 0 undef)) none none fun v1091 =>
XNext I1049 n1050 [v1091, v1062, (vs1065.getD 0 undef)] w1090))
/- S_canon_maker_tree_l2: 0=slot 1 l 1=slot 10 b 2=slot 11 many -/
def S_canon_maker_tree_l2 (K : Value → World → Prop) (a1000 : Addr) (v1028 : Value) (v1033 : Value) (I1049 : Nat → List Value → World → Prop) (n1050 : Nat) (vs1051 : List Value) (g1052 : Nat → Value) (w1053 : World) : Prop :=
xLen (vs1051.getD 0 undef) fun v1054 =>
xGt v1054 (.int .i64 0) fun v1055 =>
xIf v1055 (xIxS (vs1051.getD 0 undef) (.int .i64 0) 2 fun v1056 =>
xFld v1056 0 fun v1057 =>
xAt v1057 fun a1058 =>
XLd w1053 a1058 fun v1059 =>
xIxS v1059 v1028 1 fun v1060 =>
xAt v1060 fun a1061 =>
XLd w1053 a1061 fun v1062 =>
XLoop [(.int .i64 1)] w1053 (S_canon_maker_tree_l1 a1000 v1028 v1033 I1049 n1050 vs1051 v1062)) (K v1033 w1053)
abbrev S_canon_maker_tree (a0 : Value) (a1 : Value) (a2 : Value) (K : Value → World → Prop) (w0 : World) : Prop :=
XNew w0 (cellsV a0) 137 fun a1000 w1001 =>
xLen a1 fun v1002 =>
xEq v1002 (.int .i64 0) fun v1003 =>
xIf v1003 (K (.pointer none) w1001) (xEq v1002 (.int .i64 1) fun v1004 =>
xIf v1004 (XLd w1001.drew (a1000.add 0) fun v1005 =>
XLd w1001.drew (a1000.add 1) fun v1006 =>
xIxS a1 (.int .i64 0) 2 fun v1007 =>
xFld v1007 0 fun v1008 =>
xAt v1008 fun a1009 =>
XLd w1001.drew a1009 fun v1010 =>
xCutS 1 v1010 (some a2) none none fun v1011 =>
xIxS a1 (.int .i64 0) 2 fun v1012 =>
xFld v1012 1 fun v1013 =>
xAt v1013 fun a1014 =>
XLd w1001.drew a1014 fun v1015 =>
Ret P n_node_Leaf [v1005, v1006, v1011, v1015] w1001.drew fun v1016 w1017 =>
K v1016 w1017) (xIxS a1 (.int .i64 0) 2 fun v1018 =>
xFld v1018 0 fun v1019 =>
xAt v1019 fun a1020 =>
XLd w1001 a1020 fun v1021 =>
xLen a1 fun v1022 =>
xSub v1022 (.int .i64 1) fun v1023 =>
xIxS a1 v1023 2 fun v1024 =>
xFld v1024 0 fun v1025 =>
xAt v1025 fun a1026 =>
XLd w1001 a1026 fun v1027 =>
Ret P n_keys_Common [v1021, v1027] w1001 fun v1028 w1029 =>
XLd w1029.drew (a1000.add 0) fun v1030 =>
XLd w1029.drew (a1000.add 1) fun v1031 =>
xCutS 1 v1021 (some a2) (some v1028) none fun v1032 =>
Ret P n_node_Inner [v1030, v1031, v1032] w1029.drew fun v1033 w1034 =>
/- 0 l -/ XJ (fun J1035 =>
xLen v1021 fun v1039 =>
xEq v1039 v1028 fun v1040 =>
xIf v1040 (XLd w1034.drew (a1000.add 1) fun v1041 =>
xIxS a1 (.int .i64 0) 2 fun v1042 =>
xFld v1042 1 fun v1043 =>
xAt v1043 fun a1044 =>
XLd w1034.drew a1044 fun v1045 =>
Ret P n_node_Node_SetVal [v1033, v1041, v1045] w1034.drew fun v1046 w1047 =>
xCutS 2 a1 (some (.int .i64 1)) none none fun v1048 =>
J1035 [v1048] w1047) (J1035 [a1] w1034)) fun vs1036 g1037 w1038 =>
XLoop [(vs1036.getD 0 undef), undef, undef] w1038 (S_canon_maker_tree_l2 K a1000 v1028 v1033)))
theorem W_canon_maker_tree {a0 a1 a2 : Value} {K : Value → World → Prop} {w : World} (h : S_canon_maker_tree a0 a1 a2 K w) : Ret P n_canon_maker_tree [a0, a1, a2] w K :=
  vcF_of mixed Tryz.func89 (show S_canon_maker_tree a0 a1 a2 K w = vcF P Tryz.f89 [a0, a1, a2] w K from by kernel_rfl) h
/- spunyarn/keys.Common -/
/- S_keys_Common_l1: 0=slot 11 1=slot 5 i 2=slot 4 -/
def S_keys_Common_l1 (K : Value → World → Prop) (a0 : Value) (a1 : Value) (v1002 : Value) (I1003 : Nat → List Value → World → Prop) (n1004 : Nat) (vs1005 : List Value) (g1006 : Nat → Value) (w1007 : World) : Prop :=
xLt (vs1005.getD 0 undef) v1002 fun v1008 =>
xIf v1008 (xIxS a0 (vs1005.getD 0 undef) 1 fun v1009 =>
xAt v1009 fun a1010 =>
XLd w1007.drew a1010 fun v1011 =>
xIxS a1 (vs1005.getD 0 undef) 1 fun v1012 =>
xAt v1012 fun a1013 =>
XLd w1007.drew a1013 fun v1014 =>
xNe v1011 v1014 fun v1015 =>
xIf v1015 (K (vs1005.getD 0 undef) (w1007.drew)) (xAdd (vs1005.getD 0 undef) (.int .i64 1) fun v1016 =>
XNext I1003 n1004 [v1016, (vs1005.getD 0 undef), (vs1005.getD 2 undef)] (w1007.drew))) (xLen a0 fun v1017 =>
xLen a1 fun v1018 =>
xMin v1017 v1018 fun v1019 =>
K v1019 w1007)
abbrev S_keys_Common (a0 : Value) (a1 : Value) (K : Value → World → Prop) (w0 : World) : Prop :=
xLen a0 fun v1000 =>
xLen a1 fun v1001 =>
xMin v1000 v1001 fun v1002 =>
XLoop [(.int .i64 0), undef, (.int .i64 0)] w0 (S_keys_Common_l1 K a0 a1 v1002)
theorem W_keys_Common {a0 a1 : Value} {K : Value → World → Prop} {w : World} (h : S_keys_Common a0 a1 K w) : Ret P n_keys_Common [a0, a1] w K :=
  vcF_of mixed Tryz.func90 (show S_keys_Common a0 a1 K w = vcF P Tryz.f90 [a0, a1] w K from by kernel_rfl) h
/- (*spunyarn/node.Node).Kid -/
abbrev S_node_Node_Kid (a0 : Value) (a1 : Value) (K : Value → World → Prop) (w0 : World) : Prop :=
xPEq P w0 a0 (.pointer none) fun v1000 =>
xIf v1000 (K (.pointer none) w0) (xAt a0 fun a1001 =>
XLd w0 (a1001.add 4) fun v1002 =>
Ret P n_kids_Kids_Get [v1002, a1] w0 fun v1003 w1004 =>
xTup v1003 0 fun v1005 =>
xTup v1003 1 fun v1006 =>
K v1005 w1004)
theorem W_node_Node_Kid {a0 a1 : Value} {K : Value → World → Prop} {w : World} (h : S_node_Node_Kid a0 a1 K w) : Ret P n_node_Node_Kid [a0, a1] w K :=
  vcF_of mixed Tryz.func91 (show S_node_Node_Kid a0 a1 K w = vcF P Tryz.f91 [a0, a1] w K from by kernel_rfl) h
/- spunyarn/spunyarnref01.Text -/
/- S_ref01_Text_l1: 0=slot 4 i 1=slot 3 s -/
def S_ref01_Text_l1 (K : Value → World → Prop) (a0 : Value) (I1000 : Nat → List Value → World → Prop) (n1001 : Nat) (vs1002 : List Value) (g1003 : Nat → Value) (w1004 : World) : Prop :=
xLen a0 fun v1005 =>
xLt (vs1002.getD 0 undef) v1005 fun v1006 =>
xIf v1006 (xIxS a0 (vs1002.getD 0 undef) 1 fun v1007 =>
xAt v1007 fun a1008 =>
XLd w1004 a1008 fun v1009 =>
Ret P n_ref01_digits [v1009] w1004 fun v1010 w1011 =>
xSCat (vs1002.getD 1 undef) v1010 fun v1012 =>
xAdd (vs1002.getD 0 undef) (.int .i64 1) fun v1013 =>
XNext I1000 n1001 [v1013, v1012] w1011) (K (vs1002.getD 1 undef) w1004)
abbrev S_ref01_Text (a0 : Value) (K : Value → World → Prop) (w0 : World) : Prop :=
XLoop [(.int .i64 0), (.string ⟨#[]⟩)] w0 (S_ref01_Text_l1 K a0)
theorem W_ref01_Text {a0 : Value} {K : Value → World → Prop} {w : World} (h : S_ref01_Text a0 K w) : Ret P n_ref01_Text [a0] w K :=
  vcF_of mixed Tryz.func93 (show S_ref01_Text a0 K w = vcF P Tryz.f93 [a0] w K from by kernel_rfl) h
/- spunyarn/spunyarnref13.Digits -/
/- S_ref13_Digits_l1: 0=slot 0 n 1=slot 4 d 2=slot 3 s 3=slot 2 -/
def S_ref13_Digits_l1 (K : Value → World → Prop) (I1000 : Nat → List Value → World → Prop) (n1001 : Nat) (vs1002 : List Value) (g1003 : Nat → Value) (w1004 : World) : Prop :=
xRem (vs1002.getD 0 undef) (.int .u64 10) fun v1005 =>
xConv .i64 v1005 fun v1006 =>
xAdd v1006 (.int .i64 1) fun v1007 =>
xCutStr (.string ⟨#[48, 49, 50, 51, 52, 53, 54, 55, 56, 57]⟩) (some v1006) (some v1007) fun v1008 =>
xSCat v1008 (vs1002.getD 2 undef) fun v1009 =>
xQuo (vs1002.getD 0 undef) (.int .u64 10) fun v1010 =>
xEq v1010 (.int .u64 0) fun v1011 =>
xIf v1011 (K v1009 w1004) (XNext I1000 n1001 [v1010, v1006, v1009, (vs1002.getD 3 undef)] w1004)
abbrev S_ref13_Digits (a0 : Value) (K : Value → World → Prop) (w0 : World) : Prop :=
XLoop [a0, undef, (.string ⟨#[]⟩), (.string ⟨#[]⟩)] w0 (S_ref13_Digits_l1 K)
theorem W_ref13_Digits {a0 : Value} {K : Value → World → Prop} {w : World} (h : S_ref13_Digits a0 K w) : Ret P n_ref13_Digits [a0] w K :=
  vcF_of mixed Tryz.func94 (show S_ref13_Digits a0 K w = vcF P Tryz.f94 [a0] w K from by kernel_rfl) h
/- spunyarn/spunyarnref13.build -/
/- S_ref13_build_l1: 0=slot 8 j -/
def S_ref13_build_l1 (a0 : Value) (v1021 : Value) (a1029 : Addr) (I1048 : Nat → List Value → World → Prop) (n1049 : Nat) (vs1050 : List Value) (I1055 : Nat → List Value → World → Prop) (n1056 : Nat) (vs1057 : List Value) (g1058 : Nat → Value) (w1059 : World) : Prop :=
/- 0 -/ XJ (fun J1060 =>
xLen a0 fun v1064 =>
xLt (vs1057.getD 0 undef) v1064 fun v1065 =>
xIf v1065 (xIxS a0 (vs1057.getD 0 undef) 2 fun v1066 =>
xFld v1066 0 fun v1067 =>
xAt v1067 fun a1068 =>
XLd w1059.drew a1068 fun v1069 =>
xIxS v1069 v1021 1 fun v1070 =>
xAt v1070 fun a1071 =>
XLd w1059.drew a1071 fun v1072 =>
xIxS a0 (vs1050.getD 0 undef) 2 fun v1073 =>
xFld v1073 0 fun v1074 =>
xAt v1074 fun a1075 =>
XLd w1059.drew a1075 fun v1076 =>
xIxS v1076 v1021 1 fun v1077 =>
xAt v1077 fun a1078 =>
XLd w1059.drew a1078 fun v1079 =>
xEq v1072 v1079 fun v1080 =>
J1060 [v1080] (w1059.drew)) (J1060 [(.bool false)] (w1059.drew))) fun vs1061 g1062 w1063 =>
xIf (vs1061.getD 0 undef) (xAdd (vs1057.getD 0 undef) (.int .i64 1) fun v1081 =>
XNext I1055 n1056 [v1081] w1063) (XLd w1063.drew (a1029.add 4) fun v1082 =>
xIxS a0 (vs1050.getD 0 undef) 2 fun v1083 =>
xFld v1083 0 fun v1084 =>
xAt v1084 fun a1085 =>
XLd w1063.drew a1085 fun v1086 =>
xIxS v1086 v1021 1 fun v1087 =>
xAt v1087 fun a1088 =>
XLd w1063.drew a1088 fun v1089 =>
xFill (repL [(.int .u8 0)] 1) [(0, 1, v1089)] fun c1090 =>
XNew w1063.drew c1090 5 fun a1091 w1092 =>
xKeep1 w1092 (.pointer (some (a1029.add 4))) v1082 ∧ (XRun P (Builtin.append_ #[26, 26] 26 #[v1082, (.slice (some a1091) 1 1)]) w1092 fun v1093 w1094 =>
XSt w1094 (a1029.add 4) v1093 fun w1095 =>
XLd w1095.drew (a1029.add 5) fun v1096 =>
xCutS 2 a0 (some (vs1050.getD 0 undef)) (some (vs1057.getD 0 undef)) none fun v1097 =>
xAdd v1021 (.int .i64 1) fun v1098 =>
Ret P n_ref13_build [v1097, v1098] w1095.drew fun v1099 w1100 =>
xKeep1 w1100 (.pointer (some (a1029.add 5))) v1096 ∧ (xFill (repL [(.int .i64 0), (.slice none 0 0), (.bool false), (.int .u64 0), (.slice none 0 0), (.slice none 0 0)] 1) [(0, 6, v1099)] fun c1101 =>
XNew w1100 c1101 98 fun a1102 w1103 =>
xKeep1 w1103 (.pointer (some (a1029.add 5))) v1096 ∧ (XRun P (Builtin.append_ #[96, 96] 96 #[v1096, (.slice (some a1102) 1 1)]) w1103 fun v1104 w1105 =>
XSt w1105 (a1029.add 5) v1104 fun w1106 =>
XNext I1048 n1049 [(vs1057.getD 0 undef), (vs1057.getD 0 undef)] w1106))))
/- S_ref13_build_l2: 0=slot 7 i 1=slot 8 j -/
def S_ref13_build_l2 (K : Value → World → Prop) (a0 : Value) (a1000 : Addr) (v1021 : Value) (a1029 : Addr) (I1048 : Nat → List Value → World → Prop) (n1049 : Nat) (vs1050 : List Value) (g1051 : Nat → Value) (w1052 : World) : Prop :=
xLen a0 fun v1053 =>
xLt (vs1050.getD 0 undef) v1053 fun v1054 =>
xIf v1054 (XLoop [(vs1050.getD 0 undef)] w1052 (S_ref13_build_l1 a0 v1021 a1029 I1048 n1049 vs1050)) (XLd w1052 (a1029.add 5) fun v1107 =>
xLen v1107 fun v1108 =>
Ret P n_ref11_KindOf [v1108] w1052 fun v1109 w1110 =>
XSt w1110 (a1029.add 0) v1109 fun w1111 =>
XLdN w1111 a1029 6 fun v1112 =>
XDo P (storeVar 98 a1000 v1112) w1111 fun w1113 =>
XLdN w1113 a1000 6 fun v1114 =>
K v1114 w1113)
abbrev S_ref13_build (a0 : Value) (a1 : Value) (K : Value → World → Prop) (w0 : World) : Prop :=
XNew w0 [(.int .i64 0), (.slice none 0 0), (.bool false), (.int .u64 0), (.slice none 0 0), (.slice none 0 0)] 98 fun a1000 w1001 =>
xLen a0 fun v1002 =>
xEq v1002 (.int .i64 0) fun v1003 =>
xIf v1003 (xFill [(.int .i64 0), (.slice none 0 0), (.bool false), (.int .u64 0), (.slice none 0 0), (.slice none 0 0)] [] fun c1004 =>
XDo P (storeVar 98 a1000 (.agg c1004.toArray)) w1001 fun w1005 =>
XLdN w1005 a1000 6 fun v1006 =>
K v1006 w1005) (xLen a0 fun v1007 =>
xEq v1007 (.int .i64 1) fun v1008 =>
xIf v1008 (xIxS a0 (.int .i64 0) 2 fun v1009 =>
xFld v1009 0 fun v1010 =>
xAt v1010 fun a1011 =>
XLd w1001.drew a1011 fun v1012 =>
xCutS 1 v1012 (some a1) none none fun v1013 =>
xIxS a0 (.int .i64 0) 2 fun v1014 =>
xFld v1014 1 fun v1015 =>
xAt v1015 fun a1016 =>
XLd w1001.drew a1016 fun v1017 =>
xFill [(.int .i64 0), (.slice none 0 0), (.bool false), (.int .u64 0), (.slice none 0 0), (.slice none 0 0)] [(0, 1, (.int .i64 1)), (1, 1, v1013), (2, 1, (.bool true)), (3, 1, v1017)] fun c1018 =>
XDo P (storeVar 98 a1000 (.agg c1018.toArray)) w1001.drew fun w1019 =>
XLdN w1019 a1000 6 fun v1020 =>
K v1020 w1019) (Ret P n_ref13_shared [a0] w1001 fun v1021 w1022 =>
xIxS a0 (.int .i64 0) 2 fun v1023 =>
xFld v1023 0 fun v1024 =>
xAt v1024 fun a1025 =>
XLd w1022 a1025 fun v1026 =>
xCutS 1 v1026 (some a1) (some v1021) none fun v1027 =>
xFill [(.int .i64 0), (.slice none 0 0), (.bool false), (.int .u64 0), (.slice none 0 0), (.slice none 0 0)] [(1, 1, v1027)] fun c1028 =>
XNew w1022 [(.int .i64 0), (.slice none 0 0), (.bool false), (.int .u64 0), (.slice none 0 0), (.slice none 0 0)] 98 fun a1029 w1030 =>
XDo P (storeVar 98 a1029 (.agg c1028.toArray)) w1030 fun w1031 =>
/- 0 i -/ XJ (fun J1032 =>
xIxS a0 (.int .i64 0) 2 fun v1036 =>
xFld v1036 0 fun v1037 =>
xAt v1037 fun a1038 =>
XLd w1031 a1038 fun v1039 =>
xLen v1039 fun v1040 =>
xEq v1040 v1021 fun v1041 =>
xIf v1041 (xIxS a0 (.int .i64 0) 2 fun v1042 =>
xFld v1042 1 fun v1043 =>
xAt v1043 fun a1044 =>
XLd w1031.drew a1044 fun v1045 =>
XSt w1031.drew (a1029.add 2) (.bool true) fun w1046 =>
xKeep1 w1046 v1043 v1045 ∧ (XSt w1046 (a1029.add 3) v1045 fun w1047 =>
J1032 [(.int .i64 1)] w1047)) (J1032 [(.int .i64 0)] w1031)) fun vs1033 g1034 w1035 =>
XLoop [(vs1033.getD 0 undef), undef] w1035 (S_ref13_build_l2 K a0 a1000 v1021 a1029)))
theorem W_ref13_build {a0 a1 : Value} {K : Value → World → Prop} {w : World} (h : S_ref13_build a0 a1 K w) : Ret P n_ref13_build [a0, a1] w K :=
  vcF_of mixed Tryz.func95 (show S_ref13_build a0 a1 K w = vcF P Tryz.f95 [a0, a1] w K from by kernel_rfl) h
/- (spunyarn/put.putter).here -/
abbrev S_put_putter_here (a0 : Value) (a1 : Value) (K : Value → World → Prop) (w0 : World) : Prop :=
XNew w0 (cellsV a0) 102 fun a1000 w1001 =>
XLd w1001 (a1000.add 2) fun v1002 =>
XLd w1001 (a1000.add 1) fun v1003 =>
Ret P n_node_Node_Own [a1, v1002, v1003] w1001 fun v1004 w1005 =>
XLd w1005 (a1000.add 1) fun v1006 =>
XLd w1005 (a1000.add 0) fun v1007 =>
Ret P n_node_Node_SetVal [v1004, v1006, v1007] w1005 fun v1008 w1009 =>
K v1004 w1009
theorem W_put_putter_here {a0 a1 : Value} {K : Value → World → Prop} {w : World} (h : S_put_putter_here a0 a1 K w) : Ret P n_put_putter_here [a0, a1] w K :=
  vcF_of mixed Tryz.func96 (show S_put_putter_here a0 a1 K w = vcF P Tryz.f96 [a0, a1] w K from by kernel_rfl) h
/- (spunyarn/put.putter).split -/
abbrev S_put_putter_split (a0 : Value) (a1 : Value) (a2 : Value) (a3 : Value) (a4 : Value) (K : Value → World → Prop) (w0 : World) : Prop :=
XNew w0 (cellsV a0) 102 fun a1000 w1001 =>
XLd w1001.drew (a1000.add 2) fun v1002 =>
XLd w1001.drew (a1000.add 1) fun v1003 =>
xCutS 1 a2 none (some a4) none fun v1004 =>
Ret P n_node_Inner [v1002, v1003, v1004] w1001.drew fun v1005 w1006 =>
/- 0 v 1 _ 2 kid -/ XJ (fun J1007 =>
xLen a2 fun v1011 =>
xEq a4 v1011 fun v1012 =>
xIf v1012 (Ret P n_node_Node_Val [a1] w1006 fun v1013 w1014 =>
xTup v1013 0 fun v1015 =>
xTup v1013 1 fun v1016 =>
XLd w1014 (a1000.add 1) fun v1017 =>
Ret P n_node_Node_SetVal [v1005, v1017, v1015] w1014 fun v1018 w1019 =>
J1007 [v1015, v1016, undef] w1019) (XLd w1006 (a1000.add 2) fun v1020 =>
XLd w1006 (a1000.add 1) fun v1021 =>
Ret P n_node_Node_Own [a1, v1020, v1021] w1006 fun v1022 w1023 =>
XLd w1023.drew (a1000.add 1) fun v1024 =>
xAdd a4 (.int .i64 1) fun v1025 =>
xCutS 1 a2 (some v1025) none none fun v1026 =>
Ret P n_node_Node_SetPart [v1022, v1024, v1026] w1023.drew fun v1027 w1028 =>
XLd w1028.drew (a1000.add 1) fun v1029 =>
xIxS a2 a4 1 fun v1030 =>
xAt v1030 fun a1031 =>
XLd w1028.drew a1031 fun v1032 =>
Ret P n_node_Node_SetKid [v1005, v1029, v1032, v1022] w1028.drew fun v1033 w1034 =>
J1007 [undef, undef, v1022] w1034)) fun vs1008 g1009 w1010 =>
/-  -/ XJ (fun J1035 =>
xLen a3 fun v1039 =>
xEq a4 v1039 fun v1040 =>
xIf v1040 (XLd w1010 (a1000.add 1) fun v1041 =>
XLd w1010 (a1000.add 0) fun v1042 =>
Ret P n_node_Node_SetVal [v1005, v1041, v1042] w1010 fun v1043 w1044 =>
J1035 [] w1044) (XLd w1010.drew (a1000.add 1) fun v1045 =>
xIxS a3 a4 1 fun v1046 =>
xAt v1046 fun a1047 =>
XLd w1010.drew a1047 fun v1048 =>
XLd w1010.drew (a1000.add 2) fun v1049 =>
XLd w1010.drew (a1000.add 1) fun v1050 =>
xAdd a4 (.int .i64 1) fun v1051 =>
xCutS 1 a3 (some v1051) none none fun v1052 =>
XLd w1010.drew (a1000.add 0) fun v1053 =>
Ret P n_node_Leaf [v1049, v1050, v1052, v1053] w1010.drew fun v1054 w1055 =>
xKeep1 w1055 v1046 v1048 ∧ (xKeep1 w1055 (.pointer (some (a1000.add 1))) v1045 ∧ (Ret P n_node_Node_SetKid [v1005, v1045, v1048, v1054] w1055 fun v1056 w1057 =>
J1035 [] w1057)))) fun vs1036 g1037 w1038 =>
K v1005 w1038
theorem W_put_putter_split {a0 a1 a2 a3 a4 : Value} {K : Value → World → Prop} {w : World} (h : S_put_putter_split a0 a1 a2 a3 a4 K w) : Ret P n_put_putter_split [a0, a1, a2, a3, a4] w K :=
  vcF_of mixed Tryz.func97 (show S_put_putter_split a0 a1 a2 a3 a4 K w = vcF P Tryz.f97 [a0, a1, a2, a3, a4] w K from by kernel_rfl) h
/- (spunyarn/put.putter).below -/
abbrev S_put_putter_below (a0 : Value) (a1 : Value) (a2 : Value) (K : Value → World → Prop) (w0 : World) : Prop :=
XNew w0 (cellsV a0) 102 fun a1000 w1001 =>
xIxS a2 (.int .i64 0) 1 fun v1002 =>
xAt v1002 fun a1003 =>
XLd w1001 a1003 fun v1004 =>
Ret P n_node_Node_Kid [a1, v1004] w1001 fun v1005 w1006 =>
XLdN w1006.drew a1000 3 fun v1007 =>
xCutS 1 a2 (some (.int .i64 1)) none none fun v1008 =>
Ret P n_put_putter_into [v1007, v1005, v1008] w1006.drew fun v1009 w1010 =>
xPEq P w1010 v1009 v1005 fun v1011 =>
xIf v1011 (K a1 w1010) (XLd w1010 (a1000.add 2) fun v1012 =>
XLd w1010 (a1000.add 1) fun v1013 =>
Ret P n_node_Node_Own [a1, v1012, v1013] w1010 fun v1014 w1015 =>
XLd w1015.drew (a1000.add 1) fun v1016 =>
xIxS a2 (.int .i64 0) 1 fun v1017 =>
xAt v1017 fun a1018 =>
XLd w1015.drew a1018 fun v1019 =>
Ret P n_node_Node_SetKid [v1014, v1016, v1019, v1009] w1015.drew fun v1020 w1021 =>
K v1014 w1021)
theorem W_put_putter_below {a0 a1 a2 : Value} {K : Value → World → Prop} {w : World} (h : S_put_putter_below a0 a1 a2 K w) : Ret P n_put_putter_below [a0, a1, a2] w K :=
  vcF_of mixed Tryz.func98 (show S_put_putter_below a0 a1 a2 K w = vcF P Tryz.f98 [a0, a1, a2] w K from by kernel_rfl) h
/- spunyarn/canon.each$1 -/
/- S_canon_each_1_l1: 0=slot 7 k 1=slot 6 b -/
def S_canon_each_1_l1 (K : Value → World → Prop) (a1 : Value) (a3 : Value) (v1003 : Value) (I1015 : Nat → List Value → World → Prop) (n1016 : Nat) (vs1017 : List Value) (g1018 : Nat → Value) (w1019 : World) : Prop :=
xPNe P w1019 (vs1017.getD 0 undef) (.pointer none) fun v1020 =>
xIf v1020 (xAt a3 fun a1021 =>
XLd w1019.drew a1021 fun v1022 =>
xFill (repL [(.int .u8 0)] 1) [(0, 1, (vs1017.getD 1 undef))] fun c1023 =>
XNew w1019.drew c1023 5 fun a1024 w1025 =>
xKeep1 w1025 a3 v1022 ∧ (XRun P (Builtin.append_ #[26, 26] 26 #[v1003, (.slice (some a1024) 1 1)]) w1025 fun v1026 w1027 =>
xKeep1 w1027 a3 v1022 ∧ (xFunc v1022 [v1026, (vs1017.getD 0 undef)] fun f1028 xs1029 =>
xCall P f1028 xs1029 w1027 fun v1030 w1031 =>
xConv .i64 (vs1017.getD 1 undef) fun v1032 =>
xAdd v1032 (.int .i64 1) fun v1033 =>
Ret P n_node_Node_Next [a1, v1033] w1031 fun v1034 w1035 =>
xTup v1034 0 fun v1036 =>
xTup v1034 1 fun v1037 =>
XNext I1015 n1016 [v1037, v1036] w1035))) (K (.tuple #[]) w1019)
abbrev S_canon_each_1 (a0 : Value) (a1 : Value) (a2 : Value) (a3 : Value) (K : Value → World → Prop) (w0 : World) : Prop :=
xPEq P w0 a1 (.pointer none) fun v1000 =>
xIf v1000 (K (.tuple #[]) w0) (Ret P n_node_Node_Part [a1] w0 fun v1001 w1002 =>
XRun P (Builtin.append_ #[26, 26] 26 #[a0, v1001]) w1002 fun v1003 w1004 =>
xAt a2 fun a1005 =>
XLd w1004 a1005 fun v1006 =>
xFunc v1006 [v1003, a1] fun f1007 xs1008 =>
xCall P f1007 xs1008 w1004 fun v1009 w1010 =>
Ret P n_node_Node_Next [a1, (.int .i64 0)] w1010 fun v1011 w1012 =>
xTup v1011 0 fun v1013 =>
xTup v1011 1 fun v1014 =>
XLoop [v1014, v1013] w1012 (S_canon_each_1_l1 K a1 a3 v1003))
theorem W_canon_each_1 {a0 a1 a2 a3 : Value} {K : Value → World → Prop} {w : World} (h : S_canon_each_1 a0 a1 a2 a3 K w) : Ret P n_canon_each_1 [a0, a1, a2, a3] w K :=
  vcF_of mixed Tryz.func99 (show S_canon_each_1 a0 a1 a2 a3 K w = vcF P Tryz.f99 [a0, a1, a2, a3] w K from by kernel_rfl) h
/- (*spunyarn/node.Node).isLeaf -/
abbrev S_node_Node_isLeaf (a0 : Value) (K : Value → World → Prop) (w0 : World) : Prop :=
xAt a0 fun a1000 =>
XLd w0 (a1000.add 4) fun v1001 =>
xPEq P w0 v1001 (.pointer none) fun v1002 =>
K v1002 w0
theorem W_node_Node_isLeaf {a0 : Value} {K : Value → World → Prop} {w : World} (h : S_node_Node_isLeaf a0 K w) : Ret P n_node_Node_isLeaf [a0] w K :=
  vcF_of mixed Tryz.func100 (show S_node_Node_isLeaf a0 K w = vcF P Tryz.f100 [a0] w K from by kernel_rfl) h
/- (*spunyarn/kids.Kids[*spunyarn/node.Node]).Kind -/
abbrev S_kids_Kids_Kind (a0 : Value) (K : Value → World → Prop) (w0 : World) : Prop :=
Ret P n_kids_Kids_ok [a0] w0 fun v1000 w1001 =>
xNot v1000 fun v1002 =>
xIf v1002 (K (.int .i64 0) w1001) (xAt a0 fun a1003 =>
XLd w1001 (a1003.add 0) fun v1004 =>
xPNe P w1001 v1004 (.pointer none) fun v1005 =>
xIf v1005 (xAt a0 fun a1006 =>
XLd w1001 (a1006.add 0) fun v1007 =>
Ret P n_small_Row_Room [v1007] w1001 fun v1008 w1009 =>
K v1008 w1009) (xAt a0 fun a1010 =>
XLd w1001 (a1010.add 1) fun v1011 =>
Ret P n_wide_Board_Room [v1011] w1001 fun v1012 w1013 =>
K v1012 w1013))
theorem W_kids_Kids_Kind {a0 : Value} {K : Value → World → Prop} {w : World} (h : S_kids_Kids_Kind a0 K w) : Ret P n_kids_Kids_Kind [a0] w K :=
  vcF_of mixed Tryz.func101 (show S_kids_Kids_Kind a0 K w = vcF P Tryz.f101 [a0] w K from by kernel_rfl) h
/- (*spunyarn/kids.Kids[*spunyarn/node.Node]).Len -/
abbrev S_kids_Kids_Len (a0 : Value) (K : Value → World → Prop) (w0 : World) : Prop :=
Ret P n_kids_Kids_ok [a0] w0 fun v1000 w1001 =>
xNot v1000 fun v1002 =>
xIf v1002 (K (.int .i64 0) w1001) (xAt a0 fun a1003 =>
XLd w1001 (a1003.add 0) fun v1004 =>
xPNe P w1001 v1004 (.pointer none) fun v1005 =>
xIf v1005 (xAt a0 fun a1006 =>
XLd w1001 (a1006.add 0) fun v1007 =>
Ret P n_small_Row_Len [v1007] w1001 fun v1008 w1009 =>
K v1008 w1009) (xAt a0 fun a1010 =>
XLd w1001 (a1010.add 1) fun v1011 =>
Ret P n_wide_Board_Len [v1011] w1001 fun v1012 w1013 =>
K v1012 w1013))
theorem W_kids_Kids_Len {a0 : Value} {K : Value → World → Prop} {w : World} (h : S_kids_Kids_Len a0 K w) : Ret P n_kids_Kids_Len [a0] w K :=
  vcF_of mixed Tryz.func102 (show S_kids_Kids_Len a0 K w = vcF P Tryz.f102 [a0] w K from by kernel_rfl) h
/- (*spunyarn/node.Node).Len -/
abbrev S_node_Node_Len (a0 : Value) (K : Value → World → Prop) (w0 : World) : Prop :=
xPEq P w0 a0 (.pointer none) fun v1000 =>
xIf v1000 (K (.int .i64 0) w0) (xAt a0 fun a1001 =>
XLd w0 (a1001.add 4) fun v1002 =>
Ret P n_kids_Kids_Len [v1002] w0 fun v1003 w1004 =>
K v1003 w1004)
theorem W_node_Node_Len {a0 : Value} {K : Value → World → Prop} {w : World} (h : S_node_Node_Len a0 K w) : Ret P n_node_Node_Len [a0] w K :=
  vcF_of mixed Tryz.func103 (show S_node_Node_Len a0 K w = vcF P Tryz.f103 [a0] w K from by kernel_rfl) h
/- bytes.HasPrefix -/
abbrev S_bytes_HasPrefix (a0 : Value) (a1 : Value) (K : Value → World → Prop) (w0 : World) : Prop :=
/- 0 -/ XJ (fun J1000 =>
xLen a0 fun v1004 =>
xLen a1 fun v1005 =>
xGe v1004 v1005 fun v1006 =>
xIf v1006 (xLen a1 fun v1007 =>
xCutS 1 a0 none (some v1007) none fun v1008 =>
Ret P n_bytes_Equal [v1008, a1] w0 fun v1009 w1010 =>
J1000 [v1009] w1010) (J1000 [(.bool false)] w0)) fun vs1001 g1002 w1003 =>
K (vs1001.getD 0 undef) w1003
theorem W_bytes_HasPrefix {a0 a1 : Value} {K : Value → World → Prop} {w : World} (h : S_bytes_HasPrefix a0 a1 K w) : Ret P n_bytes_HasPrefix [a0, a1] w K :=
  vcF_of mixed Tryz.func104 (show S_bytes_HasPrefix a0 a1 K w = vcF P Tryz.f104 [a0, a1] w K from by kernel_rfl) h
/- spunyarn/union.find$1 -/
abbrev S_union_find_1 (a0 : Value) (a1 : Value) (K : Value → World → Prop) (w0 : World) : Prop :=
K a0 w0
theorem W_union_find_1 {a0 a1 : Value} {K : Value → World → Prop} {w : World} (h : S_union_find_1 a0 a1 K w) : Ret P n_union_find_1 [a0, a1] w K :=
  vcF_of mixed Tryz.func105 (show S_union_find_1 a0 a1 K w = vcF P Tryz.f105 [a0, a1] w K from by kernel_rfl) h
/- spunyarn/union.find$2 -/
abbrev S_union_find_2 (a0 : Value) (a1 : Value) (K : Value → World → Prop) (w0 : World) : Prop :=
K a1 w0
theorem W_union_find_2 {a0 a1 : Value} {K : Value → World → Prop} {w : World} (h : S_union_find_2 a0 a1 K w) : Ret P n_union_find_2 [a0, a1] w K :=
  vcF_of mixed Tryz.func106 (show S_union_find_2 a0 a1 K w = vcF P Tryz.f106 [a0, a1] w K from by kernel_rfl) h
/- spunyarn/union.find$3 -/
abbrev S_union_find_3 (a0 : Value) (a1 : Value) (K : Value → World → Prop) (w0 : World) : Prop :=
xAdd a0 a1 fun v1000 =>
K v1000 w0
theorem W_union_find_3 {a0 a1 : Value} {K : Value → World → Prop} {w : World} (h : S_union_find_3 a0 a1 K w) : Ret P n_union_find_3 [a0, a1] w K :=
  vcF_of mixed Tryz.func107 (show S_union_find_3 a0 a1 K w = vcF P Tryz.f107 [a0, a1] w K from by kernel_rfl) h
/- spunyarn/union.find$4 -/
abbrev S_union_find_4 (a0 : Value) (a1 : Value) (K : Value → World → Prop) (w0 : World) : Prop :=
xMin a0 a1 fun v1000 =>
K v1000 w0
theorem W_union_find_4 {a0 a1 : Value} {K : Value → World → Prop} {w : World} (h : S_union_find_4 a0 a1 K w) : Ret P n_union_find_4 [a0, a1] w K :=
  vcF_of mixed Tryz.func108 (show S_union_find_4 a0 a1 K w = vcF P Tryz.f108 [a0, a1] w K from by kernel_rfl) h
/- spunyarn/union.find$5 -/
abbrev S_union_find_5 (a0 : Value) (a1 : Value) (K : Value → World → Prop) (w0 : World) : Prop :=
xMax a0 a1 fun v1000 =>
K v1000 w0
theorem W_union_find_5 {a0 a1 : Value} {K : Value → World → Prop} {w : World} (h : S_union_find_5 a0 a1 K w) : Ret P n_union_find_5 [a0, a1] w K :=
  vcF_of mixed Tryz.func109 (show S_union_find_5 a0 a1 K w = vcF P Tryz.f109 [a0, a1] w K from by kernel_rfl) h
/- (spunyarn/union.joiner).whole -/
abbrev S_union_joiner_whole (a0 : Value) (a1 : Value) (K : Value → World → Prop) (w0 : World) : Prop :=
XNew w0 (cellsV a0) 118 fun a1000 w1001 =>
XNew w1001 (cellsV a1) 121 fun a1002 w1003 =>
XLd w1003 (a1002.add 1) fun v1004 =>
xEq v1004 (.int .i64 0) fun v1005 =>
xIf v1005 (XLd w1003 (a1002.add 0) fun v1006 =>
K v1006 w1003) (XLdN w1003 a1000 4 fun v1007 =>
XLdN w1003 a1002 2 fun v1008 =>
Ret P n_union_joiner_copy [v1007, v1008] w1003 fun v1009 w1010 =>
K v1009 w1010)
theorem W_union_joiner_whole {a0 a1 : Value} {K : Value → World → Prop} {w : World} (h : S_union_joiner_whole a0 a1 K w) : Ret P n_union_joiner_whole [a0, a1] w K :=
  vcF_of mixed Tryz.func110 (show S_union_joiner_whole a0 a1 K w = vcF P Tryz.f110 [a0, a1] w K from by kernel_rfl) h
/- (spunyarn/union.end).part -/
abbrev S_union_end_part (a0 : Value) (K : Value → World → Prop) (w0 : World) : Prop :=
XNew w0 (cellsV a0) 121 fun a1000 w1001 =>
XLd w1001.drew (a1000.add 0) fun v1002 =>
XLd w1001.drew (a1000.add 1) fun v1003 =>
Ret P n_node_Node_Part [v1002] w1001.drew fun v1004 w1005 =>
xKeep1 w1005 (.pointer (some (a1000.add 1))) v1003 ∧ (xCutS 1 v1004 (some v1003) none none fun v1006 =>
K v1006 w1005)
theorem W_union_end_part {a0 : Value} {K : Value → World → Prop} {w : World} (h : S_union_end_part a0 K w) : Ret P n_union_end_part [a0] w K :=
  vcF_of mixed Tryz.func111 (show S_union_end_part a0 K w = vcF P Tryz.f111 [a0] w K from by kernel_rfl) h
/- (spunyarn/union.joiner).fork -/
abbrev S_union_joiner_fork (a0 : Value) (a1 : Value) (a2 : Value) (a3 : Value) (a4 : Value) (a5 : Value) (K : Value → World → Prop) (w0 : World) : Prop :=
XNew w0 (cellsV a0) 118 fun a1000 w1001 =>
XNew w1001 (cellsV a3) 121 fun a1002 w1003 =>
XNew w1003 (cellsV a5) 121 fun a1004 w1005 =>
XLd w1005 (a1000.add 3) fun v1006 =>
XLd w1005 (a1000.add 2) fun v1007 =>
Ret P n_node_Inner [v1006, v1007, a1] w1005 fun v1008 w1009 =>
XLd w1009.drew (a1000.add 2) fun v1010 =>
XLdN w1009.drew a1000 4 fun v1011 =>
XLdN w1009.drew a1002 2 fun v1012 =>
Ret P n_union_joiner_whole [v1011, v1012] w1009.drew fun v1013 w1014 =>
xKeep1 w1014 (.pointer (some (a1000.add 2))) v1010 ∧ (Ret P n_node_Node_SetKid [v1008, v1010, a2, v1013] w1014 fun v1015 w1016 =>
XLd w1016.drew (a1000.add 2) fun v1017 =>
XLdN w1016.drew a1000 4 fun v1018 =>
XLdN w1016.drew a1004 2 fun v1019 =>
Ret P n_union_joiner_whole [v1018, v1019] w1016.drew fun v1020 w1021 =>
xKeep1 w1021 (.pointer (some (a1000.add 2))) v1017 ∧ (Ret P n_node_Node_SetKid [v1008, v1017, a4, v1020] w1021 fun v1022 w1023 =>
K v1008 w1023))
theorem W_union_joiner_fork {a0 a1 a2 a3 a4 a5 : Value} {K : Value → World → Prop} {w : World} (h : S_union_joiner_fork a0 a1 a2 a3 a4 a5 K w) : Ret P n_union_joiner_fork [a0, a1, a2, a3, a4, a5] w K :=
  vcF_of mixed Tryz.func112 (show S_union_joiner_fork a0 a1 a2 a3 a4 a5 K w = vcF P Tryz.f112 [a0, a1, a2, a3, a4, a5] w K from by kernel_rfl) h
/- (spunyarn/union.end).behind -/
abbrev S_union_end_behind (a0 : Value) (a1 : Value) (K : Value → World → Prop) (w0 : World) : Prop :=
XNew w0 (cellsV a0) 121 fun a1000 w1001 =>
XNew w1001 [(.pointer none), (.int .i64 0)] 121 fun a1002 w1003 =>
XLd w1003 (a1000.add 0) fun v1004 =>
XLd w1003 (a1000.add 1) fun v1005 =>
xAdd v1005 a1 fun v1006 =>
xAdd v1006 (.int .i64 1) fun v1007 =>
xFill [(.pointer none), (.int .i64 0)] [(0, 1, v1004), (1, 1, v1007)] fun c1008 =>
XDo P (storeVar 121 a1002 (.agg c1008.toArray)) w1003 fun w1009 =>
XLdN w1009 a1002 2 fun v1010 =>
K v1010 w1009
theorem W_union_end_behind {a0 a1 : Value} {K : Value → World → Prop} {w : World} (h : S_union_end_behind a0 a1 K w) : Ret P n_union_end_behind [a0, a1] w K :=
  vcF_of mixed Tryz.func113 (show S_union_end_behind a0 a1 K w = vcF P Tryz.f113 [a0, a1] w K from by kernel_rfl) h
/- (spunyarn/union.joiner).under -/
abbrev S_union_joiner_under (a0 : Value) (a1 : Value) (a2 : Value) (a3 : Value) (a4 : Value) (K : Value → World → Prop) (w0 : World) : Prop :=
XNew w0 (cellsV a0) 118 fun a1000 w1001 =>
XNew w1001 (cellsV a1) 121 fun a1002 w1003 =>
XNew w1003 (cellsV a3) 121 fun a1004 w1005 =>
XLdN w1005 a1002 2 fun v1006 =>
Ret P n_union_end_leaf [v1006] w1005 fun v1007 w1008 =>
xIf v1007 (XLd w1008.drew (a1000.add 3) fun v1009 =>
XLd w1008.drew (a1000.add 2) fun v1010 =>
XLdN w1008.drew a1002 2 fun v1011 =>
Ret P n_union_end_part [v1011] w1008.drew fun v1012 w1013 =>
xKeep1 w1013 (.pointer (some (a1000.add 2))) v1010 ∧ (xKeep1 w1013 (.pointer (some (a1000.add 3))) v1009 ∧ (Ret P n_node_Inner [v1009, v1010, v1012] w1013 fun v1014 w1015 =>
XLd w1015 (a1002.add 0) fun v1016 =>
Ret P n_node_Node_Val [v1016] w1015 fun v1017 w1018 =>
xTup v1017 0 fun v1019 =>
xTup v1017 1 fun v1020 =>
XLd w1018 (a1000.add 2) fun v1021 =>
Ret P n_node_Node_SetVal [v1014, v1021, v1019] w1018 fun v1022 w1023 =>
XLd w1023.drew (a1000.add 2) fun v1024 =>
XLdN w1023.drew a1000 4 fun v1025 =>
XLdN w1023.drew a1004 2 fun v1026 =>
Ret P n_union_joiner_whole [v1025, v1026] w1023.drew fun v1027 w1028 =>
xKeep1 w1028 (.pointer (some (a1000.add 2))) v1024 ∧ (Ret P n_node_Node_SetKid [v1014, v1024, a2, v1027] w1028 fun v1029 w1030 =>
K v1014 w1030)))) (XLdN w1008 a1002 2 fun v1031 =>
Ret P n_union_end_kid [v1031, a2] w1008 fun v1032 w1033 =>
XNew w1033 [(.pointer none), (.int .i64 0)] 121 fun a1034 w1035 =>
XDo P (storeVar 121 a1034 v1032) w1035 fun w1036 =>
XLdN w1036.drew a1034 2 fun v1037 =>
XLdN w1036.drew a1004 2 fun v1038 =>
(XNew w1036.drew [(.pointer none), (.int .i64 0)] 121 fun a1039 w1040 =>
xKeepN w1040 (.pointer (some a1004)) v1038 ∧ (xKeepN w1040 (.pointer (some a1034)) v1037 ∧ (XNew w1040 [(.pointer none), (.int .i64 0)] 121 fun a1041 w1042 =>
xKeepN w1042 (.pointer (some a1004)) v1038 ∧ (xKeepN w1042 (.pointer (some a1034)) v1037 ∧ (XDo P (storeVar 121 a1039 v1037) w1042 fun w1043 =>
xKeepN w1043 (.pointer (some a1004)) v1038 ∧ (XDo P (storeVar 121 a1041 v1038) w1043 fun w1044 =>
/-  -/ XJ (fun J1045 =>
xIf a4 (XLdN w1044.drew a1004 2 fun v1049 =>
XLdN w1044.drew a1034 2 fun v1050 =>
XDo P (storeVar 121 a1039 v1049) w1044.drew fun w1051 =>
xKeepN w1051 (.pointer (some a1034)) v1050 ∧ (XDo P (storeVar 121 a1041 v1050) w1051 fun w1052 =>
J1045 [] w1052)) (J1045 [] w1044)) fun vs1046 g1047 w1048 =>
XLdN w1048 a1000 4 fun v1053 =>
XLdN w1048 a1039 2 fun v1054 =>
XLdN w1048 a1041 2 fun v1055 =>
Ret P n_union_joiner_of [v1053, v1054, v1055] w1048 fun v1056 w1057 =>
XLd w1057 (a1034.add 0) fun v1058 =>
xPEq P w1057 v1056 v1058 fun v1059 =>
xIf v1059 (XLdN w1057 a1000 4 fun v1060 =>
XLdN w1057 a1002 2 fun v1061 =>
Ret P n_union_joiner_whole [v1060, v1061] w1057 fun v1062 w1063 =>
K v1062 w1063) (XLdN w1057 a1000 4 fun v1064 =>
XLdN w1057 a1002 2 fun v1065 =>
Ret P n_union_joiner_copy [v1064, v1065] w1057 fun v1066 w1067 =>
XLd w1067 (a1000.add 2) fun v1068 =>
Ret P n_node_Node_SetKid [v1066, v1068, a2, v1056] w1067 fun v1069 w1070 =>
K v1066 w1070))))))) ∧ (XNew w1036.drew [(.pointer none), (.int .i64 0)] 121 fun a1071 w1072 =>
xKeepN w1072 (.pointer (some a1004)) v1038 ∧ (xKeepN w1072 (.pointer (some a1034)) v1037 ∧ (XNew w1072 [(.pointer none), (.int .i64 0)] 121 fun a1073 w1074 =>
xKeepN w1074 (.pointer (some a1004)) v1038 ∧ (xKeepN w1074 (.pointer (some a1034)) v1037 ∧ (XDo P (storeVar 121 a1073 v1037) w1074 fun w1075 =>
xKeepN w1075 (.pointer (some a1004)) v1038 ∧ (XDo P (storeVar 121 a1071 v1038) w1075 fun w1076 =>
/-  -/ XJ (fun J1077 =>
xIf a4 (XLdN w1076.drew a1004 2 fun v1081 =>
XLdN w1076.drew a1034 2 fun v1082 =>
XDo P (storeVar 121 a1073 v1081) w1076.drew fun w1083 =>
xKeepN w1083 (.pointer (some a1034)) v1082 ∧ (XDo P (storeVar 121 a1071 v1082) w1083 fun w1084 =>
J1077 [] w1084)) (J1077 [] w1076)) fun vs1078 g1079 w1080 =>
XLdN w1080 a1000 4 fun v1085 =>
XLdN w1080 a1073 2 fun v1086 =>
XLdN w1080 a1071 2 fun v1087 =>
Ret P n_union_joiner_of [v1085, v1086, v1087] w1080 fun v1088 w1089 =>
XLd w1089 (a1034.add 0) fun v1090 =>
xPEq P w1089 v1088 v1090 fun v1091 =>
xIf v1091 (XLdN w1089 a1000 4 fun v1092 =>
XLdN w1089 a1002 2 fun v1093 =>
Ret P n_union_joiner_whole [v1092, v1093] w1089 fun v1094 w1095 =>
K v1094 w1095) (XLdN w1089 a1000 4 fun v1096 =>
XLdN w1089 a1002 2 fun v1097 =>
Ret P n_union_joiner_copy [v1096, v1097] w1089 fun v1098 w1099 =>
XLd w1099 (a1000.add 2) fun v1100 =>
Ret P n_node_Node_SetKid [v1098, v1100, a2, v1088] w1099 fun v1101 w1102 =>
K v1098 w1102))))))))
theorem W_union_joiner_under {a0 a1 a2 a3 a4 : Value} {K : Value → World → Prop} {w : World} (h : S_union_joiner_under a0 a1 a2 a3 a4 K w) : Ret P n_union_joiner_under [a0, a1, a2, a3, a4] w K :=
  vcF_of mixed Tryz.func114 (show S_union_joiner_under a0 a1 a2 a3 a4 K w = vcF P Tryz.f114 [a0, a1, a2, a3, a4] w K from by kernel_rfl) h
/- (spunyarn/union.joiner).level -/
/- S_union_joiner_level_l1: 0=slot 15 kid 1=slot 14 c 2=slot 16 mine 3=slot 17 now 4=slot 13 n -/
def S_union_joiner_level_l1 (K : Value → World → Prop) (a1000 : Addr) (a1008 : Addr) (a1010 : Addr) (I1074 : Nat → List Value → World → Prop) (n1075 : Nat) (vs1076 : List Value) (g1077 : Nat → Value) (w1078 : World) : Prop :=
xPNe P w1078 (vs1076.getD 0 undef) (.pointer none) fun v1079 =>
xIf v1079 (/- 0 mine 1 now 2 n -/ XJ (fun J1080 =>
XLd w1078 (a1008.add 0) fun v1084 =>
Ret P n_node_Node_Kid [v1084, (vs1076.getD 1 undef)] w1078 fun v1085 w1086 =>
XLdN w1086 a1000 4 fun v1087 =>
xFill [(.pointer none), (.int .i64 0)] [(0, 1, v1085)] fun c1088 =>
xFill [(.pointer none), (.int .i64 0)] [(0, 1, (vs1076.getD 0 undef))] fun c1089 =>
Ret P n_union_joiner_of [v1087, (.agg c1088.toArray), (.agg c1089.toArray)] w1086 fun v1090 w1091 =>
xPNe P w1091 v1090 v1085 fun v1092 =>
xIf v1092 (XLdN w1091 a1000 4 fun v1093 =>
XLdN w1091 a1008 2 fun v1094 =>
Ret P n_union_joiner_write [v1093, (vs1076.getD 4 undef), v1094] w1091 fun v1095 w1096 =>
XLd w1096 (a1000.add 2) fun v1097 =>
Ret P n_node_Node_SetKid [v1095, v1097, (vs1076.getD 1 undef), v1090] w1096 fun v1098 w1099 =>
J1080 [v1085, v1090, v1095] w1099) (J1080 [v1085, v1090, (vs1076.getD 4 undef)] w1091)) fun vs1081 g1082 w1083 =>
XLd w1083 (a1010.add 0) fun v1100 =>
xConv .i64 (vs1076.getD 1 undef) fun v1101 =>
xAdd v1101 (.int .i64 1) fun v1102 =>
Ret P n_node_Node_Next [v1100, v1102] w1083 fun v1103 w1104 =>
xTup v1103 0 fun v1105 =>
xTup v1103 1 fun v1106 =>
XNext I1074 n1075 [v1106, v1105, (vs1081.getD 0 undef), (vs1081.getD 1 undef), (vs1081.getD 2 undef)] w1104) (XLdN w1078 a1000 4 fun v1107 =>
XLdN w1078 a1008 2 fun v1108 =>
Ret P n_union_joiner_done [v1107, (vs1076.getD 4 undef), v1108] w1078 fun v1109 w1110 =>
K v1109 w1110)
/- S_union_joiner_level_l2: 0=slot 15 kid 1=slot 14 c 2=slot 16 mine 3=slot 17 now 4=slot 13 n -/
def S_union_joiner_level_l2 (K : Value → World → Prop) (a1000 : Addr) (a1111 : Addr) (a1113 : Addr) (I1177 : Nat → List Value → World → Prop) (n1178 : Nat) (vs1179 : List Value) (g1180 : Nat → Value) (w1181 : World) : Prop :=
xPNe P w1181 (vs1179.getD 0 undef) (.pointer none) fun v1182 =>
xIf v1182 (/- 0 mine 1 now 2 n -/ XJ (fun J1183 =>
XLd w1181 (a1113.add 0) fun v1187 =>
Ret P n_node_Node_Kid [v1187, (vs1179.getD 1 undef)] w1181 fun v1188 w1189 =>
XLdN w1189 a1000 4 fun v1190 =>
xFill [(.pointer none), (.int .i64 0)] [(0, 1, v1188)] fun c1191 =>
xFill [(.pointer none), (.int .i64 0)] [(0, 1, (vs1179.getD 0 undef))] fun c1192 =>
Ret P n_union_joiner_of [v1190, (.agg c1191.toArray), (.agg c1192.toArray)] w1189 fun v1193 w1194 =>
xPNe P w1194 v1193 v1188 fun v1195 =>
xIf v1195 (XLdN w1194 a1000 4 fun v1196 =>
XLdN w1194 a1113 2 fun v1197 =>
Ret P n_union_joiner_write [v1196, (vs1179.getD 4 undef), v1197] w1194 fun v1198 w1199 =>
XLd w1199 (a1000.add 2) fun v1200 =>
Ret P n_node_Node_SetKid [v1198, v1200, (vs1179.getD 1 undef), v1193] w1199 fun v1201 w1202 =>
J1183 [v1188, v1193, v1198] w1202) (J1183 [v1188, v1193, (vs1179.getD 4 undef)] w1194)) fun vs1184 g1185 w1186 =>
XLd w1186 (a1111.add 0) fun v1203 =>
xConv .i64 (vs1179.getD 1 undef) fun v1204 =>
xAdd v1204 (.int .i64 1) fun v1205 =>
Ret P n_node_Node_Next [v1203, v1205] w1186 fun v1206 w1207 =>
xTup v1206 0 fun v1208 =>
xTup v1206 1 fun v1209 =>
XNext I1177 n1178 [v1209, v1208, (vs1184.getD 0 undef), (vs1184.getD 1 undef), (vs1184.getD 2 undef)] w1207) (XLdN w1181 a1000 4 fun v1210 =>
XLdN w1181 a1113 2 fun v1211 =>
Ret P n_union_joiner_done [v1210, (vs1179.getD 4 undef), v1211] w1181 fun v1212 w1213 =>
K v1212 w1213)
abbrev S_union_joiner_level (a0 : Value) (a1 : Value) (a2 : Value) (K : Value → World → Prop) (w0 : World) : Prop :=
XNew w0 (cellsV a0) 118 fun a1000 w1001 =>
XNew w1001 (cellsV a1) 121 fun a1002 w1003 =>
XNew w1003 (cellsV a2) 121 fun a1004 w1005 =>
XLdN w1005.drew a1002 2 fun v1006 =>
XLdN w1005.drew a1004 2 fun v1007 =>
(XNew w1005.drew [(.pointer none), (.int .i64 0)] 121 fun a1008 w1009 =>
xKeepN w1009 (.pointer (some a1004)) v1007 ∧ (xKeepN w1009 (.pointer (some a1002)) v1006 ∧ (XNew w1009 [(.pointer none), (.int .i64 0)] 121 fun a1010 w1011 =>
xKeepN w1011 (.pointer (some a1004)) v1007 ∧ (xKeepN w1011 (.pointer (some a1002)) v1006 ∧ (XDo P (storeVar 121 a1008 v1006) w1011 fun w1012 =>
xKeepN w1012 (.pointer (some a1004)) v1007 ∧ (XDo P (storeVar 121 a1010 v1007) w1012 fun w1013 =>
/-  -/ XJ (fun J1014 =>
/- 0 -/ XJ (fun J1018 =>
XLdN w1013 a1002 2 fun v1022 =>
Ret P n_union_end_leaf [v1022] w1013 fun v1023 w1024 =>
xIf v1023 (XLdN w1024 a1004 2 fun v1025 =>
Ret P n_union_end_leaf [v1025] w1024 fun v1026 w1027 =>
xNot v1026 fun v1028 =>
J1018 [v1028] w1027) (J1018 [(.bool false)] w1024)) fun vs1019 g1020 w1021 =>
xIf (vs1019.getD 0 undef) (XLdN w1021.drew a1004 2 fun v1029 =>
XLdN w1021.drew a1002 2 fun v1030 =>
XDo P (storeVar 121 a1008 v1029) w1021.drew fun w1031 =>
xKeepN w1031 (.pointer (some a1002)) v1030 ∧ (XDo P (storeVar 121 a1010 v1030) w1031 fun w1032 =>
J1014 [] w1032)) (J1014 [] w1021)) fun vs1015 g1016 w1017 =>
XLdN w1017 a1000 4 fun v1033 =>
XLd w1017 (a1002.add 0) fun v1034 =>
XLd w1017 (a1004.add 0) fun v1035 =>
Ret P n_union_joiner_value [v1033, v1034, v1035] w1017 fun v1036 w1037 =>
xTup v1036 0 fun v1038 =>
xTup v1036 1 fun v1039 =>
XLd w1037 (a1008.add 0) fun v1040 =>
Ret P n_node_Node_Val [v1040] w1037 fun v1041 w1042 =>
xTup v1041 0 fun v1043 =>
xTup v1041 1 fun v1044 =>
/- 0 n -/ XJ (fun J1045 =>
/- 0 -/ XJ (fun J1049 =>
xBNe v1039 v1044 fun v1053 =>
xIf v1053 (J1049 [(.bool true)] w1042) (xNe v1038 v1043 fun v1054 =>
J1049 [v1054] w1042)) fun vs1050 g1051 w1052 =>
xIf (vs1050.getD 0 undef) (XLdN w1052 a1000 4 fun v1055 =>
XLdN w1052 a1008 2 fun v1056 =>
Ret P n_union_joiner_write [v1055, (.pointer none), v1056] w1052 fun v1057 w1058 =>
XLd w1058 (a1000.add 2) fun v1059 =>
Ret P n_node_Node_SetVal [v1057, v1059, v1038] w1058 fun v1060 w1061 =>
J1045 [v1057] w1061) (J1045 [(.pointer none)] w1052)) fun vs1046 g1047 w1048 =>
XLdN w1048 a1010 2 fun v1062 =>
Ret P n_union_end_leaf [v1062] w1048 fun v1063 w1064 =>
xIf v1063 (XLdN w1064 a1000 4 fun v1065 =>
XLdN w1064 a1008 2 fun v1066 =>
Ret P n_union_joiner_done [v1065, (vs1046.getD 0 undef), v1066] w1064 fun v1067 w1068 =>
K v1067 w1068) (XLd w1064 (a1010.add 0) fun v1069 =>
Ret P n_node_Node_Next [v1069, (.int .i64 0)] w1064 fun v1070 w1071 =>
xTup v1070 0 fun v1072 =>
xTup v1070 1 fun v1073 =>
XLoop [v1073, v1072, undef, undef, (vs1046.getD 0 undef)] w1071 (S_union_joiner_level_l1 K a1000 a1008 a1010)))))))) ∧ (XNew w1005.drew [(.pointer none), (.int .i64 0)] 121 fun a1111 w1112 =>
xKeepN w1112 (.pointer (some a1004)) v1007 ∧ (xKeepN w1112 (.pointer (some a1002)) v1006 ∧ (XNew w1112 [(.pointer none), (.int .i64 0)] 121 fun a1113 w1114 =>
xKeepN w1114 (.pointer (some a1004)) v1007 ∧ (xKeepN w1114 (.pointer (some a1002)) v1006 ∧ (XDo P (storeVar 121 a1113 v1006) w1114 fun w1115 =>
xKeepN w1115 (.pointer (some a1004)) v1007 ∧ (XDo P (storeVar 121 a1111 v1007) w1115 fun w1116 =>
/-  -/ XJ (fun J1117 =>
/- 0 -/ XJ (fun J1121 =>
XLdN w1116 a1002 2 fun v1125 =>
Ret P n_union_end_leaf [v1125] w1116 fun v1126 w1127 =>
xIf v1126 (XLdN w1127 a1004 2 fun v1128 =>
Ret P n_union_end_leaf [v1128] w1127 fun v1129 w1130 =>
xNot v1129 fun v1131 =>
J1121 [v1131] w1130) (J1121 [(.bool false)] w1127)) fun vs1122 g1123 w1124 =>
xIf (vs1122.getD 0 undef) (XLdN w1124.drew a1004 2 fun v1132 =>
XLdN w1124.drew a1002 2 fun v1133 =>
XDo P (storeVar 121 a1113 v1132) w1124.drew fun w1134 =>
xKeepN w1134 (.pointer (some a1002)) v1133 ∧ (XDo P (storeVar 121 a1111 v1133) w1134 fun w1135 =>
J1117 [] w1135)) (J1117 [] w1124)) fun vs1118 g1119 w1120 =>
XLdN w1120 a1000 4 fun v1136 =>
XLd w1120 (a1002.add 0) fun v1137 =>
XLd w1120 (a1004.add 0) fun v1138 =>
Ret P n_union_joiner_value [v1136, v1137, v1138] w1120 fun v1139 w1140 =>
xTup v1139 0 fun v1141 =>
xTup v1139 1 fun v1142 =>
XLd w1140 (a1113.add 0) fun v1143 =>
Ret P n_node_Node_Val [v1143] w1140 fun v1144 w1145 =>
xTup v1144 0 fun v1146 =>
xTup v1144 1 fun v1147 =>
/- 0 n -/ XJ (fun J1148 =>
/- 0 -/ XJ (fun J1152 =>
xBNe v1142 v1147 fun v1156 =>
xIf v1156 (J1152 [(.bool true)] w1145) (xNe v1141 v1146 fun v1157 =>
J1152 [v1157] w1145)) fun vs1153 g1154 w1155 =>
xIf (vs1153.getD 0 undef) (XLdN w1155 a1000 4 fun v1158 =>
XLdN w1155 a1113 2 fun v1159 =>
Ret P n_union_joiner_write [v1158, (.pointer none), v1159] w1155 fun v1160 w1161 =>
XLd w1161 (a1000.add 2) fun v1162 =>
Ret P n_node_Node_SetVal [v1160, v1162, v1141] w1161 fun v1163 w1164 =>
J1148 [v1160] w1164) (J1148 [(.pointer none)] w1155)) fun vs1149 g1150 w1151 =>
XLdN w1151 a1111 2 fun v1165 =>
Ret P n_union_end_leaf [v1165] w1151 fun v1166 w1167 =>
xIf v1166 (XLdN w1167 a1000 4 fun v1168 =>
XLdN w1167 a1113 2 fun v1169 =>
Ret P n_union_joiner_done [v1168, (vs1149.getD 0 undef), v1169] w1167 fun v1170 w1171 =>
K v1170 w1171) (XLd w1167 (a1111.add 0) fun v1172 =>
Ret P n_node_Node_Next [v1172, (.int .i64 0)] w1167 fun v1173 w1174 =>
xTup v1173 0 fun v1175 =>
xTup v1173 1 fun v1176 =>
XLoop [v1176, v1175, undef, undef, (vs1149.getD 0 undef)] w1174 (S_union_joiner_level_l2 K a1000 a1111 a1113))))))))
theorem W_union_joiner_level {a0 a1 a2 : Value} {K : Value → World → Prop} {w : World} (h : S_union_joiner_level a0 a1 a2 K w) : Ret P n_union_joiner_level [a0, a1, a2] w K :=
  vcF_of mixed Tryz.func115 (show S_union_joiner_level a0 a1 a2 K w = vcF P Tryz.f115 [a0, a1, a2] w K from by kernel_rfl) h
/- (*strings.Builder).WriteString -/
abbrev S_strings_Builder_WriteString (a0 : Value) (a1 : Value) (K : Value → World → Prop) (w0 : World) : Prop :=
Ret P n_strings_Builder_copyCheck [a0] w0 fun v1000 w1001 =>
xAt a0 fun a1002 =>
XLd w1001 (a1002.add 1) fun v1003 =>
XRun P (Builtin.append_ #[26, 9] 26 #[v1003, a1]) w1001 fun v1004 w1005 =>
xAt a0 fun a1006 =>
XSt w1005 (a1006.add 1) v1004 fun w1007 =>
xLenS a1 fun v1008 =>
K (.tuple #[v1008, .nilIface]) w1007
theorem W_strings_Builder_WriteString {a0 a1 : Value} {K : Value → World → Prop} {w : World} (h : S_strings_Builder_WriteString a0 a1 K w) : Ret P n_strings_Builder_WriteString [a0, a1] w K :=
  vcF_of mixed Tryz.func116 (show S_strings_Builder_WriteString a0 a1 K w = vcF P Tryz.f116 [a0, a1] w K from by kernel_rfl) h
/- strconv.Itoa -/
abbrev S_strconv_Itoa (a0 : Value) (K : Value → World → Prop) (w0 : World) : Prop :=
Ret P n_istrconv_Itoa [a0] w0 fun v1000 w1001 =>
K v1000 w1001
theorem W_strconv_Itoa {a0 : Value} {K : Value → World → Prop} {w : World} (h : S_strconv_Itoa a0 K w) : Ret P n_strconv_Itoa [a0] w K :=
  vcF_of mixed Tryz.func117 (show S_strconv_Itoa a0 K w = vcF P Tryz.f117 [a0] w K from by kernel_rfl) h
/- spunyarn/keys.Text -/
/- S_keys_Text_l1: 0=slot 12 1=slot 5 c 2=slot 3 b -/
def S_keys_Text_l1 (K : Value → World → Prop) (a0 : Value) (v1004 : Value) (I1005 : Nat → List Value → World → Prop) (n1006 : Nat) (vs1007 : List Value) (g1008 : Nat → Value) (w1009 : World) : Prop :=
xLt (vs1007.getD 0 undef) v1004 fun v1010 =>
xIf v1010 (xIxS a0 (vs1007.getD 0 undef) 1 fun v1011 =>
xAt v1011 fun a1012 =>
XLd w1009 a1012 fun v1013 =>
xShr v1013 (.int .u64 4) fun v1014 =>
xIxStr (.string ⟨#[48, 49, 50, 51, 52, 53, 54, 55, 56, 57, 97, 98, 99, 100, 101, 102]⟩) v1014 fun v1015 =>
xAnd v1013 (.int .u8 15) fun v1016 =>
xIxStr (.string ⟨#[48, 49, 50, 51, 52, 53, 54, 55, 56, 57, 97, 98, 99, 100, 101, 102]⟩) v1016 fun v1017 =>
xFill (repL [(.int .u8 0)] 2) [(0, 1, v1015), (1, 1, v1017)] fun c1018 =>
XNew w1009.drew c1018 5 fun a1019 w1020 =>
XRun P (Builtin.append_ #[26, 26] 26 #[(vs1007.getD 2 undef), (.slice (some a1019) 2 2)]) w1020 fun v1021 w1022 =>
xAdd (vs1007.getD 0 undef) (.int .i64 1) fun v1023 =>
XNext I1005 n1006 [v1023, v1013, v1021] w1022) (XRun P (convert 26 9 (vs1007.getD 2 undef)) w1009 fun v1024 w1025 =>
K v1024 w1025)
abbrev S_keys_Text (a0 : Value) (K : Value → World → Prop) (w0 : World) : Prop :=
xLen a0 fun v1000 =>
xMul (.int .i64 2) v1000 fun v1001 =>
XRun P (Instr.makeSlice 26 (.int .i64 0) v1001) w0 fun v1002 w1003 =>
xLen a0 fun v1004 =>
XLoop [(.int .i64 0), undef, v1002] w1003 (S_keys_Text_l1 K a0 v1004)
theorem W_keys_Text {a0 : Value} {K : Value → World → Prop} {w : World} (h : S_keys_Text a0 K w) : Ret P n_keys_Text [a0] w K :=
  vcF_of mixed Tryz.func118 (show S_keys_Text a0 K w = vcF P Tryz.f118 [a0] w K from by kernel_rfl) h
/- strconv.FormatUint -/
abbrev S_strconv_FormatUint (a0 : Value) (a1 : Value) (K : Value → World → Prop) (w0 : World) : Prop :=
Ret P n_istrconv_FormatUint [a0, a1] w0 fun v1000 w1001 =>
K v1000 w1001
theorem W_strconv_FormatUint {a0 a1 : Value} {K : Value → World → Prop} {w : World} (h : S_strconv_FormatUint a0 a1 K w) : Ret P n_strconv_FormatUint [a0, a1] w K :=
  vcF_of mixed Tryz.func119 (show S_strconv_FormatUint a0 a1 K w = vcF P Tryz.f119 [a0, a1] w K from by kernel_rfl) h
/- (spunyarn/del.taker).here -/
abbrev S_del_taker_here (a0 : Value) (a1 : Value) (K : Value → World → Prop) (w0 : World) : Prop :=
XNew w0 (cellsV a0) 129 fun a1000 w1001 =>
Ret P n_node_Node_Len [a1] w1001 fun v1002 w1003 =>
xEq v1002 (.int .i64 0) fun v1004 =>
xIf v1004 (K (.pointer none) w1003) (xEq v1002 (.int .i64 1) fun v1005 =>
xIf v1005 (Ret P n_node_Node_Next [a1, (.int .i64 0)] w1003 fun v1006 w1007 =>
xTup v1006 0 fun v1008 =>
xTup v1006 1 fun v1009 =>
XLdN w1007 a1000 2 fun v1010 =>
Ret P n_del_taker_lift [v1010, a1, v1008, v1009] w1007 fun v1011 w1012 =>
K v1011 w1012) (XLd w1003 (a1000.add 1) fun v1013 =>
XLd w1003 (a1000.add 0) fun v1014 =>
Ret P n_node_Node_Own [a1, v1013, v1014] w1003 fun v1015 w1016 =>
XLd w1016 (a1000.add 0) fun v1017 =>
Ret P n_node_Node_DropVal [v1015, v1017] w1016 fun v1018 w1019 =>
K v1015 w1019))
theorem W_del_taker_here {a0 a1 : Value} {K : Value → World → Prop} {w : World} (h : S_del_taker_here a0 a1 K w) : Ret P n_del_taker_here [a0, a1] w K :=
  vcF_of mixed Tryz.func120 (show S_del_taker_here a0 a1 K w = vcF P Tryz.f120 [a0, a1] w K from by kernel_rfl) h
/- (*spunyarn/node.Node).Own -/
abbrev S_node_Node_Own (a0 : Value) (a1 : Value) (a2 : Value) (K : Value → World → Prop) (w0 : World) : Prop :=
Ret P n_node_Node_may [a0, a2] w0 fun v1000 w1001 =>
xEq v1000 (.int .i64 0) fun v1002 =>
xIf v1002 (K a0 w1001) (Ret P n_node_Node_Copy [a0, a1, a2] w1001 fun v1003 w1004 =>
K v1003 w1004)
theorem W_node_Node_Own {a0 a1 a2 : Value} {K : Value → World → Prop} {w : World} (h : S_node_Node_Own a0 a1 a2 K w) : Ret P n_node_Node_Own [a0, a1, a2] w K :=
  vcF_of mixed Tryz.func121 (show S_node_Node_Own a0 a1 a2 K w = vcF P Tryz.f121 [a0, a1, a2] w K from by kernel_rfl) h
end Go.Proofs.YtbneecjeifionaaGreatDoor
