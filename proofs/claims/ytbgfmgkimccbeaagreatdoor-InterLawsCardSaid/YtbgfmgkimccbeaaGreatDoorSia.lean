/-  Written by gen.py for this claim: of each function a form without frames, the same as the engine's condition by reckoning.  -/
import Derived.Test.YtbgfmgkimccbeaaGreatDoorSN
import Derived.Test.YtbgfmgkimccbeaaGreatDoorProg
namespace Go.Proofs.YtbgfmgkimccbeaaGreatDoor
open Go X
set_option linter.unusedVariables false
set_option maxRecDepth 100000
/- spunyarn/inter.Of -/
abbrev S_inter_Of (a0 : Value) (a1 : Value) (a2 : Value) (a3 : Value) (a4 : Value) (K : Value → World → Prop) (w0 : World) : Prop :=
Ret P n_union_Pick [a0, (.int .u64 0), (.int .u64 0)] w0 fun v1000 w1001 =>
xTup v1000 0 fun v1002 =>
xTup v1000 1 fun v1003 =>
/- 0 -/ XJ (fun J1004 =>
xNe v1003 (.int .i64 0) fun v1008 =>
xIf v1008 (J1004 [(.bool true)] w1001) (xEq a3 (.int .u64 0) fun v1009 =>
J1004 [v1009] w1001)) fun vs1005 g1006 w1007 =>
xIf (vs1005.getD 0 undef) (K (.tuple #[(.pointer none), (.int .i64 1)]) w1007) (xFill [(.int .i64 0), (.int .u64 0), (.pointer none)] [(0, 1, a0), (1, 1, a3), (2, 1, a4)] fun c1010 =>
xFill [(.pointer none), (.int .i64 0)] [(0, 1, a1)] fun c1011 =>
xFill [(.pointer none), (.int .i64 0)] [(0, 1, a2)] fun c1012 =>
Ret P n_inter_sieve_of [(.agg c1010.toArray), (.agg c1011.toArray), (.agg c1012.toArray)] w1007 fun v1013 w1014 =>
K (.tuple #[v1013, (.int .i64 0)]) w1014)
theorem W_inter_Of {a0 a1 a2 a3 a4 : Value} {K : Value → World → Prop} {w : World} (h : S_inter_Of a0 a1 a2 a3 a4 K w) : Ret P n_inter_Of [a0, a1, a2, a3, a4] w K :=
  vcF_of mixed Tryz.func19 (show S_inter_Of a0 a1 a2 a3 a4 K w = vcF P Tryz.f19 [a0, a1, a2, a3, a4] w K from by kernel_rfl) h
/- spunyarn/spunyarnref25.Inter -/
/- S_ref25_Inter_l1: 0=slot 8 i 1=slot 9 w 2=slot 10 has 3=slot 11 v 4=slot 12 _ 5=slot 7 out -/
def S_ref25_Inter_l1 (K : Value → World → Prop) (a0 : Value) (a1 : Value) (a2 : Value) (I1000 : Nat → List Value → World → Prop) (n1001 : Nat) (vs1002 : List Value) (g1003 : Nat → Value) (w1004 : World) : Prop :=
xLen a1 fun v1005 =>
xLt (vs1002.getD 0 undef) v1005 fun v1006 =>
xIf v1006 (/- 0 w 1 has 2 v 3 _ 4 out -/ XJ (fun J1007 =>
xIxS a1 (vs1002.getD 0 undef) 2 fun v1011 =>
xFld v1011 0 fun v1012 =>
xAt v1012 fun a1013 =>
XLd w1004 a1013 fun v1014 =>
Ret P n_ref14_Get [a2, v1014] w1004 fun v1015 w1016 =>
xTup v1015 0 fun v1017 =>
xTup v1015 1 fun v1018 =>
xIf v1018 (xIxS a1 (vs1002.getD 0 undef) 2 fun v1019 =>
xFld v1019 1 fun v1020 =>
xAt v1020 fun a1021 =>
XLd w1016 a1021 fun v1022 =>
Ret P n_ref24_Pick [a0, v1022, v1017] w1016 fun v1023 w1024 =>
xTup v1023 0 fun v1025 =>
xTup v1023 1 fun v1026 =>
xIxS a1 (vs1002.getD 0 undef) 2 fun v1027 =>
xFld v1027 0 fun v1028 =>
xAt v1028 fun a1029 =>
XLd w1024 a1029 fun v1030 =>
xFill [(.slice none 0 0), (.int .u64 0)] [(0, 1, v1030), (1, 1, v1025)] fun c1031 =>
xFill (repL [(.slice none 0 0), (.int .u64 0)] 1) [(0, 2, (.agg c1031.toArray))] fun c1032 =>
XNew w1024 c1032 63 fun a1033 w1034 =>
XRun P (Builtin.append_ #[22, 22] 22 #[(vs1002.getD 5 undef), (.slice (some a1033) 1 1)]) w1034 fun v1035 w1036 =>
J1007 [v1017, v1018, v1025, v1026, v1035] w1036) (J1007 [v1017, v1018, (vs1002.getD 3 undef), (vs1002.getD 4 undef), (vs1002.getD 5 undef)] w1016)) fun vs1008 g1009 w1010 =>
xAdd (vs1002.getD 0 undef) (.int .i64 1) fun v1037 =>
XNext I1000 n1001 [v1037, (vs1008.getD 0 undef), (vs1008.getD 1 undef), (vs1008.getD 2 undef), (vs1008.getD 3 undef), (vs1008.getD 4 undef)] w1010) (K (vs1002.getD 5 undef) w1004)
abbrev S_ref25_Inter (a0 : Value) (a1 : Value) (a2 : Value) (K : Value → World → Prop) (w0 : World) : Prop :=
XLoop [(.int .i64 0), undef, undef, undef, undef, (.slice none 0 0)] w0 (S_ref25_Inter_l1 K a0 a1 a2)
theorem W_ref25_Inter {a0 a1 a2 : Value} {K : Value → World → Prop} {w : World} (h : S_ref25_Inter a0 a1 a2 K w) : Ret P n_ref25_Inter [a0, a1, a2] w K :=
  vcF_of mixed Tryz.func20 (show S_ref25_Inter a0 a1 a2 K w = vcF P Tryz.f20 [a0, a1, a2] w K from by kernel_rfl) h
/- spunyarn/inter.Apart -/
abbrev S_inter_Apart (a0 : Value) (a1 : Value) (K : Value → World → Prop) (w0 : World) : Prop :=
Ret P n_inter_Of [(.int .i64 1), a0, a1, (.int .u64 1), (.pointer none)] w0 fun v1000 w1001 =>
xTup v1000 0 fun v1002 =>
xTup v1000 1 fun v1003 =>
xPEq P w1001 v1002 (.pointer none) fun v1004 =>
K v1004 w1001
theorem W_inter_Apart {a0 a1 : Value} {K : Value → World → Prop} {w : World} (h : S_inter_Apart a0 a1 K w) : Ret P n_inter_Apart [a0, a1] w K :=
  vcF_of mixed Tryz.func21 (show S_inter_Apart a0 a1 K w = vcF P Tryz.f21 [a0, a1] w K from by kernel_rfl) h
/- (spunyarn/inter.sieve).of -/
abbrev S_inter_sieve_of (a0 : Value) (a1 : Value) (a2 : Value) (K : Value → World → Prop) (w0 : World) : Prop :=
XNew w0 (cellsV a0) 87 fun a1000 w1001 =>
XNew w1001 (cellsV a1) 90 fun a1002 w1003 =>
XNew w1003 (cellsV a2) 90 fun a1004 w1005 =>
/- 0 -/ XJ (fun J1006 =>
XLd w1005 (a1002.add 0) fun v1010 =>
xPEq P w1005 v1010 (.pointer none) fun v1011 =>
xIf v1011 (J1006 [(.bool true)] w1005) (XLd w1005 (a1004.add 0) fun v1012 =>
xPEq P w1005 v1012 (.pointer none) fun v1013 =>
J1006 [v1013] w1005)) fun vs1007 g1008 w1009 =>
xIf (vs1007.getD 0 undef) (K (.pointer none) w1009) (/- 0 -/ XJ (fun J1014 =>
XLdN w1009 a1002 2 fun v1018 =>
XLdN w1009 a1004 2 fun v1019 =>
XEqv P .eql 90 (.tmp 20) (.tmp 21) v1018 v1019 w1009 fun r1020 =>
xIf (.bool r1020) (XLd w1009 (a1000.add 0) fun v1021 =>
xNe v1021 (.int .i64 3) fun v1022 =>
J1014 [v1022] w1009) (J1014 [(.bool false)] w1009)) fun vs1015 g1016 w1017 =>
xIf (vs1015.getD 0 undef) (XLd w1017 (a1002.add 0) fun v1023 =>
K v1023 w1017) (XLdN w1017.drew a1002 2 fun v1024 =>
XLdN w1017.drew a1004 2 fun v1025 =>
Ret P n_inter_rest_left [v1024] w1017.drew fun v1026 w1027 =>
xKeepN w1027 (.pointer (some a1004)) v1025 ∧ (Ret P n_inter_rest_left [v1025] w1027 fun v1028 w1029 =>
Ret P n_keys_Common [v1026, v1028] w1029 fun v1030 w1031 =>
/- 0 -/ XJ (fun J1032 =>
xLen v1026 fun v1036 =>
xLt v1030 v1036 fun v1037 =>
xIf v1037 (xLen v1028 fun v1038 =>
xLt v1030 v1038 fun v1039 =>
J1032 [v1039] w1031) (J1032 [(.bool false)] w1031)) fun vs1033 g1034 w1035 =>
xIf (vs1033.getD 0 undef) (K (.pointer none) w1035) (xLen v1028 fun v1040 =>
xLt v1030 v1040 fun v1041 =>
xIf v1041 (XLdN w1035.drew a1000 3 fun v1042 =>
XLd w1035.drew (a1002.add 0) fun v1043 =>
xIxS v1028 v1030 1 fun v1044 =>
xAt v1044 fun a1045 =>
XLd w1035.drew a1045 fun v1046 =>
XLdN w1035.drew a1004 2 fun v1047 =>
Ret P n_inter_rest_past [v1047, v1030] w1035.drew fun v1048 w1049 =>
xKeep1 w1049 v1044 v1046 ∧ (xKeep1 w1049 (.pointer (some (a1002.add 0))) v1043 ∧ (xKeepN w1049 (.pointer (some a1000)) v1042 ∧ (Ret P n_inter_sieve_one [v1042, v1043, v1046, v1048] w1049 fun v1050 w1051 =>
K v1050 w1051)))) (xLen v1026 fun v1052 =>
xLt v1030 v1052 fun v1053 =>
xIf v1053 (XLdN w1035.drew a1000 3 fun v1054 =>
XLdN w1035.drew a1002 2 fun v1055 =>
XLdN w1035.drew a1004 2 fun v1056 =>
xIxS v1026 v1030 1 fun v1057 =>
xAt v1057 fun a1058 =>
XLd w1035.drew a1058 fun v1059 =>
Ret P n_inter_rest_past [v1055, v1030] w1035.drew fun v1060 w1061 =>
xKeep1 w1061 v1057 v1059 ∧ (xKeepN w1061 (.pointer (some a1004)) v1056 ∧ (xKeepN w1061 (.pointer (some a1000)) v1054 ∧ (Ret P n_inter_rest_down [v1056, v1059] w1061 fun v1062 w1063 =>
xKeepN w1063 (.pointer (some a1000)) v1054 ∧ (Ret P n_inter_sieve_of [v1054, v1060, v1062] w1063 fun v1064 w1065 =>
K v1064 w1065))))) (XLdN w1035 a1000 3 fun v1066 =>
XLd w1035 (a1002.add 0) fun v1067 =>
XLd w1035 (a1004.add 0) fun v1068 =>
Ret P n_inter_sieve_level [v1066, v1067, v1068] w1035 fun v1069 w1070 =>
K v1069 w1070))))))
theorem W_inter_sieve_of {a0 a1 a2 : Value} {K : Value → World → Prop} {w : World} (h : S_inter_sieve_of a0 a1 a2 K w) : Ret P n_inter_sieve_of [a0, a1, a2] w K :=
  vcF_of mixed Tryz.func41 (show S_inter_sieve_of a0 a1 a2 K w = vcF P Tryz.f41 [a0, a1, a2] w K from by kernel_rfl) h
/- (spunyarn/inter.rest).left -/
abbrev S_inter_rest_left (a0 : Value) (K : Value → World → Prop) (w0 : World) : Prop :=
XNew w0 (cellsV a0) 90 fun a1000 w1001 =>
XLd w1001.drew (a1000.add 0) fun v1002 =>
XLd w1001.drew (a1000.add 1) fun v1003 =>
Ret P n_node_Node_Part [v1002] w1001.drew fun v1004 w1005 =>
xKeep1 w1005 (.pointer (some (a1000.add 1))) v1003 ∧ (xCutS 1 v1004 (some v1003) none none fun v1006 =>
K v1006 w1005)
theorem W_inter_rest_left {a0 : Value} {K : Value → World → Prop} {w : World} (h : S_inter_rest_left a0 K w) : Ret P n_inter_rest_left [a0] w K :=
  vcF_of mixed Tryz.func68 (show S_inter_rest_left a0 K w = vcF P Tryz.f68 [a0] w K from by kernel_rfl) h
/- (spunyarn/inter.sieve).one -/
abbrev S_inter_sieve_one (a0 : Value) (a1 : Value) (a2 : Value) (a3 : Value) (K : Value → World → Prop) (w0 : World) : Prop :=
XNew w0 (cellsV a0) 87 fun a1000 w1001 =>
XNew w1001 (cellsV a3) 90 fun a1002 w1003 =>
XLdN w1003.drew a1000 3 fun v1004 =>
XLdN w1003.drew a1002 2 fun v1005 =>
Ret P n_node_Node_Kid [a1, a2] w1003.drew fun v1006 w1007 =>
xKeepN w1007 (.pointer (some a1002)) v1005 ∧ (xKeepN w1007 (.pointer (some a1000)) v1004 ∧ (xFill [(.pointer none), (.int .i64 0)] [(0, 1, v1006)] fun c1008 =>
Ret P n_inter_sieve_of [v1004, (.agg c1008.toArray), v1005] w1007 fun v1009 w1010 =>
xPEq P w1010 v1009 (.pointer none) fun v1011 =>
xIf v1011 (K (.pointer none) w1010) (XLdN w1010 a1000 3 fun v1012 =>
xFill [(.int .u8 0), (.pointer none)] [(0, 1, a2), (1, 1, v1009)] fun c1013 =>
xFill (repL [(.int .u8 0), (.pointer none)] 1) [(0, 2, (.agg c1013.toArray))] fun c1014 =>
XNew w1010 c1014 169 fun a1015 w1016 =>
Ret P n_inter_sieve_keep [v1012, a1, (.bool false), (.int .u64 0), (.slice (some a1015) 1 1)] w1016 fun v1017 w1018 =>
K v1017 w1018)))
theorem W_inter_sieve_one {a0 a1 a2 a3 : Value} {K : Value → World → Prop} {w : World} (h : S_inter_sieve_one a0 a1 a2 a3 K w) : Ret P n_inter_sieve_one [a0, a1, a2, a3] w K :=
  vcF_of mixed Tryz.func70 (show S_inter_sieve_one a0 a1 a2 a3 K w = vcF P Tryz.f70 [a0, a1, a2, a3] w K from by kernel_rfl) h
/- (spunyarn/inter.rest).past -/
abbrev S_inter_rest_past (a0 : Value) (a1 : Value) (K : Value → World → Prop) (w0 : World) : Prop :=
XNew w0 (cellsV a0) 90 fun a1000 w1001 =>
XNew w1001 [(.pointer none), (.int .i64 0)] 90 fun a1002 w1003 =>
XLd w1003 (a1000.add 0) fun v1004 =>
XLd w1003 (a1000.add 1) fun v1005 =>
xAdd v1005 a1 fun v1006 =>
xAdd v1006 (.int .i64 1) fun v1007 =>
xFill [(.pointer none), (.int .i64 0)] [(0, 1, v1004), (1, 1, v1007)] fun c1008 =>
XDo P (storeVar 90 a1002 (.agg c1008.toArray)) w1003 fun w1009 =>
XLdN w1009 a1002 2 fun v1010 =>
K v1010 w1009
theorem W_inter_rest_past {a0 a1 : Value} {K : Value → World → Prop} {w : World} (h : S_inter_rest_past a0 a1 K w) : Ret P n_inter_rest_past [a0, a1] w K :=
  vcF_of mixed Tryz.func71 (show S_inter_rest_past a0 a1 K w = vcF P Tryz.f71 [a0, a1] w K from by kernel_rfl) h
/- (spunyarn/inter.rest).down -/
abbrev S_inter_rest_down (a0 : Value) (a1 : Value) (K : Value → World → Prop) (w0 : World) : Prop :=
XNew w0 (cellsV a0) 90 fun a1000 w1001 =>
XNew w1001 [(.pointer none), (.int .i64 0)] 90 fun a1002 w1003 =>
XLd w1003 (a1000.add 0) fun v1004 =>
Ret P n_node_Node_Kid [v1004, a1] w1003 fun v1005 w1006 =>
xFill [(.pointer none), (.int .i64 0)] [(0, 1, v1005)] fun c1007 =>
XDo P (storeVar 90 a1002 (.agg c1007.toArray)) w1006 fun w1008 =>
XLdN w1008 a1002 2 fun v1009 =>
K v1009 w1008
theorem W_inter_rest_down {a0 a1 : Value} {K : Value → World → Prop} {w : World} (h : S_inter_rest_down a0 a1 K w) : Ret P n_inter_rest_down [a0, a1] w K :=
  vcF_of mixed Tryz.func72 (show S_inter_rest_down a0 a1 K w = vcF P Tryz.f72 [a0, a1] w K from by kernel_rfl) h
/- (spunyarn/inter.sieve).level -/
/- S_inter_sieve_level_l1: 0=slot 13 kid 1=slot 12 c 2=slot 14 n 3=slot 11 l -/
def S_inter_sieve_level_l1 (K : Value → World → Prop) (a1 : Value) (a2 : Value) (a1000 : Addr) (vs1011 : List Value) (vs1015 : List Value) (I1033 : Nat → List Value → World → Prop) (n1034 : Nat) (vs1035 : List Value) (g1036 : Nat → Value) (w1037 : World) : Prop :=
xPNe P w1037 (vs1035.getD 0 undef) (.pointer none) fun v1038 =>
xIf v1038 (/- 0 n 1 l -/ XJ (fun J1039 =>
XLdN w1037.drew a1000 3 fun v1043 =>
xFill [(.pointer none), (.int .i64 0)] [(0, 1, (vs1035.getD 0 undef))] fun c1044 =>
Ret P n_node_Node_Kid [a2, (vs1035.getD 1 undef)] w1037.drew fun v1045 w1046 =>
xKeepN w1046 (.pointer (some a1000)) v1043 ∧ (xFill [(.pointer none), (.int .i64 0)] [(0, 1, v1045)] fun c1047 =>
Ret P n_inter_sieve_of [v1043, (.agg c1044.toArray), (.agg c1047.toArray)] w1046 fun v1048 w1049 =>
xPNe P w1049 v1048 (.pointer none) fun v1050 =>
xIf v1050 (xFill [(.int .u8 0), (.pointer none)] [(0, 1, (vs1035.getD 1 undef)), (1, 1, v1048)] fun c1051 =>
xFill (repL [(.int .u8 0), (.pointer none)] 1) [(0, 2, (.agg c1051.toArray))] fun c1052 =>
XNew w1049 c1052 169 fun a1053 w1054 =>
XRun P (Builtin.append_ #[170, 170] 170 #[(vs1035.getD 3 undef), (.slice (some a1053) 1 1)]) w1054 fun v1055 w1056 =>
J1039 [v1048, v1055] w1056) (J1039 [v1048, (vs1035.getD 3 undef)] w1049))) fun vs1040 g1041 w1042 =>
xConv .i64 (vs1035.getD 1 undef) fun v1057 =>
xAdd v1057 (.int .i64 1) fun v1058 =>
Ret P n_node_Node_Next [a1, v1058] w1042 fun v1059 w1060 =>
xTup v1059 0 fun v1061 =>
xTup v1059 1 fun v1062 =>
XNext I1033 n1034 [v1062, v1061, (vs1040.getD 0 undef), (vs1040.getD 1 undef)] w1060) (XLdN w1037 a1000 3 fun v1063 =>
Ret P n_inter_sieve_keep [v1063, a1, (vs1011.getD 0 undef), (vs1015.getD 0 undef), (vs1035.getD 3 undef)] w1037 fun v1064 w1065 =>
K v1064 w1065)
abbrev S_inter_sieve_level (a0 : Value) (a1 : Value) (a2 : Value) (K : Value → World → Prop) (w0 : World) : Prop :=
XNew w0 (cellsV a0) 87 fun a1000 w1001 =>
Ret P n_node_Node_Val [a1] w1001 fun v1002 w1003 =>
xTup v1002 0 fun v1004 =>
xTup v1002 1 fun v1005 =>
Ret P n_node_Node_Val [a2] w1003 fun v1006 w1007 =>
xTup v1006 0 fun v1008 =>
xTup v1006 1 fun v1009 =>
/- 0 has -/ XJ (fun J1010 =>
xIf v1009 (J1010 [v1005] w1007) (J1010 [(.bool false)] w1007)) fun vs1011 g1012 w1013 =>
/- 0 w -/ XJ (fun J1014 =>
xIf (vs1011.getD 0 undef) (XLd w1013 (a1000.add 0) fun v1018 =>
Ret P n_union_Pick [v1018, v1004, v1008] w1013 fun v1019 w1020 =>
xTup v1019 0 fun v1021 =>
xTup v1019 1 fun v1022 =>
J1014 [v1021] w1020) (J1014 [v1008] w1013)) fun vs1015 g1016 w1017 =>
Ret P n_node_Node_Kind [a1] w1017 fun v1023 w1024 =>
xEq v1023 (.int .i64 1) fun v1025 =>
xIf v1025 (XLdN w1024 a1000 3 fun v1026 =>
Ret P n_inter_sieve_leaf [v1026, a1, (vs1011.getD 0 undef), (vs1015.getD 0 undef)] w1024 fun v1027 w1028 =>
K v1027 w1028) (Ret P n_node_Node_Next [a1, (.int .i64 0)] w1024 fun v1029 w1030 =>
xTup v1029 0 fun v1031 =>
xTup v1029 1 fun v1032 =>
XLoop [v1032, v1031, undef, (.slice none 0 0)] w1030 (S_inter_sieve_level_l1 K a1 a2 a1000 vs1011 vs1015))
theorem W_inter_sieve_level {a0 a1 a2 : Value} {K : Value → World → Prop} {w : World} (h : S_inter_sieve_level a0 a1 a2 K w) : Ret P n_inter_sieve_level [a0, a1, a2] w K :=
  vcF_of mixed Tryz.func73 (show S_inter_sieve_level a0 a1 a2 K w = vcF P Tryz.f73 [a0, a1, a2] w K from by kernel_rfl) h
/- (spunyarn/inter.sieve).keep -/
abbrev S_inter_sieve_keep (a0 : Value) (a1 : Value) (a2 : Value) (a3 : Value) (a4 : Value) (K : Value → World → Prop) (w0 : World) : Prop :=
XNew w0 (cellsV a0) 87 fun a1000 w1001 =>
XLd w1001 (a1000.add 1) fun v1002 =>
XLd w1001 (a1000.add 2) fun v1003 =>
Ret P n_del_Left [a1, a2, a3, a4, v1002, v1003] w1001 fun v1004 w1005 =>
xTup v1004 0 fun v1006 =>
xTup v1004 1 fun v1007 =>
K v1006 w1005
theorem W_inter_sieve_keep {a0 a1 a2 a3 a4 : Value} {K : Value → World → Prop} {w : World} (h : S_inter_sieve_keep a0 a1 a2 a3 a4 K w) : Ret P n_inter_sieve_keep [a0, a1, a2, a3, a4] w K :=
  vcF_of mixed Tryz.func114 (show S_inter_sieve_keep a0 a1 a2 a3 a4 K w = vcF P Tryz.f114 [a0, a1, a2, a3, a4] w K from by kernel_rfl) h
/- (spunyarn/inter.sieve).leaf -/
abbrev S_inter_sieve_leaf (a0 : Value) (a1 : Value) (a2 : Value) (a3 : Value) (K : Value → World → Prop) (w0 : World) : Prop :=
XNew w0 (cellsV a0) 87 fun a1000 w1001 =>
Ret P n_node_Node_Val [a1] w1001 fun v1002 w1003 =>
xTup v1002 0 fun v1004 =>
xTup v1002 1 fun v1005 =>
xNot a2 fun v1006 =>
xIf v1006 (K (.pointer none) w1003) (xEq v1004 a3 fun v1007 =>
xIf v1007 (K a1 w1003) (XLd w1003.drew (a1000.add 2) fun v1008 =>
XLd w1003.drew (a1000.add 1) fun v1009 =>
Ret P n_node_Node_Part [a1] w1003.drew fun v1010 w1011 =>
xKeep1 w1011 (.pointer (some (a1000.add 1))) v1009 ∧ (xKeep1 w1011 (.pointer (some (a1000.add 2))) v1008 ∧ (Ret P n_node_Leaf [v1008, v1009, v1010, a3] w1011 fun v1012 w1013 =>
K v1012 w1013))))
theorem W_inter_sieve_leaf {a0 a1 a2 a3 : Value} {K : Value → World → Prop} {w : World} (h : S_inter_sieve_leaf a0 a1 a2 a3 K w) : Ret P n_inter_sieve_leaf [a0, a1, a2, a3] w K :=
  vcF_of mixed Tryz.func115 (show S_inter_sieve_leaf a0 a1 a2 a3 K w = vcF P Tryz.f115 [a0, a1, a2, a3] w K from by kernel_rfl) h
end Go.Proofs.YtbgfmgkimccbeaaGreatDoor
