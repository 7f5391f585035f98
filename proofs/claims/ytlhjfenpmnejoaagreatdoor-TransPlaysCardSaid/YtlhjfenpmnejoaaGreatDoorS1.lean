/-  Written by gen.py for this claim: of each function a form without frames, the same as the engine's condition by reckoning.  -/
import Derived.Test.YtlhjfenpmnejoaaGreatDoorSN
import Derived.Test.YtlhjfenpmnejoaaGreatDoorProg
namespace Go.Proofs.YtlhjfenpmnejoaaGreatDoor
open Go X
set_option linter.unusedVariables false
set_option maxRecDepth 100000
/- spunyarn/keys.Common -/
/- S_keys_Common_l1: 0=slot 11 1=slot 5 i 2=slot 4 -/
def S_keys_Common_l1 (K : Value → World → Prop) (a0 : Value) (a1 : Value) (v1002 : Value) (I1003 : Nat → List Value → World → Prop) (n1004 : Nat) (vs1005 : List Value) (g1006 : Nat → Value) (w1007 : World) : Prop :=
xLt (vs1005.getD 0 undef) v1002 fun v1008 =>
xIf v1008 (xIxS a0 (vs1005.getD 0 undef) 1 fun v1009 =>
xAt v1009 fun a1010 =>
XLd w1007.drew a1010 fun v1011 =>
xIxS a1 (vs1005.getD 0 undef) 1 fun v1012 =>
xAt v1012 fun a1013 =>
XLd w1007.drew a1013 fun v1014 =>
xNe v1011 v1014 fun v1015 =>
xIf v1015 (K (vs1005.getD 0 undef) (w1007.drew)) (xAdd (vs1005.getD 0 undef) (.int .i64 1) fun v1016 =>
XNext I1003 n1004 [v1016, (vs1005.getD 0 undef), (vs1005.getD 2 undef)] (w1007.drew))) (xLen a0 fun v1017 =>
xLen a1 fun v1018 =>
xMin v1017 v1018 fun v1019 =>
K v1019 w1007)
abbrev S_keys_Common (a0 : Value) (a1 : Value) (K : Value → World → Prop) (w0 : World) : Prop :=
xLen a0 fun v1000 =>
xLen a1 fun v1001 =>
xMin v1000 v1001 fun v1002 =>
XLoop [(.int .i64 0), undef, (.int .i64 0)] w0 (S_keys_Common_l1 K a0 a1 v1002)
theorem W_keys_Common {a0 a1 : Value} {K : Value → World → Prop} {w : World} (h : S_keys_Common a0 a1 K w) : Ret P n_keys_Common [a0, a1] w K :=
  vcF_of mixed Tryz.func113 (show S_keys_Common a0 a1 K w = vcF P Tryz.f113 [a0, a1] w K from by kernel_rfl) h
/- spunyarn/node.Inner -/
abbrev S_node_Inner (a0 : Value) (a1 : Value) (a2 : Value) (K : Value → World → Prop) (w0 : World) : Prop :=
Ret P n_meter_Meter_Made [a0, (.int .i64 1)] w0 fun v1000 w1001 =>
Ret P n_bytes_Clone [a2] w1001 fun v1002 w1003 =>
Ret P n_kids_New_Node [] w1003 fun v1004 w1005 =>
xFill [(.int .u64 0), (.slice none 0 0), (.int .u64 0), (.bool false), (.pointer none)] [(0, 1, a1), (1, 1, v1002), (4, 1, v1004)] fun c1006 =>
XNew w1005 (cellsV (.agg c1006.toArray)) 189 fun a1007 w1008 =>
K (.pointer (some a1007)) w1008
theorem W_node_Inner {a0 a1 a2 : Value} {K : Value → World → Prop} {w : World} (h : S_node_Inner a0 a1 a2 K w) : Ret P n_node_Inner [a0, a1, a2] w K :=
  vcF_of mixed Tryz.func114 (show S_node_Inner a0 a1 a2 K w = vcF P Tryz.f114 [a0, a1, a2] w K from by kernel_rfl) h
/- (*spunyarn/node.Node).SetVal -/
abbrev S_node_Node_SetVal (a0 : Value) (a1 : Value) (a2 : Value) (K : Value → World → Prop) (w0 : World) : Prop :=
Ret P n_node_Node_may [a0, a1] w0 fun v1000 w1001 =>
/-  -/ XJ (fun J1002 =>
xEq v1000 (.int .i64 0) fun v1006 =>
xIf v1006 (xAt a0 fun a1007 =>
XSt w1001 (a1007.add 2) a2 fun w1008 =>
xAt a0 fun a1009 =>
XSt w1008 (a1009.add 3) (.bool true) fun w1010 =>
J1002 [] w1010) (J1002 [] w1001)) fun vs1003 g1004 w1005 =>
K v1000 w1005
theorem W_node_Node_SetVal {a0 a1 a2 : Value} {K : Value → World → Prop} {w : World} (h : S_node_Node_SetVal a0 a1 a2 K w) : Ret P n_node_Node_SetVal [a0, a1, a2] w K :=
  vcF_of mixed Tryz.func115 (show S_node_Node_SetVal a0 a1 a2 K w = vcF P Tryz.f115 [a0, a1, a2] w K from by kernel_rfl) h
/- (*spunyarn/node.Node).SetKid -/
abbrev S_node_Node_SetKid (a0 : Value) (a1 : Value) (a2 : Value) (a3 : Value) (K : Value → World → Prop) (w0 : World) : Prop :=
Ret P n_node_Node_inner [a0, a1] w0 fun v1000 w1001 =>
xNe v1000 (.int .i64 0) fun v1002 =>
xIf v1002 (K v1000 w1001) (xPEq P w1001 a3 (.pointer none) fun v1003 =>
xIf v1003 (K (.int .i64 1) w1001) (xAt a0 fun a1004 =>
XLd w1001 (a1004.add 4) fun v1005 =>
Ret P n_kids_Kids_Set [v1005, a2, a3] w1001 fun v1006 w1007 =>
K v1006 w1007))
theorem W_node_Node_SetKid {a0 a1 a2 a3 : Value} {K : Value → World → Prop} {w : World} (h : S_node_Node_SetKid a0 a1 a2 a3 K w) : Ret P n_node_Node_SetKid [a0, a1, a2, a3] w K :=
  vcF_of mixed Tryz.func116 (show S_node_Node_SetKid a0 a1 a2 a3 K w = vcF P Tryz.f116 [a0, a1, a2, a3] w K from by kernel_rfl) h
/- (*sync/atomic.Uint64).Add -/
abbrev S_atomic_Uint64_Add (a0 : Value) (a1 : Value) (K : Value → World → Prop) (w0 : World) : Prop :=
xAt a0 fun a1000 =>
xCall P 142 [(.pointer (some (a1000.add 0))), a1] w0 fun v1001 w1002 =>
K v1001 w1002
theorem W_atomic_Uint64_Add {a0 a1 : Value} {K : Value → World → Prop} {w : World} (h : S_atomic_Uint64_Add a0 a1 K w) : Ret P n_atomic_Uint64_Add [a0, a1] w K :=
  vcF_of mixed Tryz.func117 (show S_atomic_Uint64_Add a0 a1 K w = vcF P Tryz.f117 [a0, a1] w K from by kernel_rfl) h
/- (*spunyarn/find.walk).into -/
abbrev S_find_walk_into (a0 : Value) (K : Value → World → Prop) (w0 : World) : Prop :=
xAt a0 fun a1000 =>
XLd w0 (a1000.add 0) fun v1001 =>
xPEq P w0 v1001 (.pointer none) fun v1002 =>
xIf v1002 (K (.bool false) w0) (xAt a0 fun a1003 =>
XLd w0 (a1003.add 3) fun v1004 =>
xAdd v1004 (.int .i64 1) fun v1005 =>
xAt a0 fun a1006 =>
XSt w0 (a1006.add 3) v1005 fun w1007 =>
xAt a0 fun a1008 =>
XLd w1007 (a1008.add 0) fun v1009 =>
Ret P n_node_Node_Part [v1009] w1007 fun v1010 w1011 =>
xAt a0 fun a1012 =>
XLd w1011.drew (a1012.add 1) fun v1013 =>
xAt a0 fun a1014 =>
XLd w1011.drew (a1014.add 2) fun v1015 =>
xCutS 1 v1013 (some v1015) none none fun v1016 =>
Ret P n_bytes_HasPrefix [v1016, v1010] w1011.drew fun v1017 w1018 =>
xNot v1017 fun v1019 =>
xIf v1019 (K (.bool false) w1018) (xAt a0 fun a1020 =>
XLd w1018 (a1020.add 2) fun v1021 =>
xLen v1010 fun v1022 =>
xAdd v1021 v1022 fun v1023 =>
xAt a0 fun a1024 =>
XSt w1018 (a1024.add 2) v1023 fun w1025 =>
K (.bool true) w1025))
theorem W_find_walk_into {a0 : Value} {K : Value → World → Prop} {w : World} (h : S_find_walk_into a0 K w) : Ret P n_find_walk_into [a0] w K :=
  vcF_of mixed Tryz.func118 (show S_find_walk_into a0 K w = vcF P Tryz.f118 [a0] w K from by kernel_rfl) h
/- (*spunyarn/find.walk).ends -/
abbrev S_find_walk_ends (a0 : Value) (K : Value → World → Prop) (w0 : World) : Prop :=
xAt a0 fun a1000 =>
XLd w0.drew (a1000.add 2) fun v1001 =>
xAt a0 fun a1002 =>
XLd w0.drew (a1002.add 1) fun v1003 =>
xLen v1003 fun v1004 =>
xEq v1001 v1004 fun v1005 =>
K v1005 (w0.drew)
theorem W_find_walk_ends {a0 : Value} {K : Value → World → Prop} {w : World} (h : S_find_walk_ends a0 K w) : Ret P n_find_walk_ends [a0] w K :=
  vcF_of mixed Tryz.func119 (show S_find_walk_ends a0 K w = vcF P Tryz.f119 [a0] w K from by kernel_rfl) h
/- (*spunyarn/find.walk).down -/
abbrev S_find_walk_down (a0 : Value) (K : Value → World → Prop) (w0 : World) : Prop :=
xAt a0 fun a1000 =>
XLd w0.drew (a1000.add 0) fun v1001 =>
xAt a0 fun a1002 =>
XLd w0.drew (a1002.add 1) fun v1003 =>
xAt a0 fun a1004 =>
XLd w0.drew (a1004.add 2) fun v1005 =>
xIxS v1003 v1005 1 fun v1006 =>
xAt v1006 fun a1007 =>
XLd w0.drew a1007 fun v1008 =>
Ret P n_node_Node_Kid [v1001, v1008] w0.drew fun v1009 w1010 =>
xAt a0 fun a1011 =>
XSt w1010 (a1011.add 0) v1009 fun w1012 =>
xAt a0 fun a1013 =>
XLd w1012 (a1013.add 2) fun v1014 =>
xAdd v1014 (.int .i64 1) fun v1015 =>
xAt a0 fun a1016 =>
XSt w1012 (a1016.add 2) v1015 fun w1017 =>
K (.tuple #[]) w1017
theorem W_find_walk_down {a0 : Value} {K : Value → World → Prop} {w : World} (h : S_find_walk_down a0 K w) : Ret P n_find_walk_down [a0] w K :=
  vcF_of mixed Tryz.func120 (show S_find_walk_down a0 K w = vcF P Tryz.f120 [a0] w K from by kernel_rfl) h
/- (spunyarn/put.putter).here -/
abbrev S_put_putter_here (a0 : Value) (a1 : Value) (K : Value → World → Prop) (w0 : World) : Prop :=
XNew w0 (cellsV a0) 165 fun a1000 w1001 =>
XLd w1001 (a1000.add 2) fun v1002 =>
XLd w1001 (a1000.add 1) fun v1003 =>
Ret P n_node_Node_Own [a1, v1002, v1003] w1001 fun v1004 w1005 =>
XLd w1005 (a1000.add 1) fun v1006 =>
XLd w1005 (a1000.add 0) fun v1007 =>
Ret P n_node_Node_SetVal [v1004, v1006, v1007] w1005 fun v1008 w1009 =>
K v1004 w1009
theorem W_put_putter_here {a0 a1 : Value} {K : Value → World → Prop} {w : World} (h : S_put_putter_here a0 a1 K w) : Ret P n_put_putter_here [a0, a1] w K :=
  vcF_of mixed Tryz.func121 (show S_put_putter_here a0 a1 K w = vcF P Tryz.f121 [a0, a1] w K from by kernel_rfl) h
/- (spunyarn/put.putter).split -/
abbrev S_put_putter_split (a0 : Value) (a1 : Value) (a2 : Value) (a3 : Value) (a4 : Value) (K : Value → World → Prop) (w0 : World) : Prop :=
XNew w0 (cellsV a0) 165 fun a1000 w1001 =>
XLd w1001.drew (a1000.add 2) fun v1002 =>
XLd w1001.drew (a1000.add 1) fun v1003 =>
xCutS 1 a2 none (some a4) none fun v1004 =>
Ret P n_node_Inner [v1002, v1003, v1004] w1001.drew fun v1005 w1006 =>
/- 0 v 1 _ 2 kid -/ XJ (fun J1007 =>
xLen a2 fun v1011 =>
xEq a4 v1011 fun v1012 =>
xIf v1012 (Ret P n_node_Node_Val [a1] w1006 fun v1013 w1014 =>
xTup v1013 0 fun v1015 =>
xTup v1013 1 fun v1016 =>
XLd w1014 (a1000.add 1) fun v1017 =>
Ret P n_node_Node_SetVal [v1005, v1017, v1015] w1014 fun v1018 w1019 =>
J1007 [v1015, v1016, undef] w1019) (XLd w1006 (a1000.add 2) fun v1020 =>
XLd w1006 (a1000.add 1) fun v1021 =>
Ret P n_node_Node_Own [a1, v1020, v1021] w1006 fun v1022 w1023 =>
XLd w1023.drew (a1000.add 1) fun v1024 =>
xAdd a4 (.int .i64 1) fun v1025 =>
xCutS 1 a2 (some v1025) none none fun v1026 =>
Ret P n_node_Node_SetPart [v1022, v1024, v1026] w1023.drew fun v1027 w1028 =>
XLd w1028.drew (a1000.add 1) fun v1029 =>
xIxS a2 a4 1 fun v1030 =>
xAt v1030 fun a1031 =>
XLd w1028.drew a1031 fun v1032 =>
Ret P n_node_Node_SetKid [v1005, v1029, v1032, v1022] w1028.drew fun v1033 w1034 =>
J1007 [undef, undef, v1022] w1034)) fun vs1008 g1009 w1010 =>
/-  -/ XJ (fun J1035 =>
xLen a3 fun v1039 =>
xEq a4 v1039 fun v1040 =>
xIf v1040 (XLd w1010 (a1000.add 1) fun v1041 =>
XLd w1010 (a1000.add 0) fun v1042 =>
Ret P n_node_Node_SetVal [v1005, v1041, v1042] w1010 fun v1043 w1044 =>
J1035 [] w1044) (XLd w1010.drew (a1000.add 1) fun v1045 =>
xIxS a3 a4 1 fun v1046 =>
xAt v1046 fun a1047 =>
XLd w1010.drew a1047 fun v1048 =>
XLd w1010.drew (a1000.add 2) fun v1049 =>
XLd w1010.drew (a1000.add 1) fun v1050 =>
xAdd a4 (.int .i64 1) fun v1051 =>
xCutS 1 a3 (some v1051) none none fun v1052 =>
XLd w1010.drew (a1000.add 0) fun v1053 =>
Ret P n_node_Leaf [v1049, v1050, v1052, v1053] w1010.drew fun v1054 w1055 =>
xKeep1 w1055 v1046 v1048 ∧ (xKeep1 w1055 (.pointer (some (a1000.add 1))) v1045 ∧ (Ret P n_node_Node_SetKid [v1005, v1045, v1048, v1054] w1055 fun v1056 w1057 =>
J1035 [] w1057)))) fun vs1036 g1037 w1038 =>
K v1005 w1038
theorem W_put_putter_split {a0 a1 a2 a3 a4 : Value} {K : Value → World → Prop} {w : World} (h : S_put_putter_split a0 a1 a2 a3 a4 K w) : Ret P n_put_putter_split [a0, a1, a2, a3, a4] w K :=
  vcF_of mixed Tryz.func122 (show S_put_putter_split a0 a1 a2 a3 a4 K w = vcF P Tryz.f122 [a0, a1, a2, a3, a4] w K from by kernel_rfl) h
/- (spunyarn/put.putter).below -/
abbrev S_put_putter_below (a0 : Value) (a1 : Value) (a2 : Value) (K : Value → World → Prop) (w0 : World) : Prop :=
XNew w0 (cellsV a0) 165 fun a1000 w1001 =>
xIxS a2 (.int .i64 0) 1 fun v1002 =>
xAt v1002 fun a1003 =>
XLd w1001 a1003 fun v1004 =>
Ret P n_node_Node_Kid [a1, v1004] w1001 fun v1005 w1006 =>
XLdN w1006.drew a1000 3 fun v1007 =>
xCutS 1 a2 (some (.int .i64 1)) none none fun v1008 =>
Ret P n_put_putter_into [v1007, v1005, v1008] w1006.drew fun v1009 w1010 =>
xPEq P w1010 v1009 v1005 fun v1011 =>
xIf v1011 (K a1 w1010) (XLd w1010 (a1000.add 2) fun v1012 =>
XLd w1010 (a1000.add 1) fun v1013 =>
Ret P n_node_Node_Own [a1, v1012, v1013] w1010 fun v1014 w1015 =>
XLd w1015.drew (a1000.add 1) fun v1016 =>
xIxS a2 (.int .i64 0) 1 fun v1017 =>
xAt v1017 fun a1018 =>
XLd w1015.drew a1018 fun v1019 =>
Ret P n_node_Node_SetKid [v1014, v1016, v1019, v1009] w1015.drew fun v1020 w1021 =>
K v1014 w1021)
theorem W_put_putter_below {a0 a1 a2 : Value} {K : Value → World → Prop} {w : World} (h : S_put_putter_below a0 a1 a2 K w) : Ret P n_put_putter_below [a0, a1, a2] w K :=
  vcF_of mixed Tryz.func123 (show S_put_putter_below a0 a1 a2 K w = vcF P Tryz.f123 [a0, a1, a2] w K from by kernel_rfl) h
/- spunyarn/del.Del -/
abbrev S_del_Del (a0 : Value) (a1 : Value) (a2 : Value) (a3 : Value) (K : Value → World → Prop) (w0 : World) : Prop :=
xEq a2 (.int .u64 0) fun v1000 =>
xIf v1000 (K (.tuple #[(.pointer none), (.bool false), (.int .i64 1)]) w0) (Ret P n_keys_May [a1] w0 fun v1001 w1002 =>
xNe v1001 (.int .i64 0) fun v1003 =>
xIf v1003 (K (.tuple #[(.pointer none), (.bool false), v1001]) w1002) (Ret P n_find_Has [a0, a1] w1002 fun v1004 w1005 =>
xNot v1004 fun v1006 =>
xIf v1006 (K (.tuple #[a0, (.bool false), (.int .i64 0)]) w1005) (xFill [(.int .u64 0), (.pointer none)] [(0, 1, a2), (1, 1, a3)] fun c1007 =>
Ret P n_del_taker_out [(.agg c1007.toArray), a0, a1] w1005 fun v1008 w1009 =>
K (.tuple #[v1008, (.bool true), (.int .i64 0)]) w1009)))
theorem W_del_Del {a0 a1 a2 a3 : Value} {K : Value → World → Prop} {w : World} (h : S_del_Del a0 a1 a2 a3 K w) : Ret P n_del_Del [a0, a1, a2, a3] w K :=
  vcF_of mixed Tryz.func124 (show S_del_Del a0 a1 a2 a3 K w = vcF P Tryz.f124 [a0, a1, a2, a3] w K from by kernel_rfl) h
/- spunyarn/spunyarnref16.Del -/
/- S_ref16_Del_l1: 0=slot 8 i 1=slot 7 was 2=slot 6 out -/
def S_ref16_Del_l1 (K : Value → World → Prop) (a0 : Value) (a1 : Value) (I1000 : Nat → List Value → World → Prop) (n1001 : Nat) (vs1002 : List Value) (g1003 : Nat → Value) (w1004 : World) : Prop :=
xLen a0 fun v1005 =>
xLt (vs1002.getD 0 undef) v1005 fun v1006 =>
xIf v1006 (/- 0 was 1 out -/ XJ (fun J1007 =>
xIxS a0 (vs1002.getD 0 undef) 2 fun v1011 =>
xFld v1011 0 fun v1012 =>
xAt v1012 fun a1013 =>
XLd w1004 a1013 fun v1014 =>
Ret P n_ref01_Same [v1014, a1] w1004 fun v1015 w1016 =>
xIf v1015 (J1007 [(.bool true), (vs1002.getD 2 undef)] w1016) (xIxS a0 (vs1002.getD 0 undef) 2 fun v1017 =>
xAt v1017 fun a1018 =>
XLdN w1016 a1018 2 fun v1019 =>
xFill (repL [(.slice none 0 0), (.int .u64 0)] 1) [(0, 2, v1019)] fun c1020 =>
XNew w1016 c1020 30 fun a1021 w1022 =>
XRun P (Builtin.append_ #[22, 22] 22 #[(vs1002.getD 2 undef), (.slice (some a1021) 1 1)]) w1022 fun v1023 w1024 =>
J1007 [(vs1002.getD 1 undef), v1023] w1024)) fun vs1008 g1009 w1010 =>
xAdd (vs1002.getD 0 undef) (.int .i64 1) fun v1025 =>
XNext I1000 n1001 [v1025, (vs1008.getD 0 undef), (vs1008.getD 1 undef)] w1010) (K (.tuple #[(vs1002.getD 2 undef), (vs1002.getD 1 undef)]) w1004)
abbrev S_ref16_Del (a0 : Value) (a1 : Value) (K : Value → World → Prop) (w0 : World) : Prop :=
XLoop [(.int .i64 0), (.bool false), (.slice none 0 0)] w0 (S_ref16_Del_l1 K a0 a1)
theorem W_ref16_Del {a0 a1 : Value} {K : Value → World → Prop} {w : World} (h : S_ref16_Del a0 a1 K w) : Ret P n_ref16_Del [a0, a1] w K :=
  vcF_of mixed Tryz.func125 (show S_ref16_Del a0 a1 K w = vcF P Tryz.f125 [a0, a1] w K from by kernel_rfl) h
/- (*strings.Builder).copyCheck -/
abbrev S_strings_Builder_copyCheck (a0 : Value) (K : Value → World → Prop) (w0 : World) : Prop :=
xAt a0 fun a1000 =>
XLd w0 (a1000.add 0) fun v1001 =>
xPEq P w0 v1001 (.pointer none) fun v1002 =>
xIf v1002 (XRun P (convert 139 227 a0) w0 fun v1003 w1004 =>
xCall P 148 [v1003] w1004 fun v1005 w1006 =>
XRun P (convert 227 139 v1005) w1006 fun v1007 w1008 =>
xAt a0 fun a1009 =>
XSt w1008 (a1009.add 0) v1007 fun w1010 =>
K (.tuple #[]) w1010) (xAt a0 fun a1011 =>
XLd w0 (a1011.add 0) fun v1012 =>
xPNe P w0 v1012 a0 fun v1013 =>
xIf v1013 (False) (K (.tuple #[]) w0))
theorem W_strings_Builder_copyCheck {a0 : Value} {K : Value → World → Prop} {w : World} (h : S_strings_Builder_copyCheck a0 K w) : Ret P n_strings_Builder_copyCheck [a0] w K :=
  vcF_of mixed Tryz.func126 (show S_strings_Builder_copyCheck a0 K w = vcF P Tryz.f126 [a0] w K from by kernel_rfl) h
/- (*spunyarn/node.Node).isLeaf -/
abbrev S_node_Node_isLeaf (a0 : Value) (K : Value → World → Prop) (w0 : World) : Prop :=
xAt a0 fun a1000 =>
XLd w0 (a1000.add 4) fun v1001 =>
xPEq P w0 v1001 (.pointer none) fun v1002 =>
K v1002 w0
theorem W_node_Node_isLeaf {a0 : Value} {K : Value → World → Prop} {w : World} (h : S_node_Node_isLeaf a0 K w) : Ret P n_node_Node_isLeaf [a0] w K :=
  vcF_of mixed Tryz.func127 (show S_node_Node_isLeaf a0 K w = vcF P Tryz.f127 [a0] w K from by kernel_rfl) h
/- (*spunyarn/kids.Kids[*spunyarn/node.Node]).Kind -/
abbrev S_kids_Kids_Kind (a0 : Value) (K : Value → World → Prop) (w0 : World) : Prop :=
Ret P n_kids_Kids_ok [a0] w0 fun v1000 w1001 =>
xNot v1000 fun v1002 =>
xIf v1002 (K (.int .i64 0) w1001) (xAt a0 fun a1003 =>
XLd w1001 (a1003.add 0) fun v1004 =>
xPNe P w1001 v1004 (.pointer none) fun v1005 =>
xIf v1005 (xAt a0 fun a1006 =>
XLd w1001 (a1006.add 0) fun v1007 =>
Ret P n_small_Row_Room [v1007] w1001 fun v1008 w1009 =>
K v1008 w1009) (xAt a0 fun a1010 =>
XLd w1001 (a1010.add 1) fun v1011 =>
Ret P n_wide_Board_Room [v1011] w1001 fun v1012 w1013 =>
K v1012 w1013))
theorem W_kids_Kids_Kind {a0 : Value} {K : Value → World → Prop} {w : World} (h : S_kids_Kids_Kind a0 K w) : Ret P n_kids_Kids_Kind [a0] w K :=
  vcF_of mixed Tryz.func128 (show S_kids_Kids_Kind a0 K w = vcF P Tryz.f128 [a0] w K from by kernel_rfl) h
/- internal/strconv.Itoa -/
abbrev S_istrconv_Itoa (a0 : Value) (K : Value → World → Prop) (w0 : World) : Prop :=
Ret P n_istrconv_FormatInt [a0, (.int .i64 10)] w0 fun v1000 w1001 =>
K v1000 w1001
theorem W_istrconv_Itoa {a0 : Value} {K : Value → World → Prop} {w : World} (h : S_istrconv_Itoa a0 K w) : Ret P n_istrconv_Itoa [a0] w K :=
  vcF_of mixed Tryz.func129 (show S_istrconv_Itoa a0 K w = vcF P Tryz.f129 [a0] w K from by kernel_rfl) h
/- internal/strconv.FormatUint -/
abbrev S_istrconv_FormatUint (a0 : Value) (a1 : Value) (K : Value → World → Prop) (w0 : World) : Prop :=
xEq a1 (.int .i64 10) fun v1000 =>
xIf v1000 (xLt a0 (.int .u64 100) fun v1001 =>
xIf v1001 (xConv .i64 a0 fun v1002 =>
Ret P n_istrconv_small [v1002] w0 fun v1003 w1004 =>
K v1003 w1004) (XNew w0 [(.int .u8 0), (.int .u8 0), (.int .u8 0), (.int .u8 0), (.int .u8 0), (.int .u8 0), (.int .u8 0), (.int .u8 0), (.int .u8 0), (.int .u8 0), (.int .u8 0), (.int .u8 0), (.int .u8 0), (.int .u8 0), (.int .u8 0), (.int .u8 0), (.int .u8 0), (.int .u8 0), (.int .u8 0), (.int .u8 0), (.int .u8 0), (.int .u8 0), (.int .u8 0), (.int .u8 0)] 234 fun a1005 w1006 =>
Ret P n_istrconv_numDigits [a0] w1006 fun v1007 w1008 =>
xCutA 24 1 (.pointer (some a1005)) none (some v1007) none fun v1009 =>
Ret P n_istrconv_formatBase10 [v1009, a0] w1008 fun v1010 w1011 =>
xCutA 24 1 (.pointer (some a1005)) none (some v1007) none fun v1012 =>
XRun P (convert 27 9 v1012) w1011 fun v1013 w1014 =>
K v1013 w1014)) (Ret P n_istrconv_formatBits [(.slice none 0 0), a0, a1, (.bool false), (.bool false)] w0 fun v1015 w1016 =>
xTup v1015 0 fun v1017 =>
xTup v1015 1 fun v1018 =>
K v1018 w1016)
theorem W_istrconv_FormatUint {a0 a1 : Value} {K : Value → World → Prop} {w : World} (h : S_istrconv_FormatUint a0 a1 K w) : Ret P n_istrconv_FormatUint [a0, a1] w K :=
  vcF_of mixed Tryz.func130 (show S_istrconv_FormatUint a0 a1 K w = vcF P Tryz.f130 [a0, a1] w K from by kernel_rfl) h
/- (*spunyarn/kids.Kids[*spunyarn/node.Node]).Next -/
abbrev S_kids_Kids_Next (a0 : Value) (a1 : Value) (K : Value → World → Prop) (w0 : World) : Prop :=
Ret P n_kids_Kids_ok [a0] w0 fun v1000 w1001 =>
xNot v1000 fun v1002 =>
xIf v1002 (K (.tuple #[(.int .u8 0), (.pointer none), (.bool false)]) w1001) (xAt a0 fun a1003 =>
XLd w1001 (a1003.add 0) fun v1004 =>
xPNe P w1001 v1004 (.pointer none) fun v1005 =>
xIf v1005 (xAt a0 fun a1006 =>
XLd w1001 (a1006.add 0) fun v1007 =>
Ret P n_small_Row_Next [v1007, a1] w1001 fun v1008 w1009 =>
xTup v1008 0 fun v1010 =>
xTup v1008 1 fun v1011 =>
xTup v1008 2 fun v1012 =>
K (.tuple #[v1010, v1011, v1012]) w1009) (xAt a0 fun a1013 =>
XLd w1001 (a1013.add 1) fun v1014 =>
Ret P n_wide_Board_Next [v1014, a1] w1001 fun v1015 w1016 =>
xTup v1015 0 fun v1017 =>
xTup v1015 1 fun v1018 =>
xTup v1015 2 fun v1019 =>
K (.tuple #[v1017, v1018, v1019]) w1016))
theorem W_kids_Kids_Next {a0 a1 : Value} {K : Value → World → Prop} {w : World} (h : S_kids_Kids_Next a0 a1 K w) : Ret P n_kids_Kids_Next [a0, a1] w K :=
  vcF_of mixed Tryz.func131 (show S_kids_Kids_Next a0 a1 K w = vcF P Tryz.f131 [a0, a1] w K from by kernel_rfl) h
/- (*sync/atomic.Bool).Store -/
abbrev S_atomic_Bool_Store (a0 : Value) (a1 : Value) (K : Value → World → Prop) (w0 : World) : Prop :=
xAt a0 fun a1000 =>
Ret P n_atomic_b32 [a1] w0.drew fun v1001 w1002 =>
xCall P 161 [(.pointer (some (a1000.add 0))), v1001] w1002 fun v1003 w1004 =>
K (.tuple #[]) w1004
theorem W_atomic_Bool_Store {a0 a1 : Value} {K : Value → World → Prop} {w : World} (h : S_atomic_Bool_Store a0 a1 K w) : Ret P n_atomic_Bool_Store [a0, a1] w K :=
  vcF_of mixed Tryz.func135 (show S_atomic_Bool_Store a0 a1 K w = vcF P Tryz.f135 [a0, a1] w K from by kernel_rfl) h
/- (*spunyarn/meter.Meter).Made -/
abbrev S_meter_Meter_Made (a0 : Value) (a1 : Value) (K : Value → World → Prop) (w0 : World) : Prop :=
/- 0 -/ XJ (fun J1000 =>
xPNe P w0 a0 (.pointer none) fun v1004 =>
xIf v1004 (xGt a1 (.int .i64 0) fun v1005 =>
J1000 [v1005] w0) (J1000 [(.bool false)] w0)) fun vs1001 g1002 w1003 =>
xIf (vs1001.getD 0 undef) (xAt a0 fun a1006 =>
Ret P n_atomic_Int64_Add [(.pointer (some (a1006.add 0))), a1] w1003 fun v1007 w1008 =>
K (.tuple #[]) w1008) (K (.tuple #[]) w1003)
theorem W_meter_Meter_Made {a0 a1 : Value} {K : Value → World → Prop} {w : World} (h : S_meter_Meter_Made a0 a1 K w) : Ret P n_meter_Meter_Made [a0, a1] w K :=
  vcF_of mixed Tryz.func137 (show S_meter_Meter_Made a0 a1 K w = vcF P Tryz.f137 [a0, a1] w K from by kernel_rfl) h
/- spunyarn/kids.New[*spunyarn/node.Node] -/
abbrev S_kids_New_Node  (K : Value → World → Prop) (w0 : World) : Prop :=
Ret P n_kids_room_Node [(.int .i64 4)] w0 fun v1000 w1001 =>
K v1000 w1001
theorem W_kids_New_Node {K : Value → World → Prop} {w : World} (h : S_kids_New_Node  K w) : Ret P n_kids_New_Node [] w K :=
  vcF_of mixed Tryz.func138 (show S_kids_New_Node  K w = vcF P Tryz.f138 [] w K from by kernel_rfl) h
/- (*spunyarn/node.Node).may -/
abbrev S_node_Node_may (a0 : Value) (a1 : Value) (K : Value → World → Prop) (w0 : World) : Prop :=
xPEq P w0 a0 (.pointer none) fun v1000 =>
xIf v1000 (K (.int .i64 2) w0) (/- 0 -/ XJ (fun J1001 =>
xEq a1 (.int .u64 0) fun v1005 =>
xIf v1005 (J1001 [(.bool true)] w0) (xAt a0 fun a1006 =>
XLd w0 (a1006.add 0) fun v1007 =>
xNe a1 v1007 fun v1008 =>
J1001 [v1008] w0)) fun vs1002 g1003 w1004 =>
xIf (vs1002.getD 0 undef) (K (.int .i64 11) w1004) (K (.int .i64 0) w1004))
theorem W_node_Node_may {a0 a1 : Value} {K : Value → World → Prop} {w : World} (h : S_node_Node_may a0 a1 K w) : Ret P n_node_Node_may [a0, a1] w K :=
  vcF_of mixed Tryz.func139 (show S_node_Node_may a0 a1 K w = vcF P Tryz.f139 [a0, a1] w K from by kernel_rfl) h
/- (*spunyarn/node.Node).inner -/
abbrev S_node_Node_inner (a0 : Value) (a1 : Value) (K : Value → World → Prop) (w0 : World) : Prop :=
Ret P n_node_Node_may [a0, a1] w0 fun v1000 w1001 =>
/- 0 -/ XJ (fun J1002 =>
xEq v1000 (.int .i64 0) fun v1006 =>
xIf v1006 (Ret P n_node_Node_isLeaf [a0] w1001 fun v1007 w1008 =>
J1002 [v1007] w1008) (J1002 [(.bool false)] w1001)) fun vs1003 g1004 w1005 =>
xIf (vs1003.getD 0 undef) (K (.int .i64 9) w1005) (K v1000 w1005)
theorem W_node_Node_inner {a0 a1 : Value} {K : Value → World → Prop} {w : World} (h : S_node_Node_inner a0 a1 K w) : Ret P n_node_Node_inner [a0, a1] w K :=
  vcF_of mixed Tryz.func140 (show S_node_Node_inner a0 a1 K w = vcF P Tryz.f140 [a0, a1] w K from by kernel_rfl) h
/- (*spunyarn/kids.Kids[*spunyarn/node.Node]).Set -/
abbrev S_kids_Kids_Set (a0 : Value) (a1 : Value) (a2 : Value) (K : Value → World → Prop) (w0 : World) : Prop :=
Ret P n_kids_Kids_ok [a0] w0 fun v1000 w1001 =>
xNot v1000 fun v1002 =>
xIf v1002 (K (.int .i64 2) w1001) (/- 0 _ 1 is -/ XJ (fun J1003 =>
Ret P n_kids_Kids_Get [a0, a1] w1001 fun v1007 w1008 =>
xTup v1007 0 fun v1009 =>
xTup v1007 1 fun v1010 =>
/- 0 -/ XJ (fun J1011 =>
xNot v1010 fun v1015 =>
xIf v1015 (Ret P n_kids_Kids_Len [a0] w1008 fun v1016 w1017 =>
Ret P n_kids_Kids_Kind [a0] w1017 fun v1018 w1019 =>
xEq v1016 v1018 fun v1020 =>
J1011 [v1020] w1019) (J1011 [(.bool false)] w1008)) fun vs1012 g1013 w1014 =>
xIf (vs1012.getD 0 undef) (Ret P n_kids_Kids_Len [a0] w1014 fun v1021 w1022 =>
xAdd v1021 (.int .i64 1) fun v1023 =>
Ret P n_kids_KindOf [v1023] w1022 fun v1024 w1025 =>
Ret P n_kids_move_Node [a0, v1024] w1025 fun v1026 w1027 =>
J1003 [v1009, v1010] w1027) (J1003 [v1009, v1010] w1014)) fun vs1004 g1005 w1006 =>
Ret P n_kids_Kids_put [a0, a1, a2] w1006 fun v1028 w1029 =>
K (.int .i64 0) w1029)
theorem W_kids_Kids_Set {a0 a1 a2 : Value} {K : Value → World → Prop} {w : World} (h : S_kids_Kids_Set a0 a1 a2 K w) : Ret P n_kids_Kids_Set [a0, a1, a2] w K :=
  vcF_of mixed Tryz.func141 (show S_kids_Kids_Set a0 a1 a2 K w = vcF P Tryz.f141 [a0, a1, a2] w K from by kernel_rfl) h
/- bytes.HasPrefix -/
abbrev S_bytes_HasPrefix (a0 : Value) (a1 : Value) (K : Value → World → Prop) (w0 : World) : Prop :=
/- 0 -/ XJ (fun J1000 =>
xLen a0 fun v1004 =>
xLen a1 fun v1005 =>
xGe v1004 v1005 fun v1006 =>
xIf v1006 (xLen a1 fun v1007 =>
xCutS 1 a0 none (some v1007) none fun v1008 =>
Ret P n_bytes_Equal [v1008, a1] w0 fun v1009 w1010 =>
J1000 [v1009] w1010) (J1000 [(.bool false)] w0)) fun vs1001 g1002 w1003 =>
K (vs1001.getD 0 undef) w1003
theorem W_bytes_HasPrefix {a0 a1 : Value} {K : Value → World → Prop} {w : World} (h : S_bytes_HasPrefix a0 a1 K w) : Ret P n_bytes_HasPrefix [a0, a1] w K :=
  vcF_of mixed Tryz.func143 (show S_bytes_HasPrefix a0 a1 K w = vcF P Tryz.f143 [a0, a1] w K from by kernel_rfl) h
/- (*spunyarn/node.Node).Kid -/
abbrev S_node_Node_Kid (a0 : Value) (a1 : Value) (K : Value → World → Prop) (w0 : World) : Prop :=
xPEq P w0 a0 (.pointer none) fun v1000 =>
xIf v1000 (K (.pointer none) w0) (xAt a0 fun a1001 =>
XLd w0 (a1001.add 4) fun v1002 =>
Ret P n_kids_Kids_Get [v1002, a1] w0 fun v1003 w1004 =>
xTup v1003 0 fun v1005 =>
xTup v1003 1 fun v1006 =>
K v1005 w1004)
theorem W_node_Node_Kid {a0 a1 : Value} {K : Value → World → Prop} {w : World} (h : S_node_Node_Kid a0 a1 K w) : Ret P n_node_Node_Kid [a0, a1] w K :=
  vcF_of mixed Tryz.func144 (show S_node_Node_Kid a0 a1 K w = vcF P Tryz.f144 [a0, a1] w K from by kernel_rfl) h
/- (*spunyarn/node.Node).Own -/
abbrev S_node_Node_Own (a0 : Value) (a1 : Value) (a2 : Value) (K : Value → World → Prop) (w0 : World) : Prop :=
Ret P n_node_Node_may [a0, a2] w0 fun v1000 w1001 =>
xEq v1000 (.int .i64 0) fun v1002 =>
xIf v1002 (K a0 w1001) (Ret P n_node_Node_Copy [a0, a1, a2] w1001 fun v1003 w1004 =>
K v1003 w1004)
theorem W_node_Node_Own {a0 a1 a2 : Value} {K : Value → World → Prop} {w : World} (h : S_node_Node_Own a0 a1 a2 K w) : Ret P n_node_Node_Own [a0, a1, a2] w K :=
  vcF_of mixed Tryz.func145 (show S_node_Node_Own a0 a1 a2 K w = vcF P Tryz.f145 [a0, a1, a2] w K from by kernel_rfl) h
/- (*spunyarn/node.Node).SetPart -/
abbrev S_node_Node_SetPart (a0 : Value) (a1 : Value) (a2 : Value) (K : Value → World → Prop) (w0 : World) : Prop :=
Ret P n_node_Node_may [a0, a1] w0 fun v1000 w1001 =>
/-  -/ XJ (fun J1002 =>
xEq v1000 (.int .i64 0) fun v1006 =>
xIf v1006 (Ret P n_bytes_Clone [a2] w1001 fun v1007 w1008 =>
xAt a0 fun a1009 =>
XSt w1008 (a1009.add 1) v1007 fun w1010 =>
J1002 [] w1010) (J1002 [] w1001)) fun vs1003 g1004 w1005 =>
K v1000 w1005
theorem W_node_Node_SetPart {a0 a1 a2 : Value} {K : Value → World → Prop} {w : World} (h : S_node_Node_SetPart a0 a1 a2 K w) : Ret P n_node_Node_SetPart [a0, a1, a2] w K :=
  vcF_of mixed Tryz.func146 (show S_node_Node_SetPart a0 a1 a2 K w = vcF P Tryz.f146 [a0, a1, a2] w K from by kernel_rfl) h
/- (spunyarn/del.taker).out -/
abbrev S_del_taker_out (a0 : Value) (a1 : Value) (a2 : Value) (K : Value → World → Prop) (w0 : World) : Prop :=
XNew w0 (cellsV a0) 226 fun a1000 w1001 =>
Ret P n_node_Node_Part [a1] w1001 fun v1002 w1003 =>
xLen v1002 fun v1004 =>
xCutS 1 a2 (some v1004) none none fun v1005 =>
xLen v1005 fun v1006 =>
xEq v1006 (.int .i64 0) fun v1007 =>
xIf v1007 (XLdN w1003 a1000 2 fun v1008 =>
Ret P n_del_taker_here [v1008, a1] w1003 fun v1009 w1010 =>
K v1009 w1010) (xIxS v1005 (.int .i64 0) 1 fun v1011 =>
xAt v1011 fun a1012 =>
XLd w1003 a1012 fun v1013 =>
Ret P n_node_Node_Kid [a1, v1013] w1003 fun v1014 w1015 =>
XLdN w1015.drew a1000 2 fun v1016 =>
xCutS 1 v1005 (some (.int .i64 1)) none none fun v1017 =>
Ret P n_del_taker_out [v1016, v1014, v1017] w1015.drew fun v1018 w1019 =>
xPEq P w1019 v1018 v1014 fun v1020 =>
xIf v1020 (K a1 w1019) (xPNe P w1019 v1018 (.pointer none) fun v1021 =>
xIf v1021 (XLd w1019 (a1000.add 1) fun v1022 =>
XLd w1019 (a1000.add 0) fun v1023 =>
Ret P n_node_Node_Own [a1, v1022, v1023] w1019 fun v1024 w1025 =>
XLd w1025.drew (a1000.add 0) fun v1026 =>
xIxS v1005 (.int .i64 0) 1 fun v1027 =>
xAt v1027 fun a1028 =>
XLd w1025.drew a1028 fun v1029 =>
Ret P n_node_Node_SetKid [v1024, v1026, v1029, v1018] w1025.drew fun v1030 w1031 =>
K v1024 w1031) (XLdN w1019.drew a1000 2 fun v1032 =>
xIxS v1005 (.int .i64 0) 1 fun v1033 =>
xAt v1033 fun a1034 =>
XLd w1019.drew a1034 fun v1035 =>
Ret P n_del_taker_without [v1032, a1, v1035] w1019.drew fun v1036 w1037 =>
K v1036 w1037)))
theorem W_del_taker_out {a0 a1 a2 : Value} {K : Value → World → Prop} {w : World} (h : S_del_taker_out a0 a1 a2 K w) : Ret P n_del_taker_out [a0, a1, a2] w K :=
  vcF_of mixed Tryz.func147 (show S_del_taker_out a0 a1 a2 K w = vcF P Tryz.f147 [a0, a1, a2] w K from by kernel_rfl) h
/- (*spunyarn/kids.Kids[*spunyarn/node.Node]).ok -/
abbrev S_kids_Kids_ok (a0 : Value) (K : Value → World → Prop) (w0 : World) : Prop :=
/- 0 -/ XJ (fun J1000 =>
xPNe P w0 a0 (.pointer none) fun v1004 =>
xIf v1004 (xAt a0 fun a1005 =>
XLd w0 (a1005.add 0) fun v1006 =>
xPNe P w0 v1006 (.pointer none) fun v1007 =>
xIf v1007 (J1000 [(.bool true)] w0) (xAt a0 fun a1008 =>
XLd w0 (a1008.add 1) fun v1009 =>
xPNe P w0 v1009 (.pointer none) fun v1010 =>
J1000 [v1010] w0)) (J1000 [(.bool false)] w0)) fun vs1001 g1002 w1003 =>
K (vs1001.getD 0 undef) w1003
theorem W_kids_Kids_ok {a0 : Value} {K : Value → World → Prop} {w : World} (h : S_kids_Kids_ok a0 K w) : Ret P n_kids_Kids_ok [a0] w K :=
  vcF_of mixed Tryz.func149 (show S_kids_Kids_ok a0 K w = vcF P Tryz.f149 [a0] w K from by kernel_rfl) h
/- (*spunyarn/small.Row[*spunyarn/node.Node]).Room -/
abbrev S_small_Row_Room (a0 : Value) (K : Value → World → Prop) (w0 : World) : Prop :=
Ret P n_small_Row_ok [a0] w0 fun v1000 w1001 =>
xNot v1000 fun v1002 =>
xIf v1002 (K (.int .i64 0) w1001) (xAt a0 fun a1003 =>
XLd w1001 (a1003.add 0) fun v1004 =>
K v1004 w1001)
theorem W_small_Row_Room {a0 : Value} {K : Value → World → Prop} {w : World} (h : S_small_Row_Room a0 K w) : Ret P n_small_Row_Room [a0] w K :=
  vcF_of mixed Tryz.func150 (show S_small_Row_Room a0 K w = vcF P Tryz.f150 [a0] w K from by kernel_rfl) h
/- (*spunyarn/wide.Board[*spunyarn/node.Node]).Room -/
abbrev S_wide_Board_Room (a0 : Value) (K : Value → World → Prop) (w0 : World) : Prop :=
Ret P n_wide_Board_ok [a0] w0 fun v1000 w1001 =>
xNot v1000 fun v1002 =>
xIf v1002 (K (.int .i64 0) w1001) (xAt a0 fun a1003 =>
XLd w1001 (a1003.add 0) fun v1004 =>
K v1004 w1001)
theorem W_wide_Board_Room {a0 : Value} {K : Value → World → Prop} {w : World} (h : S_wide_Board_Room a0 K w) : Ret P n_wide_Board_Room [a0] w K :=
  vcF_of mixed Tryz.func151 (show S_wide_Board_Room a0 K w = vcF P Tryz.f151 [a0] w K from by kernel_rfl) h
/- internal/strconv.FormatInt -/
abbrev S_istrconv_FormatInt (a0 : Value) (a1 : Value) (K : Value → World → Prop) (w0 : World) : Prop :=
xEq a1 (.int .i64 10) fun v1000 =>
xIf v1000 (/- 0 -/ XJ (fun J1001 =>
xLe (.int .i64 0) a0 fun v1005 =>
xIf v1005 (xLt a0 (.int .i64 100) fun v1006 =>
J1001 [v1006] w0) (J1001 [(.bool false)] w0)) fun vs1002 g1003 w1004 =>
xIf (vs1002.getD 0 undef) (Ret P n_istrconv_small [a0] w1004 fun v1007 w1008 =>
K v1007 w1008) (XNew w1004 [(.int .u8 0), (.int .u8 0), (.int .u8 0), (.int .u8 0), (.int .u8 0), (.int .u8 0), (.int .u8 0), (.int .u8 0), (.int .u8 0), (.int .u8 0), (.int .u8 0), (.int .u8 0), (.int .u8 0), (.int .u8 0), (.int .u8 0), (.int .u8 0), (.int .u8 0), (.int .u8 0), (.int .u8 0), (.int .u8 0), (.int .u8 0), (.int .u8 0), (.int .u8 0), (.int .u8 0)] 234 fun a1009 w1010 =>
xConv .u64 a0 fun v1011 =>
/- 0 u -/ XJ (fun J1012 =>
xLt a0 (.int .i64 0) fun v1016 =>
xIf v1016 (xNeg v1011 fun v1017 =>
J1012 [v1017] w1010) (J1012 [v1011] w1010)) fun vs1013 g1014 w1015 =>
Ret P n_istrconv_numDigits [(vs1013.getD 0 undef)] w1015 fun v1018 w1019 =>
xAdd (.int .i64 1) v1018 fun v1020 =>
xCutA 24 1 (.pointer (some a1009)) (some (.int .i64 1)) (some v1020) none fun v1021 =>
Ret P n_istrconv_formatBase10 [v1021, (vs1013.getD 0 undef)] w1019 fun v1022 w1023 =>
xLt a0 (.int .i64 0) fun v1024 =>
xIf v1024 (xIxA (.pointer (some a1009)) (.int .i64 0) 24 1 fun v1025 =>
xAt v1025 fun a1027 =>
XSt w1023 a1027 (.int .u8 45) fun w1026 =>
xAdd (.int .i64 1) v1018 fun v1028 =>
xCutA 24 1 (.pointer (some a1009)) none (some v1028) none fun v1029 =>
XRun P (convert 27 9 v1029) w1026 fun v1030 w1031 =>
K v1030 w1031) (xAdd (.int .i64 1) v1018 fun v1032 =>
xCutA 24 1 (.pointer (some a1009)) (some (.int .i64 1)) (some v1032) none fun v1033 =>
XRun P (convert 27 9 v1033) w1023 fun v1034 w1035 =>
K v1034 w1035))) (xConv .u64 a0 fun v1036 =>
xLt a0 (.int .i64 0) fun v1037 =>
Ret P n_istrconv_formatBits [(.slice none 0 0), v1036, a1, v1037, (.bool false)] w0 fun v1038 w1039 =>
xTup v1038 0 fun v1040 =>
xTup v1038 1 fun v1041 =>
K v1041 w1039)
theorem W_istrconv_FormatInt {a0 a1 : Value} {K : Value → World → Prop} {w : World} (h : S_istrconv_FormatInt a0 a1 K w) : Ret P n_istrconv_FormatInt [a0, a1] w K :=
  vcF_of mixed Tryz.func152 (show S_istrconv_FormatInt a0 a1 K w = vcF P Tryz.f152 [a0, a1] w K from by kernel_rfl) h
/- internal/strconv.small -/
abbrev S_istrconv_small (a0 : Value) (K : Value → World → Prop) (w0 : World) : Prop :=
xLt a0 (.int .i64 10) fun v1000 =>
xIf v1000 (xAdd a0 (.int .i64 1) fun v1001 =>
xCutStr (.string ⟨#[48, 49, 50, 51, 52, 53, 54, 55, 56, 57, 97, 98, 99, 100, 101, 102, 103, 104, 105, 106, 107, 108, 109, 110, 111, 112, 113, 114, 115, 116, 117, 118, 119, 120, 121, 122]⟩) (some a0) (some v1001) fun v1002 =>
K v1002 w0) (xMul a0 (.int .i64 2) fun v1003 =>
xMul a0 (.int .i64 2) fun v1004 =>
xAdd v1004 (.int .i64 2) fun v1005 =>
xCutStr (.string ⟨#[48, 48, 48, 49, 48, 50, 48, 51, 48, 52, 48, 53, 48, 54, 48, 55, 48, 56, 48, 57, 49, 48, 49, 49, 49, 50, 49, 51, 49, 52, 49, 53, 49, 54, 49, 55, 49, 56, 49, 57, 50, 48, 50, 49, 50, 50, 50, 51, 50, 52, 50, 53, 50, 54, 50, 55, 50, 56, 50, 57, 51, 48, 51, 49, 51, 50, 51, 51, 51, 52, 51, 53, 51, 54, 51, 55, 51, 56, 51, 57, 52, 48, 52, 49, 52, 50, 52, 51, 52, 52, 52, 53, 52, 54, 52, 55, 52, 56, 52, 57, 53, 48, 53, 49, 53, 50, 53, 51, 53, 52, 53, 53, 53, 54, 53, 55, 53, 56, 53, 57, 54, 48, 54, 49, 54, 50, 54, 51, 54, 52, 54, 53, 54, 54, 54, 55, 54, 56, 54, 57, 55, 48, 55, 49, 55, 50, 55, 51, 55, 52, 55, 53, 55, 54, 55, 55, 55, 56, 55, 57, 56, 48, 56, 49, 56, 50, 56, 51, 56, 52, 56, 53, 56, 54, 56, 55, 56, 56, 56, 57, 57, 48, 57, 49, 57, 50, 57, 51, 57, 52, 57, 53, 57, 54, 57, 55, 57, 56, 57, 57]⟩) (some v1003) (some v1005) fun v1006 =>
K v1006 w0)
theorem W_istrconv_small {a0 : Value} {K : Value → World → Prop} {w : World} (h : S_istrconv_small a0 K w) : Ret P n_istrconv_small [a0] w K :=
  vcF_of mixed Tryz.func153 (show S_istrconv_small a0 K w = vcF P Tryz.f153 [a0] w K from by kernel_rfl) h
/- internal/strconv.numDigits -/
abbrev S_istrconv_numDigits (a0 : Value) (K : Value → World → Prop) (w0 : World) : Prop :=
Ret P n_bits_Len64 [a0] w0 fun v1000 w1001 =>
Ret P n_istrconv_log10Pow2 [v1000] w1001 fun v1002 w1003 =>
xIxA (.pointer (some ⟨1, 0, none⟩)) v1002 20 1 fun v1004 =>
xAt v1004 fun a1005 =>
XLd w1003 a1005 fun v1006 =>
xGe a0 v1006 fun v1007 =>
Ret P n_istrconv_bool2_int [v1007] w1003 fun v1008 w1009 =>
xAdd v1002 v1008 fun v1010 =>
K v1010 w1009
theorem W_istrconv_numDigits {a0 : Value} {K : Value → World → Prop} {w : World} (h : S_istrconv_numDigits a0 K w) : Ret P n_istrconv_numDigits [a0] w K :=
  vcF_of mixed Tryz.func154 (show S_istrconv_numDigits a0 K w = vcF P Tryz.f154 [a0] w K from by kernel_rfl) h
/- internal/strconv.formatBase10 -/
/- S_istrconv_formatBase10_l1: 0=slot 4 nd 1=slot 1 u 2=slot 5 x3210 3=slot 6 x32 4=slot 7 x10 5=slot 8 x1 6=slot 9 x0 7=slot 10 x3 8=slot 11 x2 -/
def S_istrconv_formatBase10_l1 (K : Value → World → Prop) (a0 : Value) (I1001 : Nat → List Value → World → Prop) (n1002 : Nat) (vs1003 : List Value) (g1004 : Nat → Value) (w1005 : World) : Prop :=
xGe (vs1003.getD 0 undef) (.int .i64 8) fun v1006 =>
xIf v1006 (xRem (vs1003.getD 1 undef) (.int .u64 100000000) fun v1007 =>
xConv .u32 v1007 fun v1008 =>
xQuo (vs1003.getD 1 undef) (.int .u64 100000000) fun v1009 =>
xQuo v1008 (.int .u32 10000) fun v1010 =>
xRem v1008 (.int .u32 10000) fun v1011 =>
xQuo v1011 (.int .u32 100) fun v1012 =>
xMul v1012 (.int .u32 2) fun v1013 =>
xRem v1011 (.int .u32 100) fun v1014 =>
xMul v1014 (.int .u32 2) fun v1015 =>
xQuo v1010 (.int .u32 100) fun v1016 =>
xMul v1016 (.int .u32 2) fun v1017 =>
xRem v1010 (.int .u32 100) fun v1018 =>
xMul v1018 (.int .u32 2) fun v1019 =>
xSub (vs1003.getD 0 undef) (.int .i64 1) fun v1020 =>
xSub (vs1003.getD 0 undef) (.int .i64 2) fun v1021 =>
xAdd v1015 (.int .u32 1) fun v1022 =>
xIxStr (.string ⟨#[48, 48, 48, 49, 48, 50, 48, 51, 48, 52, 48, 53, 48, 54, 48, 55, 48, 56, 48, 57, 49, 48, 49, 49, 49, 50, 49, 51, 49, 52, 49, 53, 49, 54, 49, 55, 49, 56, 49, 57, 50, 48, 50, 49, 50, 50, 50, 51, 50, 52, 50, 53, 50, 54, 50, 55, 50, 56, 50, 57, 51, 48, 51, 49, 51, 50, 51, 51, 51, 52, 51, 53, 51, 54, 51, 55, 51, 56, 51, 57, 52, 48, 52, 49, 52, 50, 52, 51, 52, 52, 52, 53, 52, 54, 52, 55, 52, 56, 52, 57, 53, 48, 53, 49, 53, 50, 53, 51, 53, 52, 53, 53, 53, 54, 53, 55, 53, 56, 53, 57, 54, 48, 54, 49, 54, 50, 54, 51, 54, 52, 54, 53, 54, 54, 54, 55, 54, 56, 54, 57, 55, 48, 55, 49, 55, 50, 55, 51, 55, 52, 55, 53, 55, 54, 55, 55, 55, 56, 55, 57, 56, 48, 56, 49, 56, 50, 56, 51, 56, 52, 56, 53, 56, 54, 56, 55, 56, 56, 56, 57, 57, 48, 57, 49, 57, 50, 57, 51, 57, 52, 57, 53, 57, 54, 57, 55, 57, 56, 57, 57]⟩) v1022 fun v1023 =>
xIxStr (.string ⟨#[48, 48, 48, 49, 48, 50, 48, 51, 48, 52, 48, 53, 48, 54, 48, 55, 48, 56, 48, 57, 49, 48, 49, 49, 49, 50, 49, 51, 49, 52, 49, 53, 49, 54, 49, 55, 49, 56, 49, 57, 50, 48, 50, 49, 50, 50, 50, 51, 50, 52, 50, 53, 50, 54, 50, 55, 50, 56, 50, 57, 51, 48, 51, 49, 51, 50, 51, 51, 51, 52, 51, 53, 51, 54, 51, 55, 51, 56, 51, 57, 52, 48, 52, 49, 52, 50, 52, 51, 52, 52, 52, 53, 52, 54, 52, 55, 52, 56, 52, 57, 53, 48, 53, 49, 53, 50, 53, 51, 53, 52, 53, 53, 53, 54, 53, 55, 53, 56, 53, 57, 54, 48, 54, 49, 54, 50, 54, 51, 54, 52, 54, 53, 54, 54, 54, 55, 54, 56, 54, 57, 55, 48, 55, 49, 55, 50, 55, 51, 55, 52, 55, 53, 55, 54, 55, 55, 55, 56, 55, 57, 56, 48, 56, 49, 56, 50, 56, 51, 56, 52, 56, 53, 56, 54, 56, 55, 56, 56, 56, 57, 57, 48, 57, 49, 57, 50, 57, 51, 57, 52, 57, 53, 57, 54, 57, 55, 57, 56, 57, 57]⟩) v1015 fun v1024 =>
xIxS a0 v1020 1 fun v1025 =>
xAt v1025 fun a1027 =>
XSt w1005.drew a1027 v1023 fun w1026 =>
xIxS a0 v1021 1 fun v1028 =>
xAt v1028 fun a1030 =>
XSt w1026 a1030 v1024 fun w1029 =>
xSub (vs1003.getD 0 undef) (.int .i64 3) fun v1031 =>
xSub (vs1003.getD 0 undef) (.int .i64 4) fun v1032 =>
xAdd v1013 (.int .u32 1) fun v1033 =>
xIxStr (.string ⟨#[48, 48, 48, 49, 48, 50, 48, 51, 48, 52, 48, 53, 48, 54, 48, 55, 48, 56, 48, 57, 49, 48, 49, 49, 49, 50, 49, 51, 49, 52, 49, 53, 49, 54, 49, 55, 49, 56, 49, 57, 50, 48, 50, 49, 50, 50, 50, 51, 50, 52, 50, 53, 50, 54, 50, 55, 50, 56, 50, 57, 51, 48, 51, 49, 51, 50, 51, 51, 51, 52, 51, 53, 51, 54, 51, 55, 51, 56, 51, 57, 52, 48, 52, 49, 52, 50, 52, 51, 52, 52, 52, 53, 52, 54, 52, 55, 52, 56, 52, 57, 53, 48, 53, 49, 53, 50, 53, 51, 53, 52, 53, 53, 53, 54, 53, 55, 53, 56, 53, 57, 54, 48, 54, 49, 54, 50, 54, 51, 54, 52, 54, 53, 54, 54, 54, 55, 54, 56, 54, 57, 55, 48, 55, 49, 55, 50, 55, 51, 55, 52, 55, 53, 55, 54, 55, 55, 55, 56, 55, 57, 56, 48, 56, 49, 56, 50, 56, 51, 56, 52, 56, 53, 56, 54, 56, 55, 56, 56, 56, 57, 57, 48, 57, 49, 57, 50, 57, 51, 57, 52, 57, 53, 57, 54, 57, 55, 57, 56, 57, 57]⟩) v1033 fun v1034 =>
xIxStr (.string ⟨#[48, 48, 48, 49, 48, 50, 48, 51, 48, 52, 48, 53, 48, 54, 48, 55, 48, 56, 48, 57, 49, 48, 49, 49, 49, 50, 49, 51, 49, 52, 49, 53, 49, 54, 49, 55, 49, 56, 49, 57, 50, 48, 50, 49, 50, 50, 50, 51, 50, 52, 50, 53, 50, 54, 50, 55, 50, 56, 50, 57, 51, 48, 51, 49, 51, 50, 51, 51, 51, 52, 51, 53, 51, 54, 51, 55, 51, 56, 51, 57, 52, 48, 52, 49, 52, 50, 52, 51, 52, 52, 52, 53, 52, 54, 52, 55, 52, 56, 52, 57, 53, 48, 53, 49, 53, 50, 53, 51, 53, 52, 53, 53, 53, 54, 53, 55, 53, 56, 53, 57, 54, 48, 54, 49, 54, 50, 54, 51, 54, 52, 54, 53, 54, 54, 54, 55, 54, 56, 54, 57, 55, 48, 55, 49, 55, 50, 55, 51, 55, 52, 55, 53, 55, 54, 55, 55, 55, 56, 55, 57, 56, 48, 56, 49, 56, 50, 56, 51, 56, 52, 56, 53, 56, 54, 56, 55, 56, 56, 56, 57, 57, 48, 57, 49, 57, 50, 57, 51, 57, 52, 57, 53, 57, 54, 57, 55, 57, 56, 57, 57]⟩) v1013 fun v1035 =>
xIxS a0 v1031 1 fun v1036 =>
xAt v1036 fun a1038 =>
XSt w1029.drew a1038 v1034 fun w1037 =>
xIxS a0 v1032 1 fun v1039 =>
xAt v1039 fun a1041 =>
XSt w1037 a1041 v1035 fun w1040 =>
xSub (vs1003.getD 0 undef) (.int .i64 5) fun v1042 =>
xSub (vs1003.getD 0 undef) (.int .i64 6) fun v1043 =>
xAdd v1019 (.int .u32 1) fun v1044 =>
xIxStr (.string ⟨#[48, 48, 48, 49, 48, 50, 48, 51, 48, 52, 48, 53, 48, 54, 48, 55, 48, 56, 48, 57, 49, 48, 49, 49, 49, 50, 49, 51, 49, 52, 49, 53, 49, 54, 49, 55, 49, 56, 49, 57, 50, 48, 50, 49, 50, 50, 50, 51, 50, 52, 50, 53, 50, 54, 50, 55, 50, 56, 50, 57, 51, 48, 51, 49, 51, 50, 51, 51, 51, 52, 51, 53, 51, 54, 51, 55, 51, 56, 51, 57, 52, 48, 52, 49, 52, 50, 52, 51, 52, 52, 52, 53, 52, 54, 52, 55, 52, 56, 52, 57, 53, 48, 53, 49, 53, 50, 53, 51, 53, 52, 53, 53, 53, 54, 53, 55, 53, 56, 53, 57, 54, 48, 54, 49, 54, 50, 54, 51, 54, 52, 54, 53, 54, 54, 54, 55, 54, 56, 54, 57, 55, 48, 55, 49, 55, 50, 55, 51, 55, 52, 55, 53, 55, 54, 55, 55, 55, 56, 55, 57, 56, 48, 56, 49, 56, 50, 56, 51, 56, 52, 56, 53, 56, 54, 56, 55, 56, 56, 56, 57, 57, 48, 57, 49, 57, 50, 57, 51, 57, 52, 57, 53, 57, 54, 57, 55, 57, 56, 57, 57]⟩) v1044 fun v1045 =>
xIxStr (.string ⟨#[48, 48, 48, 49, 48, 50, 48, 51, 48, 52, 48, 53, 48, 54, 48, 55, 48, 56, 48, 57, 49, 48, 49, 49, 49, 50, 49, 51, 49, 52, 49, 53, 49, 54, 49, 55, 49, 56, 49, 57, 50, 48, 50, 49, 50, 50, 50, 51, 50, 52, 50, 53, 50, 54, 50, 55, 50, 56, 50, 57, 51, 48, 51, 49, 51, 50, 51, 51, 51, 52, 51, 53, 51, 54, 51, 55, 51, 56, 51, 57, 52, 48, 52, 49, 52, 50, 52, 51, 52, 52, 52, 53, 52, 54, 52, 55, 52, 56, 52, 57, 53, 48, 53, 49, 53, 50, 53, 51, 53, 52, 53, 53, 53, 54, 53, 55, 53, 56, 53, 57, 54, 48, 54, 49, 54, 50, 54, 51, 54, 52, 54, 53, 54, 54, 54, 55, 54, 56, 54, 57, 55, 48, 55, 49, 55, 50, 55, 51, 55, 52, 55, 53, 55, 54, 55, 55, 55, 56, 55, 57, 56, 48, 56, 49, 56, 50, 56, 51, 56, 52, 56, 53, 56, 54, 56, 55, 56, 56, 56, 57, 57, 48, 57, 49, 57, 50, 57, 51, 57, 52, 57, 53, 57, 54, 57, 55, 57, 56, 57, 57]⟩) v1019 fun v1046 =>
xIxS a0 v1042 1 fun v1047 =>
xAt v1047 fun a1049 =>
XSt w1040.drew a1049 v1045 fun w1048 =>
xIxS a0 v1043 1 fun v1050 =>
xAt v1050 fun a1052 =>
XSt w1048 a1052 v1046 fun w1051 =>
xSub (vs1003.getD 0 undef) (.int .i64 7) fun v1053 =>
xSub (vs1003.getD 0 undef) (.int .i64 8) fun v1054 =>
xAdd v1017 (.int .u32 1) fun v1055 =>
xIxStr (.string ⟨#[48, 48, 48, 49, 48, 50, 48, 51, 48, 52, 48, 53, 48, 54, 48, 55, 48, 56, 48, 57, 49, 48, 49, 49, 49, 50, 49, 51, 49, 52, 49, 53, 49, 54, 49, 55, 49, 56, 49, 57, 50, 48, 50, 49, 50, 50, 50, 51, 50, 52, 50, 53, 50, 54, 50, 55, 50, 56, 50, 57, 51, 48, 51, 49, 51, 50, 51, 51, 51, 52, 51, 53, 51, 54, 51, 55, 51, 56, 51, 57, 52, 48, 52, 49, 52, 50, 52, 51, 52, 52, 52, 53, 52, 54, 52, 55, 52, 56, 52, 57, 53, 48, 53, 49, 53, 50, 53, 51, 53, 52, 53, 53, 53, 54, 53, 55, 53, 56, 53, 57, 54, 48, 54, 49, 54, 50, 54, 51, 54, 52, 54, 53, 54, 54, 54, 55, 54, 56, 54, 57, 55, 48, 55, 49, 55, 50, 55, 51, 55, 52, 55, 53, 55, 54, 55, 55, 55, 56, 55, 57, 56, 48, 56, 49, 56, 50, 56, 51, 56, 52, 56, 53, 56, 54, 56, 55, 56, 56, 56, 57, 57, 48, 57, 49, 57, 50, 57, 51, 57, 52, 57, 53, 57, 54, 57, 55, 57, 56, 57, 57]⟩) v1055 fun v1056 =>
xIxStr (.string ⟨#[48, 48, 48, 49, 48, 50, 48, 51, 48, 52, 48, 53, 48, 54, 48, 55, 48, 56, 48, 57, 49, 48, 49, 49, 49, 50, 49, 51, 49, 52, 49, 53, 49, 54, 49, 55, 49, 56, 49, 57, 50, 48, 50, 49, 50, 50, 50, 51, 50, 52, 50, 53, 50, 54, 50, 55, 50, 56, 50, 57, 51, 48, 51, 49, 51, 50, 51, 51, 51, 52, 51, 53, 51, 54, 51, 55, 51, 56, 51, 57, 52, 48, 52, 49, 52, 50, 52, 51, 52, 52, 52, 53, 52, 54, 52, 55, 52, 56, 52, 57, 53, 48, 53, 49, 53, 50, 53, 51, 53, 52, 53, 53, 53, 54, 53, 55, 53, 56, 53, 57, 54, 48, 54, 49, 54, 50, 54, 51, 54, 52, 54, 53, 54, 54, 54, 55, 54, 56, 54, 57, 55, 48, 55, 49, 55, 50, 55, 51, 55, 52, 55, 53, 55, 54, 55, 55, 55, 56, 55, 57, 56, 48, 56, 49, 56, 50, 56, 51, 56, 52, 56, 53, 56, 54, 56, 55, 56, 56, 56, 57, 57, 48, 57, 49, 57, 50, 57, 51, 57, 52, 57, 53, 57, 54, 57, 55, 57, 56, 57, 57]⟩) v1017 fun v1057 =>
xIxS a0 v1053 1 fun v1058 =>
xAt v1058 fun a1060 =>
XSt w1051.drew a1060 v1056 fun w1059 =>
xIxS a0 v1054 1 fun v1061 =>
xAt v1061 fun a1063 =>
XSt w1059 a1063 v1057 fun w1062 =>
xSub (vs1003.getD 0 undef) (.int .i64 8) fun v1064 =>
XNext I1001 n1002 [v1064, v1009, v1008, v1010, v1011, v1013, v1015, v1017, v1019] w1062) (xConv .u32 (vs1003.getD 1 undef) fun v1065 =>
/- 0 x10 1 x 2 x1 3 x0 4 nd -/ XJ (fun J1066 =>
xGe (vs1003.getD 0 undef) (.int .i64 4) fun v1070 =>
xIf v1070 (xRem v1065 (.int .u32 10000) fun v1071 =>
xQuo v1065 (.int .u32 10000) fun v1072 =>
xQuo v1071 (.int .u32 100) fun v1073 =>
xMul v1073 (.int .u32 2) fun v1074 =>
xRem v1071 (.int .u32 100) fun v1075 =>
xMul v1075 (.int .u32 2) fun v1076 =>
xSub (vs1003.getD 0 undef) (.int .i64 1) fun v1077 =>
xSub (vs1003.getD 0 undef) (.int .i64 2) fun v1078 =>
xAdd v1076 (.int .u32 1) fun v1079 =>
xIxStr (.string ⟨#[48, 48, 48, 49, 48, 50, 48, 51, 48, 52, 48, 53, 48, 54, 48, 55, 48, 56, 48, 57, 49, 48, 49, 49, 49, 50, 49, 51, 49, 52, 49, 53, 49, 54, 49, 55, 49, 56, 49, 57, 50, 48, 50, 49, 50, 50, 50, 51, 50, 52, 50, 53, 50, 54, 50, 55, 50, 56, 50, 57, 51, 48, 51, 49, 51, 50, 51, 51, 51, 52, 51, 53, 51, 54, 51, 55, 51, 56, 51, 57, 52, 48, 52, 49, 52, 50, 52, 51, 52, 52, 52, 53, 52, 54, 52, 55, 52, 56, 52, 57, 53, 48, 53, 49, 53, 50, 53, 51, 53, 52, 53, 53, 53, 54, 53, 55, 53, 56, 53, 57, 54, 48, 54, 49, 54, 50, 54, 51, 54, 52, 54, 53, 54, 54, 54, 55, 54, 56, 54, 57, 55, 48, 55, 49, 55, 50, 55, 51, 55, 52, 55, 53, 55, 54, 55, 55, 55, 56, 55, 57, 56, 48, 56, 49, 56, 50, 56, 51, 56, 52, 56, 53, 56, 54, 56, 55, 56, 56, 56, 57, 57, 48, 57, 49, 57, 50, 57, 51, 57, 52, 57, 53, 57, 54, 57, 55, 57, 56, 57, 57]⟩) v1079 fun v1080 =>
xIxStr (.string ⟨#[48, 48, 48, 49, 48, 50, 48, 51, 48, 52, 48, 53, 48, 54, 48, 55, 48, 56, 48, 57, 49, 48, 49, 49, 49, 50, 49, 51, 49, 52, 49, 53, 49, 54, 49, 55, 49, 56, 49, 57, 50, 48, 50, 49, 50, 50, 50, 51, 50, 52, 50, 53, 50, 54, 50, 55, 50, 56, 50, 57, 51, 48, 51, 49, 51, 50, 51, 51, 51, 52, 51, 53, 51, 54, 51, 55, 51, 56, 51, 57, 52, 48, 52, 49, 52, 50, 52, 51, 52, 52, 52, 53, 52, 54, 52, 55, 52, 56, 52, 57, 53, 48, 53, 49, 53, 50, 53, 51, 53, 52, 53, 53, 53, 54, 53, 55, 53, 56, 53, 57, 54, 48, 54, 49, 54, 50, 54, 51, 54, 52, 54, 53, 54, 54, 54, 55, 54, 56, 54, 57, 55, 48, 55, 49, 55, 50, 55, 51, 55, 52, 55, 53, 55, 54, 55, 55, 55, 56, 55, 57, 56, 48, 56, 49, 56, 50, 56, 51, 56, 52, 56, 53, 56, 54, 56, 55, 56, 56, 56, 57, 57, 48, 57, 49, 57, 50, 57, 51, 57, 52, 57, 53, 57, 54, 57, 55, 57, 56, 57, 57]⟩) v1076 fun v1081 =>
xIxS a0 v1077 1 fun v1082 =>
xAt v1082 fun a1084 =>
XSt w1005.drew a1084 v1080 fun w1083 =>
xIxS a0 v1078 1 fun v1085 =>
xAt v1085 fun a1087 =>
XSt w1083 a1087 v1081 fun w1086 =>
xSub (vs1003.getD 0 undef) (.int .i64 3) fun v1088 =>
xSub (vs1003.getD 0 undef) (.int .i64 4) fun v1089 =>
xAdd v1074 (.int .u32 1) fun v1090 =>
xIxStr (.string ⟨#[48, 48, 48, 49, 48, 50, 48, 51, 48, 52, 48, 53, 48, 54, 48, 55, 48, 56, 48, 57, 49, 48, 49, 49, 49, 50, 49, 51, 49, 52, 49, 53, 49, 54, 49, 55, 49, 56, 49, 57, 50, 48, 50, 49, 50, 50, 50, 51, 50, 52, 50, 53, 50, 54, 50, 55, 50, 56, 50, 57, 51, 48, 51, 49, 51, 50, 51, 51, 51, 52, 51, 53, 51, 54, 51, 55, 51, 56, 51, 57, 52, 48, 52, 49, 52, 50, 52, 51, 52, 52, 52, 53, 52, 54, 52, 55, 52, 56, 52, 57, 53, 48, 53, 49, 53, 50, 53, 51, 53, 52, 53, 53, 53, 54, 53, 55, 53, 56, 53, 57, 54, 48, 54, 49, 54, 50, 54, 51, 54, 52, 54, 53, 54, 54, 54, 55, 54, 56, 54, 57, 55, 48, 55, 49, 55, 50, 55, 51, 55, 52, 55, 53, 55, 54, 55, 55, 55, 56, 55, 57, 56, 48, 56, 49, 56, 50, 56, 51, 56, 52, 56, 53, 56, 54, 56, 55, 56, 56, 56, 57, 57, 48, 57, 49, 57, 50, 57, 51, 57, 52, 57, 53, 57, 54, 57, 55, 57, 56, 57, 57]⟩) v1090 fun v1091 =>
xIxStr (.string ⟨#[48, 48, 48, 49, 48, 50, 48, 51, 48, 52, 48, 53, 48, 54, 48, 55, 48, 56, 48, 57, 49, 48, 49, 49, 49, 50, 49, 51, 49, 52, 49, 53, 49, 54, 49, 55, 49, 56, 49, 57, 50, 48, 50, 49, 50, 50, 50, 51, 50, 52, 50, 53, 50, 54, 50, 55, 50, 56, 50, 57, 51, 48, 51, 49, 51, 50, 51, 51, 51, 52, 51, 53, 51, 54, 51, 55, 51, 56, 51, 57, 52, 48, 52, 49, 52, 50, 52, 51, 52, 52, 52, 53, 52, 54, 52, 55, 52, 56, 52, 57, 53, 48, 53, 49, 53, 50, 53, 51, 53, 52, 53, 53, 53, 54, 53, 55, 53, 56, 53, 57, 54, 48, 54, 49, 54, 50, 54, 51, 54, 52, 54, 53, 54, 54, 54, 55, 54, 56, 54, 57, 55, 48, 55, 49, 55, 50, 55, 51, 55, 52, 55, 53, 55, 54, 55, 55, 55, 56, 55, 57, 56, 48, 56, 49, 56, 50, 56, 51, 56, 52, 56, 53, 56, 54, 56, 55, 56, 56, 56, 57, 57, 48, 57, 49, 57, 50, 57, 51, 57, 52, 57, 53, 57, 54, 57, 55, 57, 56, 57, 57]⟩) v1074 fun v1092 =>
xIxS a0 v1088 1 fun v1093 =>
xAt v1093 fun a1095 =>
XSt w1086.drew a1095 v1091 fun w1094 =>
xIxS a0 v1089 1 fun v1096 =>
xAt v1096 fun a1098 =>
XSt w1094 a1098 v1092 fun w1097 =>
xSub (vs1003.getD 0 undef) (.int .i64 4) fun v1099 =>
J1066 [v1071, v1072, v1074, v1076, v1099] w1097) (J1066 [undef, v1065, undef, undef, (vs1003.getD 0 undef)] w1005)) fun vs1067 g1068 w1069 =>
/- 0 x0 1 x 2 nd -/ XJ (fun J1100 =>
xGe (vs1067.getD 4 undef) (.int .i64 2) fun v1104 =>
xIf v1104 (xRem (vs1067.getD 1 undef) (.int .u32 100) fun v1105 =>
xMul v1105 (.int .u32 2) fun v1106 =>
xQuo (vs1067.getD 1 undef) (.int .u32 100) fun v1107 =>
xSub (vs1067.getD 4 undef) (.int .i64 1) fun v1108 =>
xSub (vs1067.getD 4 undef) (.int .i64 2) fun v1109 =>
xAdd v1106 (.int .u32 1) fun v1110 =>
xIxStr (.string ⟨#[48, 48, 48, 49, 48, 50, 48, 51, 48, 52, 48, 53, 48, 54, 48, 55, 48, 56, 48, 57, 49, 48, 49, 49, 49, 50, 49, 51, 49, 52, 49, 53, 49, 54, 49, 55, 49, 56, 49, 57, 50, 48, 50, 49, 50, 50, 50, 51, 50, 52, 50, 53, 50, 54, 50, 55, 50, 56, 50, 57, 51, 48, 51, 49, 51, 50, 51, 51, 51, 52, 51, 53, 51, 54, 51, 55, 51, 56, 51, 57, 52, 48, 52, 49, 52, 50, 52, 51, 52, 52, 52, 53, 52, 54, 52, 55, 52, 56, 52, 57, 53, 48, 53, 49, 53, 50, 53, 51, 53, 52, 53, 53, 53, 54, 53, 55, 53, 56, 53, 57, 54, 48, 54, 49, 54, 50, 54, 51, 54, 52, 54, 53, 54, 54, 54, 55, 54, 56, 54, 57, 55, 48, 55, 49, 55, 50, 55, 51, 55, 52, 55, 53, 55, 54, 55, 55, 55, 56, 55, 57, 56, 48, 56, 49, 56, 50, 56, 51, 56, 52, 56, 53, 56, 54, 56, 55, 56, 56, 56, 57, 57, 48, 57, 49, 57, 50, 57, 51, 57, 52, 57, 53, 57, 54, 57, 55, 57, 56, 57, 57]⟩) v1110 fun v1111 =>
xIxStr (.string ⟨#[48, 48, 48, 49, 48, 50, 48, 51, 48, 52, 48, 53, 48, 54, 48, 55, 48, 56, 48, 57, 49, 48, 49, 49, 49, 50, 49, 51, 49, 52, 49, 53, 49, 54, 49, 55, 49, 56, 49, 57, 50, 48, 50, 49, 50, 50, 50, 51, 50, 52, 50, 53, 50, 54, 50, 55, 50, 56, 50, 57, 51, 48, 51, 49, 51, 50, 51, 51, 51, 52, 51, 53, 51, 54, 51, 55, 51, 56, 51, 57, 52, 48, 52, 49, 52, 50, 52, 51, 52, 52, 52, 53, 52, 54, 52, 55, 52, 56, 52, 57, 53, 48, 53, 49, 53, 50, 53, 51, 53, 52, 53, 53, 53, 54, 53, 55, 53, 56, 53, 57, 54, 48, 54, 49, 54, 50, 54, 51, 54, 52, 54, 53, 54, 54, 54, 55, 54, 56, 54, 57, 55, 48, 55, 49, 55, 50, 55, 51, 55, 52, 55, 53, 55, 54, 55, 55, 55, 56, 55, 57, 56, 48, 56, 49, 56, 50, 56, 51, 56, 52, 56, 53, 56, 54, 56, 55, 56, 56, 56, 57, 57, 48, 57, 49, 57, 50, 57, 51, 57, 52, 57, 53, 57, 54, 57, 55, 57, 56, 57, 57]⟩) v1106 fun v1112 =>
xIxS a0 v1108 1 fun v1113 =>
xAt v1113 fun a1115 =>
XSt w1069.drew a1115 v1111 fun w1114 =>
xIxS a0 v1109 1 fun v1116 =>
xAt v1116 fun a1118 =>
XSt w1114 a1118 v1112 fun w1117 =>
xSub (vs1067.getD 4 undef) (.int .i64 2) fun v1119 =>
J1100 [v1106, v1107, v1119] w1117) (J1100 [undef, (vs1067.getD 1 undef), (vs1067.getD 4 undef)] w1069)) fun vs1101 g1102 w1103 =>
xGt (vs1101.getD 2 undef) (.int .i64 0) fun v1120 =>
xIf v1120 (xAdd (.int .u32 48) (vs1101.getD 1 undef) fun v1121 =>
xConv .u8 v1121 fun v1122 =>
xIxS a0 (.int .i64 0) 1 fun v1123 =>
xAt v1123 fun a1125 =>
XSt w1103 a1125 v1122 fun w1124 =>
K (.tuple #[]) w1124) (K (.tuple #[]) w1103))
abbrev S_istrconv_formatBase10 (a0 : Value) (a1 : Value) (K : Value → World → Prop) (w0 : World) : Prop :=
xLen a0 fun v1000 =>
XLoop [v1000, a1, undef, undef, undef, undef, undef, undef, undef] w0 (S_istrconv_formatBase10_l1 K a0)
theorem W_istrconv_formatBase10 {a0 a1 : Value} {K : Value → World → Prop} {w : World} (h : S_istrconv_formatBase10 a0 a1 K w) : Ret P n_istrconv_formatBase10 [a0, a1] w K :=
  vcF_of mixed Tryz.func155 (show S_istrconv_formatBase10 a0 a1 K w = vcF P Tryz.f155 [a0, a1] w K from by kernel_rfl) h
/- internal/strconv.formatBits -/
/- S_istrconv_formatBits_l1: 0=slot 1 u 1=slot 13 i -/
def S_istrconv_formatBits_l1 (a1011 : Addr) (J1018 : List Value → World → Prop) (v1027 : Value) (v1028 : Value) (v1030 : Value) (I1031 : Nat → List Value → World → Prop) (n1032 : Nat) (vs1033 : List Value) (g1034 : Nat → Value) (w1035 : World) : Prop :=
xGe (vs1033.getD 0 undef) v1028 fun v1036 =>
xIf v1036 (xSub (vs1033.getD 1 undef) (.int .i64 1) fun v1037 =>
xAnd (vs1033.getD 0 undef) v1030 fun v1038 =>
xIxStr (.string ⟨#[48, 49, 50, 51, 52, 53, 54, 55, 56, 57, 97, 98, 99, 100, 101, 102, 103, 104, 105, 106, 107, 108, 109, 110, 111, 112, 113, 114, 115, 116, 117, 118, 119, 120, 121, 122]⟩) v1038 fun v1039 =>
xIxA (.pointer (some a1011)) v1037 65 1 fun v1040 =>
xAt v1040 fun a1042 =>
XSt w1035 a1042 v1039 fun w1041 =>
xShr (vs1033.getD 0 undef) v1027 fun v1043 =>
XNext I1031 n1032 [v1043, v1037] w1041) (xSub (vs1033.getD 1 undef) (.int .i64 1) fun v1044 =>
xIxStr (.string ⟨#[48, 49, 50, 51, 52, 53, 54, 55, 56, 57, 97, 98, 99, 100, 101, 102, 103, 104, 105, 106, 107, 108, 109, 110, 111, 112, 113, 114, 115, 116, 117, 118, 119, 120, 121, 122]⟩) (vs1033.getD 0 undef) fun v1045 =>
xIxA (.pointer (some a1011)) v1044 65 1 fun v1046 =>
xAt v1046 fun a1048 =>
XSt w1035 a1048 v1045 fun w1047 =>
J1018 [v1027, v1028, v1030, v1044, (vs1033.getD 0 undef), undef, undef] w1047)
/- S_istrconv_formatBits_l2: 0=slot 1 u 1=slot 13 i 2=slot 18 q -/
def S_istrconv_formatBits_l2 (a1011 : Addr) (J1018 : List Value → World → Prop) (v1049 : Value) (I1050 : Nat → List Value → World → Prop) (n1051 : Nat) (vs1052 : List Value) (g1053 : Nat → Value) (w1054 : World) : Prop :=
xGe (vs1052.getD 0 undef) v1049 fun v1055 =>
xIf v1055 (xSub (vs1052.getD 1 undef) (.int .i64 1) fun v1056 =>
xQuo (vs1052.getD 0 undef) v1049 fun v1057 =>
xMul v1057 v1049 fun v1058 =>
xSub (vs1052.getD 0 undef) v1058 fun v1059 =>
xIxStr (.string ⟨#[48, 49, 50, 51, 52, 53, 54, 55, 56, 57, 97, 98, 99, 100, 101, 102, 103, 104, 105, 106, 107, 108, 109, 110, 111, 112, 113, 114, 115, 116, 117, 118, 119, 120, 121, 122]⟩) v1059 fun v1060 =>
xIxA (.pointer (some a1011)) v1056 65 1 fun v1061 =>
xAt v1061 fun a1063 =>
XSt w1054 a1063 v1060 fun w1062 =>
XNext I1050 n1051 [v1057, v1056, v1057] w1062) (xSub (vs1052.getD 1 undef) (.int .i64 1) fun v1064 =>
xIxStr (.string ⟨#[48, 49, 50, 51, 52, 53, 54, 55, 56, 57, 97, 98, 99, 100, 101, 102, 103, 104, 105, 106, 107, 108, 109, 110, 111, 112, 113, 114, 115, 116, 117, 118, 119, 120, 121, 122]⟩) (vs1052.getD 0 undef) fun v1065 =>
xIxA (.pointer (some a1011)) v1064 65 1 fun v1066 =>
xAt v1066 fun a1068 =>
XSt w1054 a1068 v1065 fun w1067 =>
J1018 [undef, undef, undef, v1064, (vs1052.getD 0 undef), v1049, (vs1052.getD 2 undef)] w1067)
abbrev S_istrconv_formatBits (a0 : Value) (a1 : Value) (a2 : Value) (a3 : Value) (a4 : Value) (K : Value → World → Prop) (w0 : World) : Prop :=
/-  -/ XJ (fun J1000 =>
/- 0 -/ XJ (fun J1004 =>
xLt a2 (.int .i64 2) fun v1008 =>
xIf v1008 (J1004 [(.bool true)] w0) (xEq a2 (.int .i64 10) fun v1009 =>
xIf v1009 (J1004 [(.bool true)] w0) (xGt a2 (.int .i64 36) fun v1010 =>
J1004 [v1010] w0))) fun vs1005 g1006 w1007 =>
xIf (vs1005.getD 0 undef) (False) (J1000 [] w1007)) fun vs1001 g1002 w1003 =>
XNew w1003 z_a65_uint8 259 fun a1011 w1012 =>
/- 0 u -/ XJ (fun J1013 =>
xIf a3 (xNeg a1 fun v1017 =>
J1013 [v1017] w1012) (J1013 [a1] w1012)) fun vs1014 g1015 w1016 =>
/- 0 shift 1 b 2 m 3 i 4 u 5 b 6 q -/ XJ (fun J1018 =>
Ret P n_istrconv_isPowerOfTwo [a2] w1016 fun v1022 w1023 =>
xIf v1022 (xConv .u64 a2 fun v1024 =>
Ret P n_bits_TrailingZeros [v1024] w1023 fun v1025 w1026 =>
xConv .u64 v1025 fun v1027 =>
xConv .u64 a2 fun v1028 =>
xConv .u64 a2 fun v1029 =>
xSub v1029 (.int .u64 1) fun v1030 =>
XLoop [(vs1014.getD 0 undef), (.int .i64 65)] w1026 (S_istrconv_formatBits_l1 a1011 J1018 v1027 v1028 v1030)) (xConv .u64 a2 fun v1049 =>
XLoop [(vs1014.getD 0 undef), (.int .i64 65), undef] w1023 (S_istrconv_formatBits_l2 a1011 J1018 v1049))) fun vs1019 g1020 w1021 =>
/- 0 i -/ XJ (fun J1069 =>
xIf a3 (xSub (vs1019.getD 3 undef) (.int .i64 1) fun v1073 =>
xIxA (.pointer (some a1011)) v1073 65 1 fun v1074 =>
xAt v1074 fun a1076 =>
XSt w1021 a1076 (.int .u8 45) fun w1075 =>
J1069 [v1073] w1075) (J1069 [(vs1019.getD 3 undef)] w1021)) fun vs1070 g1071 w1072 =>
xIf a4 (xCutA 65 1 (.pointer (some a1011)) (some (vs1070.getD 0 undef)) none none fun v1077 =>
XRun P (Builtin.append_ #[27, 27] 27 #[a0, v1077]) w1072 fun v1078 w1079 =>
K (.tuple #[v1078, (.string ⟨#[]⟩)]) w1079) (xCutA 65 1 (.pointer (some a1011)) (some (vs1070.getD 0 undef)) none none fun v1080 =>
XRun P (convert 27 9 v1080) w1072 fun v1081 w1082 =>
K (.tuple #[(.slice none 0 0), v1081]) w1082)
theorem W_istrconv_formatBits {a0 a1 a2 a3 a4 : Value} {K : Value → World → Prop} {w : World} (h : S_istrconv_formatBits a0 a1 a2 a3 a4 K w) : Ret P n_istrconv_formatBits [a0, a1, a2, a3, a4] w K :=
  vcF_of mixed Tryz.func156 (show S_istrconv_formatBits a0 a1 a2 a3 a4 K w = vcF P Tryz.f156 [a0, a1, a2, a3, a4] w K from by kernel_rfl) h
/- (*spunyarn/small.Row[*spunyarn/node.Node]).Next -/
abbrev S_small_Row_Next (a0 : Value) (a1 : Value) (K : Value → World → Prop) (w0 : World) : Prop :=
/- 0 -/ XJ (fun J1000 =>
Ret P n_small_Row_ok [a0] w0 fun v1004 w1005 =>
xNot v1004 fun v1006 =>
xIf v1006 (J1000 [(.bool true)] w1005) (xGt a1 (.int .i64 255) fun v1007 =>
J1000 [v1007] w1005)) fun vs1001 g1002 w1003 =>
xIf (vs1001.getD 0 undef) (K (.tuple #[(.int .u8 0), (.pointer none), (.bool false)]) w1003) (xMax a1 (.int .i64 0) fun v1008 =>
xConv .u8 v1008 fun v1009 =>
Ret P n_small_Row_place [a0, v1009] w1003 fun v1010 w1011 =>
xTup v1010 0 fun v1012 =>
xTup v1010 1 fun v1013 =>
Ret P n_small_Row_at [a0, v1012] w1011 fun v1014 w1015 =>
xTup v1014 0 fun v1016 =>
xTup v1014 1 fun v1017 =>
xTup v1014 2 fun v1018 =>
K (.tuple #[v1016, v1017, v1018]) w1015)
theorem W_small_Row_Next {a0 a1 : Value} {K : Value → World → Prop} {w : World} (h : S_small_Row_Next a0 a1 K w) : Ret P n_small_Row_Next [a0, a1] w K :=
  vcF_of mixed Tryz.func157 (show S_small_Row_Next a0 a1 K w = vcF P Tryz.f157 [a0, a1] w K from by kernel_rfl) h
end Go.Proofs.YtlhjfenpmnejoaaGreatDoor
