/-  Written by gen.py for this claim: of each function a form without frames, the same as the engine's condition by reckoning.  -/
import Derived.Test.YtbgfmgkimccbeaaGreatDoorSN
import Derived.Test.YtbgfmgkimccbeaaGreatDoorProg
namespace Go.Proofs.YtbgfmgkimccbeaaGreatDoor
open Go X
set_option linter.unusedVariables false
set_option maxRecDepth 100000
/- (*spunyarn/kids.Kids[*spunyarn/node.Node]).Len -/
abbrev S_kids_Kids_Len (a0 : Value) (K : Value → World → Prop) (w0 : World) : Prop :=
Ret P n_kids_Kids_ok [a0] w0 fun v1000 w1001 =>
xNot v1000 fun v1002 =>
xIf v1002 (K (.int .i64 0) w1001) (xAt a0 fun a1003 =>
XLd w1001 (a1003.add 0) fun v1004 =>
xPNe P w1001 v1004 (.pointer none) fun v1005 =>
xIf v1005 (xAt a0 fun a1006 =>
XLd w1001 (a1006.add 0) fun v1007 =>
Ret P n_small_Row_Len [v1007] w1001 fun v1008 w1009 =>
K v1008 w1009) (xAt a0 fun a1010 =>
XLd w1001 (a1010.add 1) fun v1011 =>
Ret P n_wide_Board_Len [v1011] w1001 fun v1012 w1013 =>
K v1012 w1013))
theorem W_kids_Kids_Len {a0 : Value} {K : Value → World → Prop} {w : World} (h : S_kids_Kids_Len a0 K w) : Ret P n_kids_Kids_Len [a0] w K :=
  vcF_of mixed Tryz.func92 (show S_kids_Kids_Len a0 K w = vcF P Tryz.f92 [a0] w K from by kernel_rfl) h
/- (*spunyarn/node.Node).Len -/
abbrev S_node_Node_Len (a0 : Value) (K : Value → World → Prop) (w0 : World) : Prop :=
xPEq P w0 a0 (.pointer none) fun v1000 =>
xIf v1000 (K (.int .i64 0) w0) (xAt a0 fun a1001 =>
XLd w0 (a1001.add 4) fun v1002 =>
Ret P n_kids_Kids_Len [v1002] w0 fun v1003 w1004 =>
K v1003 w1004)
theorem W_node_Node_Len {a0 : Value} {K : Value → World → Prop} {w : World} (h : S_node_Node_Len a0 K w) : Ret P n_node_Node_Len [a0] w K :=
  vcF_of mixed Tryz.func93 (show S_node_Node_Len a0 K w = vcF P Tryz.f93 [a0] w K from by kernel_rfl) h
/- spunyarn/keys.Sorted -/
/- S_keys_Sorted_l1: 0=slot 3 i 1=slot 2 -/
def S_keys_Sorted_l1 (K : Value → World → Prop) (a0 : Value) (I1000 : Nat → List Value → World → Prop) (n1001 : Nat) (vs1002 : List Value) (g1003 : Nat → Value) (w1004 : World) : Prop :=
xLen a0 fun v1005 =>
xLt (vs1002.getD 0 undef) v1005 fun v1006 =>
xIf v1006 (xSub (vs1002.getD 0 undef) (.int .i64 1) fun v1007 =>
xIxS a0 v1007 2 fun v1008 =>
xFld v1008 0 fun v1009 =>
xAt v1009 fun a1010 =>
XLd w1004.drew a1010 fun v1011 =>
xIxS a0 (vs1002.getD 0 undef) 2 fun v1012 =>
xFld v1012 0 fun v1013 =>
xAt v1013 fun a1014 =>
XLd w1004.drew a1014 fun v1015 =>
Ret P n_keys_Cmp [v1011, v1015] w1004.drew fun v1016 w1017 =>
xGe v1016 (.int .i64 0) fun v1018 =>
xIf v1018 (K (.bool false) w1017) (xAdd (vs1002.getD 0 undef) (.int .i64 1) fun v1019 =>
XNext I1000 n1001 [v1019, (vs1002.getD 1 undef)] w1017)) (K (.bool true) w1004)
abbrev S_keys_Sorted (a0 : Value) (K : Value → World → Prop) (w0 : World) : Prop :=
XLoop [(.int .i64 1), (.bool false)] w0 (S_keys_Sorted_l1 K a0)
theorem W_keys_Sorted {a0 : Value} {K : Value → World → Prop} {w : World} (h : S_keys_Sorted a0 K w) : Ret P n_keys_Sorted [a0] w K :=
  vcF_of mixed Tryz.func94 (show S_keys_Sorted a0 K w = vcF P Tryz.f94 [a0] w K from by kernel_rfl) h
/- spunyarn/node.Leaf -/
abbrev S_node_Leaf (a0 : Value) (a1 : Value) (a2 : Value) (a3 : Value) (K : Value → World → Prop) (w0 : World) : Prop :=
Ret P n_meter_Meter_Made [a0, (.int .i64 1)] w0 fun v1000 w1001 =>
Ret P n_bytes_Clone [a2] w1001 fun v1002 w1003 =>
xFill [(.int .u64 0), (.slice none 0 0), (.int .u64 0), (.bool false), (.pointer none)] [(0, 1, a1), (1, 1, v1002), (2, 1, a3), (3, 1, (.bool true))] fun c1004 =>
XNew w1003 (cellsV (.agg c1004.toArray)) 150 fun a1005 w1006 =>
K (.pointer (some a1005)) w1006
theorem W_node_Leaf {a0 a1 a2 a3 : Value} {K : Value → World → Prop} {w : World} (h : S_node_Leaf a0 a1 a2 a3 K w) : Ret P n_node_Leaf [a0, a1, a2, a3] w K :=
  vcF_of mixed Tryz.func95 (show S_node_Leaf a0 a1 a2 a3 K w = vcF P Tryz.f95 [a0, a1, a2, a3] w K from by kernel_rfl) h
/- spunyarn/node.Inner -/
abbrev S_node_Inner (a0 : Value) (a1 : Value) (a2 : Value) (K : Value → World → Prop) (w0 : World) : Prop :=
Ret P n_meter_Meter_Made [a0, (.int .i64 1)] w0 fun v1000 w1001 =>
Ret P n_bytes_Clone [a2] w1001 fun v1002 w1003 =>
Ret P n_kids_New_Node [] w1003 fun v1004 w1005 =>
xFill [(.int .u64 0), (.slice none 0 0), (.int .u64 0), (.bool false), (.pointer none)] [(0, 1, a1), (1, 1, v1002), (4, 1, v1004)] fun c1006 =>
XNew w1005 (cellsV (.agg c1006.toArray)) 150 fun a1007 w1008 =>
K (.pointer (some a1007)) w1008
theorem W_node_Inner {a0 a1 a2 : Value} {K : Value → World → Prop} {w : World} (h : S_node_Inner a0 a1 a2 K w) : Ret P n_node_Inner [a0, a1, a2] w K :=
  vcF_of mixed Tryz.func96 (show S_node_Inner a0 a1 a2 K w = vcF P Tryz.f96 [a0, a1, a2] w K from by kernel_rfl) h
/- (*spunyarn/node.Node).SetVal -/
abbrev S_node_Node_SetVal (a0 : Value) (a1 : Value) (a2 : Value) (K : Value → World → Prop) (w0 : World) : Prop :=
Ret P n_node_Node_may [a0, a1] w0 fun v1000 w1001 =>
/-  -/ XJ (fun J1002 =>
xEq v1000 (.int .i64 0) fun v1006 =>
xIf v1006 (xAt a0 fun a1007 =>
XSt w1001 (a1007.add 2) a2 fun w1008 =>
xAt a0 fun a1009 =>
XSt w1008 (a1009.add 3) (.bool true) fun w1010 =>
J1002 [] w1010) (J1002 [] w1001)) fun vs1003 g1004 w1005 =>
K v1000 w1005
theorem W_node_Node_SetVal {a0 a1 a2 : Value} {K : Value → World → Prop} {w : World} (h : S_node_Node_SetVal a0 a1 a2 K w) : Ret P n_node_Node_SetVal [a0, a1, a2] w K :=
  vcF_of mixed Tryz.func97 (show S_node_Node_SetVal a0 a1 a2 K w = vcF P Tryz.f97 [a0, a1, a2] w K from by kernel_rfl) h
/- (*spunyarn/node.Node).SetKid -/
abbrev S_node_Node_SetKid (a0 : Value) (a1 : Value) (a2 : Value) (a3 : Value) (K : Value → World → Prop) (w0 : World) : Prop :=
Ret P n_node_Node_inner [a0, a1] w0 fun v1000 w1001 =>
xNe v1000 (.int .i64 0) fun v1002 =>
xIf v1002 (K v1000 w1001) (xPEq P w1001 a3 (.pointer none) fun v1003 =>
xIf v1003 (K (.int .i64 1) w1001) (xAt a0 fun a1004 =>
XLd w1001 (a1004.add 4) fun v1005 =>
Ret P n_kids_Kids_Set [v1005, a2, a3] w1001 fun v1006 w1007 =>
K v1006 w1007))
theorem W_node_Node_SetKid {a0 a1 a2 a3 : Value} {K : Value → World → Prop} {w : World} (h : S_node_Node_SetKid a0 a1 a2 a3 K w) : Ret P n_node_Node_SetKid [a0, a1, a2, a3] w K :=
  vcF_of mixed Tryz.func98 (show S_node_Node_SetKid a0 a1 a2 a3 K w = vcF P Tryz.f98 [a0, a1, a2, a3] w K from by kernel_rfl) h
/- (*spunyarn/find.walk).into -/
abbrev S_find_walk_into (a0 : Value) (K : Value → World → Prop) (w0 : World) : Prop :=
xAt a0 fun a1000 =>
XLd w0 (a1000.add 0) fun v1001 =>
xPEq P w0 v1001 (.pointer none) fun v1002 =>
xIf v1002 (K (.bool false) w0) (xAt a0 fun a1003 =>
XLd w0 (a1003.add 3) fun v1004 =>
xAdd v1004 (.int .i64 1) fun v1005 =>
xAt a0 fun a1006 =>
XSt w0 (a1006.add 3) v1005 fun w1007 =>
xAt a0 fun a1008 =>
XLd w1007 (a1008.add 0) fun v1009 =>
Ret P n_node_Node_Part [v1009] w1007 fun v1010 w1011 =>
xAt a0 fun a1012 =>
XLd w1011.drew (a1012.add 1) fun v1013 =>
xAt a0 fun a1014 =>
XLd w1011.drew (a1014.add 2) fun v1015 =>
xCutS 1 v1013 (some v1015) none none fun v1016 =>
Ret P n_bytes_HasPrefix [v1016, v1010] w1011.drew fun v1017 w1018 =>
xNot v1017 fun v1019 =>
xIf v1019 (K (.bool false) w1018) (xAt a0 fun a1020 =>
XLd w1018 (a1020.add 2) fun v1021 =>
xLen v1010 fun v1022 =>
xAdd v1021 v1022 fun v1023 =>
xAt a0 fun a1024 =>
XSt w1018 (a1024.add 2) v1023 fun w1025 =>
K (.bool true) w1025))
theorem W_find_walk_into {a0 : Value} {K : Value → World → Prop} {w : World} (h : S_find_walk_into a0 K w) : Ret P n_find_walk_into [a0] w K :=
  vcF_of mixed Tryz.func99 (show S_find_walk_into a0 K w = vcF P Tryz.f99 [a0] w K from by kernel_rfl) h
/- (*spunyarn/find.walk).ends -/
abbrev S_find_walk_ends (a0 : Value) (K : Value → World → Prop) (w0 : World) : Prop :=
xAt a0 fun a1000 =>
XLd w0.drew (a1000.add 2) fun v1001 =>
xAt a0 fun a1002 =>
XLd w0.drew (a1002.add 1) fun v1003 =>
xLen v1003 fun v1004 =>
xEq v1001 v1004 fun v1005 =>
K v1005 (w0.drew)
theorem W_find_walk_ends {a0 : Value} {K : Value → World → Prop} {w : World} (h : S_find_walk_ends a0 K w) : Ret P n_find_walk_ends [a0] w K :=
  vcF_of mixed Tryz.func100 (show S_find_walk_ends a0 K w = vcF P Tryz.f100 [a0] w K from by kernel_rfl) h
/- (*spunyarn/find.walk).down -/
abbrev S_find_walk_down (a0 : Value) (K : Value → World → Prop) (w0 : World) : Prop :=
xAt a0 fun a1000 =>
XLd w0.drew (a1000.add 0) fun v1001 =>
xAt a0 fun a1002 =>
XLd w0.drew (a1002.add 1) fun v1003 =>
xAt a0 fun a1004 =>
XLd w0.drew (a1004.add 2) fun v1005 =>
xIxS v1003 v1005 1 fun v1006 =>
xAt v1006 fun a1007 =>
XLd w0.drew a1007 fun v1008 =>
Ret P n_node_Node_Kid [v1001, v1008] w0.drew fun v1009 w1010 =>
xAt a0 fun a1011 =>
XSt w1010 (a1011.add 0) v1009 fun w1012 =>
xAt a0 fun a1013 =>
XLd w1012 (a1013.add 2) fun v1014 =>
xAdd v1014 (.int .i64 1) fun v1015 =>
xAt a0 fun a1016 =>
XSt w1012 (a1016.add 2) v1015 fun w1017 =>
K (.tuple #[]) w1017
theorem W_find_walk_down {a0 : Value} {K : Value → World → Prop} {w : World} (h : S_find_walk_down a0 K w) : Ret P n_find_walk_down [a0] w K :=
  vcF_of mixed Tryz.func101 (show S_find_walk_down a0 K w = vcF P Tryz.f101 [a0] w K from by kernel_rfl) h
/- (spunyarn/put.putter).here -/
abbrev S_put_putter_here (a0 : Value) (a1 : Value) (K : Value → World → Prop) (w0 : World) : Prop :=
XNew w0 (cellsV a0) 119 fun a1000 w1001 =>
XLd w1001 (a1000.add 2) fun v1002 =>
XLd w1001 (a1000.add 1) fun v1003 =>
Ret P n_node_Node_Own [a1, v1002, v1003] w1001 fun v1004 w1005 =>
XLd w1005 (a1000.add 1) fun v1006 =>
XLd w1005 (a1000.add 0) fun v1007 =>
Ret P n_node_Node_SetVal [v1004, v1006, v1007] w1005 fun v1008 w1009 =>
K v1004 w1009
theorem W_put_putter_here {a0 a1 : Value} {K : Value → World → Prop} {w : World} (h : S_put_putter_here a0 a1 K w) : Ret P n_put_putter_here [a0, a1] w K :=
  vcF_of mixed Tryz.func102 (show S_put_putter_here a0 a1 K w = vcF P Tryz.f102 [a0, a1] w K from by kernel_rfl) h
/- (spunyarn/put.putter).split -/
abbrev S_put_putter_split (a0 : Value) (a1 : Value) (a2 : Value) (a3 : Value) (a4 : Value) (K : Value → World → Prop) (w0 : World) : Prop :=
XNew w0 (cellsV a0) 119 fun a1000 w1001 =>
XLd w1001.drew (a1000.add 2) fun v1002 =>
XLd w1001.drew (a1000.add 1) fun v1003 =>
xCutS 1 a2 none (some a4) none fun v1004 =>
Ret P n_node_Inner [v1002, v1003, v1004] w1001.drew fun v1005 w1006 =>
/- 0 v 1 _ 2 kid -/ XJ (fun J1007 =>
xLen a2 fun v1011 =>
xEq a4 v1011 fun v1012 =>
xIf v1012 (Ret P n_node_Node_Val [a1] w1006 fun v1013 w1014 =>
xTup v1013 0 fun v1015 =>
xTup v1013 1 fun v1016 =>
XLd w1014 (a1000.add 1) fun v1017 =>
Ret P n_node_Node_SetVal [v1005, v1017, v1015] w1014 fun v1018 w1019 =>
J1007 [v1015, v1016, undef] w1019) (XLd w1006 (a1000.add 2) fun v1020 =>
XLd w1006 (a1000.add 1) fun v1021 =>
Ret P n_node_Node_Own [a1, v1020, v1021] w1006 fun v1022 w1023 =>
XLd w1023.drew (a1000.add 1) fun v1024 =>
xAdd a4 (.int .i64 1) fun v1025 =>
xCutS 1 a2 (some v1025) none none fun v1026 =>
Ret P n_node_Node_SetPart [v1022, v1024, v1026] w1023.drew fun v1027 w1028 =>
XLd w1028.drew (a1000.add 1) fun v1029 =>
xIxS a2 a4 1 fun v1030 =>
xAt v1030 fun a1031 =>
XLd w1028.drew a1031 fun v1032 =>
Ret P n_node_Node_SetKid [v1005, v1029, v1032, v1022] w1028.drew fun v1033 w1034 =>
J1007 [undef, undef, v1022] w1034)) fun vs1008 g1009 w1010 =>
/-  -/ XJ (fun J1035 =>
xLen a3 fun v1039 =>
xEq a4 v1039 fun v1040 =>
xIf v1040 (XLd w1010 (a1000.add 1) fun v1041 =>
XLd w1010 (a1000.add 0) fun v1042 =>
Ret P n_node_Node_SetVal [v1005, v1041, v1042] w1010 fun v1043 w1044 =>
J1035 [] w1044) (XLd w1010.drew (a1000.add 1) fun v1045 =>
xIxS a3 a4 1 fun v1046 =>
xAt v1046 fun a1047 =>
XLd w1010.drew a1047 fun v1048 =>
XLd w1010.drew (a1000.add 2) fun v1049 =>
XLd w1010.drew (a1000.add 1) fun v1050 =>
xAdd a4 (.int .i64 1) fun v1051 =>
xCutS 1 a3 (some v1051) none none fun v1052 =>
XLd w1010.drew (a1000.add 0) fun v1053 =>
Ret P n_node_Leaf [v1049, v1050, v1052, v1053] w1010.drew fun v1054 w1055 =>
xKeep1 w1055 v1046 v1048 ∧ (xKeep1 w1055 (.pointer (some (a1000.add 1))) v1045 ∧ (Ret P n_node_Node_SetKid [v1005, v1045, v1048, v1054] w1055 fun v1056 w1057 =>
J1035 [] w1057)))) fun vs1036 g1037 w1038 =>
K v1005 w1038
theorem W_put_putter_split {a0 a1 a2 a3 a4 : Value} {K : Value → World → Prop} {w : World} (h : S_put_putter_split a0 a1 a2 a3 a4 K w) : Ret P n_put_putter_split [a0, a1, a2, a3, a4] w K :=
  vcF_of mixed Tryz.func103 (show S_put_putter_split a0 a1 a2 a3 a4 K w = vcF P Tryz.f103 [a0, a1, a2, a3, a4] w K from by kernel_rfl) h
/- (spunyarn/put.putter).below -/
abbrev S_put_putter_below (a0 : Value) (a1 : Value) (a2 : Value) (K : Value → World → Prop) (w0 : World) : Prop :=
XNew w0 (cellsV a0) 119 fun a1000 w1001 =>
xIxS a2 (.int .i64 0) 1 fun v1002 =>
xAt v1002 fun a1003 =>
XLd w1001 a1003 fun v1004 =>
Ret P n_node_Node_Kid [a1, v1004] w1001 fun v1005 w1006 =>
XLdN w1006.drew a1000 3 fun v1007 =>
xCutS 1 a2 (some (.int .i64 1)) none none fun v1008 =>
Ret P n_put_putter_into [v1007, v1005, v1008] w1006.drew fun v1009 w1010 =>
xPEq P w1010 v1009 v1005 fun v1011 =>
xIf v1011 (K a1 w1010) (XLd w1010 (a1000.add 2) fun v1012 =>
XLd w1010 (a1000.add 1) fun v1013 =>
Ret P n_node_Node_Own [a1, v1012, v1013] w1010 fun v1014 w1015 =>
XLd w1015.drew (a1000.add 1) fun v1016 =>
xIxS a2 (.int .i64 0) 1 fun v1017 =>
xAt v1017 fun a1018 =>
XLd w1015.drew a1018 fun v1019 =>
Ret P n_node_Node_SetKid [v1014, v1016, v1019, v1009] w1015.drew fun v1020 w1021 =>
K v1014 w1021)
theorem W_put_putter_below {a0 a1 a2 : Value} {K : Value → World → Prop} {w : World} (h : S_put_putter_below a0 a1 a2 K w) : Ret P n_put_putter_below [a0, a1, a2] w K :=
  vcF_of mixed Tryz.func104 (show S_put_putter_below a0 a1 a2 K w = vcF P Tryz.f104 [a0, a1, a2] w K from by kernel_rfl) h
/- (spunyarn/del.taker).here -/
abbrev S_del_taker_here (a0 : Value) (a1 : Value) (K : Value → World → Prop) (w0 : World) : Prop :=
XNew w0 (cellsV a0) 123 fun a1000 w1001 =>
Ret P n_node_Node_Len [a1] w1001 fun v1002 w1003 =>
xEq v1002 (.int .i64 0) fun v1004 =>
xIf v1004 (K (.pointer none) w1003) (xEq v1002 (.int .i64 1) fun v1005 =>
xIf v1005 (Ret P n_node_Node_Next [a1, (.int .i64 0)] w1003 fun v1006 w1007 =>
xTup v1006 0 fun v1008 =>
xTup v1006 1 fun v1009 =>
XLdN w1007 a1000 2 fun v1010 =>
Ret P n_del_taker_lift [v1010, a1, v1008, v1009] w1007 fun v1011 w1012 =>
K v1011 w1012) (XLd w1003 (a1000.add 1) fun v1013 =>
XLd w1003 (a1000.add 0) fun v1014 =>
Ret P n_node_Node_Own [a1, v1013, v1014] w1003 fun v1015 w1016 =>
XLd w1016 (a1000.add 0) fun v1017 =>
Ret P n_node_Node_DropVal [v1015, v1017] w1016 fun v1018 w1019 =>
K v1015 w1019))
theorem W_del_taker_here {a0 a1 : Value} {K : Value → World → Prop} {w : World} (h : S_del_taker_here a0 a1 K w) : Ret P n_del_taker_here [a0, a1] w K :=
  vcF_of mixed Tryz.func105 (show S_del_taker_here a0 a1 K w = vcF P Tryz.f105 [a0, a1] w K from by kernel_rfl) h
/- (*spunyarn/node.Node).Kid -/
abbrev S_node_Node_Kid (a0 : Value) (a1 : Value) (K : Value → World → Prop) (w0 : World) : Prop :=
xPEq P w0 a0 (.pointer none) fun v1000 =>
xIf v1000 (K (.pointer none) w0) (xAt a0 fun a1001 =>
XLd w0 (a1001.add 4) fun v1002 =>
Ret P n_kids_Kids_Get [v1002, a1] w0 fun v1003 w1004 =>
xTup v1003 0 fun v1005 =>
xTup v1003 1 fun v1006 =>
K v1005 w1004)
theorem W_node_Node_Kid {a0 a1 : Value} {K : Value → World → Prop} {w : World} (h : S_node_Node_Kid a0 a1 K w) : Ret P n_node_Node_Kid [a0, a1] w K :=
  vcF_of mixed Tryz.func106 (show S_node_Node_Kid a0 a1 K w = vcF P Tryz.f106 [a0, a1] w K from by kernel_rfl) h
/- (*spunyarn/node.Node).Own -/
abbrev S_node_Node_Own (a0 : Value) (a1 : Value) (a2 : Value) (K : Value → World → Prop) (w0 : World) : Prop :=
Ret P n_node_Node_may [a0, a2] w0 fun v1000 w1001 =>
xEq v1000 (.int .i64 0) fun v1002 =>
xIf v1002 (K a0 w1001) (Ret P n_node_Node_Copy [a0, a1, a2] w1001 fun v1003 w1004 =>
K v1003 w1004)
theorem W_node_Node_Own {a0 a1 a2 : Value} {K : Value → World → Prop} {w : World} (h : S_node_Node_Own a0 a1 a2 K w) : Ret P n_node_Node_Own [a0, a1, a2] w K :=
  vcF_of mixed Tryz.func107 (show S_node_Node_Own a0 a1 a2 K w = vcF P Tryz.f107 [a0, a1, a2] w K from by kernel_rfl) h
/- (spunyarn/del.taker).without -/
abbrev S_del_taker_without (a0 : Value) (a1 : Value) (a2 : Value) (K : Value → World → Prop) (w0 : World) : Prop :=
XNew w0 (cellsV a0) 123 fun a1000 w1001 =>
Ret P n_node_Node_Val [a1] w1001 fun v1002 w1003 =>
xTup v1002 0 fun v1004 =>
xTup v1002 1 fun v1005 =>
Ret P n_node_Node_Occupants [a1] w1003 fun v1006 w1007 =>
xGt v1006 (.int .i64 2) fun v1008 =>
xIf v1008 (XLd w1007 (a1000.add 1) fun v1009 =>
XLd w1007 (a1000.add 0) fun v1010 =>
Ret P n_node_Node_Own [a1, v1009, v1010] w1007 fun v1011 w1012 =>
XLd w1012 (a1000.add 0) fun v1013 =>
Ret P n_node_Node_DropKid [v1011, v1013, a2] w1012 fun v1014 w1015 =>
K v1011 w1015) (xIf v1005 (XLd w1007.drew (a1000.add 1) fun v1016 =>
XLd w1007.drew (a1000.add 0) fun v1017 =>
Ret P n_node_Node_Part [a1] w1007.drew fun v1018 w1019 =>
xKeep1 w1019 (.pointer (some (a1000.add 0))) v1017 ∧ (xKeep1 w1019 (.pointer (some (a1000.add 1))) v1016 ∧ (Ret P n_node_Leaf [v1016, v1017, v1018, v1004] w1019 fun v1020 w1021 =>
K v1020 w1021))) (Ret P n_node_Node_Next [a1, (.int .i64 0)] w1007 fun v1022 w1023 =>
xTup v1022 0 fun v1024 =>
xTup v1022 1 fun v1025 =>
/- 0 c 1 kid -/ XJ (fun J1026 =>
xEq v1024 a2 fun v1030 =>
xIf v1030 (xConv .i64 a2 fun v1031 =>
xAdd v1031 (.int .i64 1) fun v1032 =>
Ret P n_node_Node_Next [a1, v1032] w1023 fun v1033 w1034 =>
xTup v1033 0 fun v1035 =>
xTup v1033 1 fun v1036 =>
J1026 [v1035, v1036] w1034) (J1026 [v1024, v1025] w1023)) fun vs1027 g1028 w1029 =>
XLdN w1029 a1000 2 fun v1037 =>
Ret P n_del_taker_lift [v1037, a1, (vs1027.getD 0 undef), (vs1027.getD 1 undef)] w1029 fun v1038 w1039 =>
K v1038 w1039))
theorem W_del_taker_without {a0 a1 a2 : Value} {K : Value → World → Prop} {w : World} (h : S_del_taker_without a0 a1 a2 K w) : Ret P n_del_taker_without [a0, a1, a2] w K :=
  vcF_of mixed Tryz.func108 (show S_del_taker_without a0 a1 a2 K w = vcF P Tryz.f108 [a0, a1, a2] w K from by kernel_rfl) h
/- spunyarn/keys.Same -/
abbrev S_keys_Same (a0 : Value) (a1 : Value) (K : Value → World → Prop) (w0 : World) : Prop :=
Ret P n_bytes_Equal [a0, a1] w0 fun v1000 w1001 =>
K v1000 w1001
theorem W_keys_Same {a0 a1 : Value} {K : Value → World → Prop} {w : World} (h : S_keys_Same a0 a1 K w) : Ret P n_keys_Same [a0, a1] w K :=
  vcF_of mixed Tryz.func109 (show S_keys_Same a0 a1 K w = vcF P Tryz.f109 [a0, a1] w K from by kernel_rfl) h
/- (*spunyarn/kids.Kids[*spunyarn/node.Node]).Next -/
abbrev S_kids_Kids_Next (a0 : Value) (a1 : Value) (K : Value → World → Prop) (w0 : World) : Prop :=
Ret P n_kids_Kids_ok [a0] w0 fun v1000 w1001 =>
xNot v1000 fun v1002 =>
xIf v1002 (K (.tuple #[(.int .u8 0), (.pointer none), (.bool false)]) w1001) (xAt a0 fun a1003 =>
XLd w1001 (a1003.add 0) fun v1004 =>
xPNe P w1001 v1004 (.pointer none) fun v1005 =>
xIf v1005 (xAt a0 fun a1006 =>
XLd w1001 (a1006.add 0) fun v1007 =>
Ret P n_small_Row_Next [v1007, a1] w1001 fun v1008 w1009 =>
xTup v1008 0 fun v1010 =>
xTup v1008 1 fun v1011 =>
xTup v1008 2 fun v1012 =>
K (.tuple #[v1010, v1011, v1012]) w1009) (xAt a0 fun a1013 =>
XLd w1001 (a1013.add 1) fun v1014 =>
Ret P n_wide_Board_Next [v1014, a1] w1001 fun v1015 w1016 =>
xTup v1015 0 fun v1017 =>
xTup v1015 1 fun v1018 =>
xTup v1015 2 fun v1019 =>
K (.tuple #[v1017, v1018, v1019]) w1016))
theorem W_kids_Kids_Next {a0 a1 : Value} {K : Value → World → Prop} {w : World} (h : S_kids_Kids_Next a0 a1 K w) : Ret P n_kids_Kids_Next [a0, a1] w K :=
  vcF_of mixed Tryz.func110 (show S_kids_Kids_Next a0 a1 K w = vcF P Tryz.f110 [a0, a1] w K from by kernel_rfl) h
/- (*strings.Builder).copyCheck -/
abbrev S_strings_Builder_copyCheck (a0 : Value) (K : Value → World → Prop) (w0 : World) : Prop :=
xAt a0 fun a1000 =>
XLd w0 (a1000.add 0) fun v1001 =>
xPEq P w0 v1001 (.pointer none) fun v1002 =>
xIf v1002 (XRun P (convert 79 192 a0) w0 fun v1003 w1004 =>
xCall P 147 [v1003] w1004 fun v1005 w1006 =>
XRun P (convert 192 79 v1005) w1006 fun v1007 w1008 =>
xAt a0 fun a1009 =>
XSt w1008 (a1009.add 0) v1007 fun w1010 =>
K (.tuple #[]) w1010) (xAt a0 fun a1011 =>
XLd w0 (a1011.add 0) fun v1012 =>
xPNe P w0 v1012 a0 fun v1013 =>
xIf v1013 (False) (K (.tuple #[]) w0))
theorem W_strings_Builder_copyCheck {a0 : Value} {K : Value → World → Prop} {w : World} (h : S_strings_Builder_copyCheck a0 K w) : Ret P n_strings_Builder_copyCheck [a0] w K :=
  vcF_of mixed Tryz.func111 (show S_strings_Builder_copyCheck a0 K w = vcF P Tryz.f111 [a0] w K from by kernel_rfl) h
/- internal/strconv.Itoa -/
abbrev S_istrconv_Itoa (a0 : Value) (K : Value → World → Prop) (w0 : World) : Prop :=
Ret P n_istrconv_FormatInt [a0, (.int .i64 10)] w0 fun v1000 w1001 =>
K v1000 w1001
theorem W_istrconv_Itoa {a0 : Value} {K : Value → World → Prop} {w : World} (h : S_istrconv_Itoa a0 K w) : Ret P n_istrconv_Itoa [a0] w K :=
  vcF_of mixed Tryz.func112 (show S_istrconv_Itoa a0 K w = vcF P Tryz.f112 [a0] w K from by kernel_rfl) h
/- internal/strconv.FormatUint -/
abbrev S_istrconv_FormatUint (a0 : Value) (a1 : Value) (K : Value → World → Prop) (w0 : World) : Prop :=
xEq a1 (.int .i64 10) fun v1000 =>
xIf v1000 (xLt a0 (.int .u64 100) fun v1001 =>
xIf v1001 (xConv .i64 a0 fun v1002 =>
Ret P n_istrconv_small [v1002] w0 fun v1003 w1004 =>
K v1003 w1004) (XNew w0 [(.int .u8 0), (.int .u8 0), (.int .u8 0), (.int .u8 0), (.int .u8 0), (.int .u8 0), (.int .u8 0), (.int .u8 0), (.int .u8 0), (.int .u8 0), (.int .u8 0), (.int .u8 0), (.int .u8 0), (.int .u8 0), (.int .u8 0), (.int .u8 0), (.int .u8 0), (.int .u8 0), (.int .u8 0), (.int .u8 0), (.int .u8 0), (.int .u8 0), (.int .u8 0), (.int .u8 0)] 195 fun a1005 w1006 =>
Ret P n_istrconv_numDigits [a0] w1006 fun v1007 w1008 =>
xCutA 24 1 (.pointer (some a1005)) none (some v1007) none fun v1009 =>
Ret P n_istrconv_formatBase10 [v1009, a0] w1008 fun v1010 w1011 =>
xCutA 24 1 (.pointer (some a1005)) none (some v1007) none fun v1012 =>
XRun P (convert 61 9 v1012) w1011 fun v1013 w1014 =>
K v1013 w1014)) (Ret P n_istrconv_formatBits [(.slice none 0 0), a0, a1, (.bool false), (.bool false)] w0 fun v1015 w1016 =>
xTup v1015 0 fun v1017 =>
xTup v1015 1 fun v1018 =>
K v1018 w1016)
theorem W_istrconv_FormatUint {a0 a1 : Value} {K : Value → World → Prop} {w : World} (h : S_istrconv_FormatUint a0 a1 K w) : Ret P n_istrconv_FormatUint [a0, a1] w K :=
  vcF_of mixed Tryz.func113 (show S_istrconv_FormatUint a0 a1 K w = vcF P Tryz.f113 [a0, a1] w K from by kernel_rfl) h
/- spunyarn/spunyarnref01.digits -/
abbrev S_ref01_digits (a0 : Value) (K : Value → World → Prop) (w0 : World) : Prop :=
xConv .i64 a0 fun v1000 =>
xQuo v1000 (.int .i64 16) fun v1001 =>
xConv .i64 a0 fun v1002 =>
xRem v1002 (.int .i64 16) fun v1003 =>
xAdd v1001 (.int .i64 1) fun v1004 =>
xCutStr (.string ⟨#[48, 49, 50, 51, 52, 53, 54, 55, 56, 57, 97, 98, 99, 100, 101, 102]⟩) (some v1001) (some v1004) fun v1005 =>
xAdd v1003 (.int .i64 1) fun v1006 =>
xCutStr (.string ⟨#[48, 49, 50, 51, 52, 53, 54, 55, 56, 57, 97, 98, 99, 100, 101, 102]⟩) (some v1003) (some v1006) fun v1007 =>
xSCat v1005 v1007 fun v1008 =>
K v1008 (w0.drew)
theorem W_ref01_digits {a0 : Value} {K : Value → World → Prop} {w : World} (h : S_ref01_digits a0 K w) : Ret P n_ref01_digits [a0] w K :=
  vcF_of mixed Tryz.func116 (show S_ref01_digits a0 K w = vcF P Tryz.f116 [a0] w K from by kernel_rfl) h
/- spunyarn/spunyarnref13.shared -/
/- S_ref13_shared_l1: 0=slot 4 i 1=slot 3 n -/
def S_ref13_shared_l1 (K : Value → World → Prop) (a0 : Value) (I1005 : Nat → List Value → World → Prop) (n1006 : Nat) (vs1007 : List Value) (g1008 : Nat → Value) (w1009 : World) : Prop :=
xLen a0 fun v1010 =>
xLt (vs1007.getD 0 undef) v1010 fun v1011 =>
xIf v1011 (xIxS a0 (.int .i64 0) 2 fun v1012 =>
xFld v1012 0 fun v1013 =>
xAt v1013 fun a1014 =>
XLd w1009.drew a1014 fun v1015 =>
xIxS a0 (vs1007.getD 0 undef) 2 fun v1016 =>
xFld v1016 0 fun v1017 =>
xAt v1017 fun a1018 =>
XLd w1009.drew a1018 fun v1019 =>
Ret P n_ref01_Common [v1015, v1019] w1009.drew fun v1020 w1021 =>
xMin (vs1007.getD 1 undef) v1020 fun v1022 =>
xAdd (vs1007.getD 0 undef) (.int .i64 1) fun v1023 =>
XNext I1005 n1006 [v1023, v1022] w1021) (K (vs1007.getD 1 undef) w1009)
abbrev S_ref13_shared (a0 : Value) (K : Value → World → Prop) (w0 : World) : Prop :=
xIxS a0 (.int .i64 0) 2 fun v1000 =>
xFld v1000 0 fun v1001 =>
xAt v1001 fun a1002 =>
XLd w0 a1002 fun v1003 =>
xLen v1003 fun v1004 =>
XLoop [(.int .i64 1), v1004] w0 (S_ref13_shared_l1 K a0)
theorem W_ref13_shared {a0 : Value} {K : Value → World → Prop} {w : World} (h : S_ref13_shared a0 K w) : Ret P n_ref13_shared [a0] w K :=
  vcF_of mixed Tryz.func117 (show S_ref13_shared a0 K w = vcF P Tryz.f117 [a0] w K from by kernel_rfl) h
/- spunyarn/spunyarnref11.KindOf -/
abbrev S_ref11_KindOf (a0 : Value) (K : Value → World → Prop) (w0 : World) : Prop :=
/- 0 -/ XJ (fun J1000 =>
xLt a0 (.int .i64 0) fun v1004 =>
xIf v1004 (J1000 [(.bool true)] w0) (xGt a0 (.int .i64 256) fun v1005 =>
J1000 [v1005] w0)) fun vs1001 g1002 w1003 =>
xIf (vs1001.getD 0 undef) (K (.int .i64 0) w1003) (xLe a0 (.int .i64 4) fun v1006 =>
xIf v1006 (K (.int .i64 4) w1003) (xLe a0 (.int .i64 16) fun v1007 =>
xIf v1007 (K (.int .i64 16) w1003) (xLe a0 (.int .i64 48) fun v1008 =>
xIf v1008 (K (.int .i64 48) w1003) (K (.int .i64 256) w1003))))
theorem W_ref11_KindOf {a0 : Value} {K : Value → World → Prop} {w : World} (h : S_ref11_KindOf a0 K w) : Ret P n_ref11_KindOf [a0] w K :=
  vcF_of mixed Tryz.func118 (show S_ref11_KindOf a0 K w = vcF P Tryz.f118 [a0] w K from by kernel_rfl) h
/- (*spunyarn/kids.Kids[*spunyarn/node.Node]).ok -/
abbrev S_kids_Kids_ok (a0 : Value) (K : Value → World → Prop) (w0 : World) : Prop :=
/- 0 -/ XJ (fun J1000 =>
xPNe P w0 a0 (.pointer none) fun v1004 =>
xIf v1004 (xAt a0 fun a1005 =>
XLd w0 (a1005.add 0) fun v1006 =>
xPNe P w0 v1006 (.pointer none) fun v1007 =>
xIf v1007 (J1000 [(.bool true)] w0) (xAt a0 fun a1008 =>
XLd w0 (a1008.add 1) fun v1009 =>
xPNe P w0 v1009 (.pointer none) fun v1010 =>
J1000 [v1010] w0)) (J1000 [(.bool false)] w0)) fun vs1001 g1002 w1003 =>
K (vs1001.getD 0 undef) w1003
theorem W_kids_Kids_ok {a0 : Value} {K : Value → World → Prop} {w : World} (h : S_kids_Kids_ok a0 K w) : Ret P n_kids_Kids_ok [a0] w K :=
  vcF_of mixed Tryz.func125 (show S_kids_Kids_ok a0 K w = vcF P Tryz.f125 [a0] w K from by kernel_rfl) h
/- (*spunyarn/small.Row[*spunyarn/node.Node]).Room -/
abbrev S_small_Row_Room (a0 : Value) (K : Value → World → Prop) (w0 : World) : Prop :=
Ret P n_small_Row_ok [a0] w0 fun v1000 w1001 =>
xNot v1000 fun v1002 =>
xIf v1002 (K (.int .i64 0) w1001) (xAt a0 fun a1003 =>
XLd w1001 (a1003.add 0) fun v1004 =>
K v1004 w1001)
theorem W_small_Row_Room {a0 : Value} {K : Value → World → Prop} {w : World} (h : S_small_Row_Room a0 K w) : Ret P n_small_Row_Room [a0] w K :=
  vcF_of mixed Tryz.func126 (show S_small_Row_Room a0 K w = vcF P Tryz.f126 [a0] w K from by kernel_rfl) h
/- (*spunyarn/wide.Board[*spunyarn/node.Node]).Room -/
abbrev S_wide_Board_Room (a0 : Value) (K : Value → World → Prop) (w0 : World) : Prop :=
Ret P n_wide_Board_ok [a0] w0 fun v1000 w1001 =>
xNot v1000 fun v1002 =>
xIf v1002 (K (.int .i64 0) w1001) (xAt a0 fun a1003 =>
XLd w1001 (a1003.add 0) fun v1004 =>
K v1004 w1001)
theorem W_wide_Board_Room {a0 : Value} {K : Value → World → Prop} {w : World} (h : S_wide_Board_Room a0 K w) : Ret P n_wide_Board_Room [a0] w K :=
  vcF_of mixed Tryz.func127 (show S_wide_Board_Room a0 K w = vcF P Tryz.f127 [a0] w K from by kernel_rfl) h
/- (*spunyarn/small.Row[*spunyarn/node.Node]).Len -/
abbrev S_small_Row_Len (a0 : Value) (K : Value → World → Prop) (w0 : World) : Prop :=
Ret P n_small_Row_ok [a0] w0 fun v1000 w1001 =>
xNot v1000 fun v1002 =>
xIf v1002 (K (.int .i64 0) w1001) (xAt a0 fun a1003 =>
XLd w1001 (a1003.add 1) fun v1004 =>
K v1004 w1001)
theorem W_small_Row_Len {a0 : Value} {K : Value → World → Prop} {w : World} (h : S_small_Row_Len a0 K w) : Ret P n_small_Row_Len [a0] w K :=
  vcF_of mixed Tryz.func128 (show S_small_Row_Len a0 K w = vcF P Tryz.f128 [a0] w K from by kernel_rfl) h
/- (*spunyarn/wide.Board[*spunyarn/node.Node]).Len -/
abbrev S_wide_Board_Len (a0 : Value) (K : Value → World → Prop) (w0 : World) : Prop :=
Ret P n_wide_Board_ok [a0] w0 fun v1000 w1001 =>
xNot v1000 fun v1002 =>
xIf v1002 (K (.int .i64 0) w1001) (xAt a0 fun a1003 =>
XLd w1001 (a1003.add 1) fun v1004 =>
K v1004 w1001)
theorem W_wide_Board_Len {a0 : Value} {K : Value → World → Prop} {w : World} (h : S_wide_Board_Len a0 K w) : Ret P n_wide_Board_Len [a0] w K :=
  vcF_of mixed Tryz.func129 (show S_wide_Board_Len a0 K w = vcF P Tryz.f129 [a0] w K from by kernel_rfl) h
/- spunyarn/keys.Cmp -/
abbrev S_keys_Cmp (a0 : Value) (a1 : Value) (K : Value → World → Prop) (w0 : World) : Prop :=
Ret P n_bytes_Compare [a0, a1] w0 fun v1000 w1001 =>
K v1000 w1001
theorem W_keys_Cmp {a0 a1 : Value} {K : Value → World → Prop} {w : World} (h : S_keys_Cmp a0 a1 K w) : Ret P n_keys_Cmp [a0, a1] w K :=
  vcF_of mixed Tryz.func130 (show S_keys_Cmp a0 a1 K w = vcF P Tryz.f130 [a0, a1] w K from by kernel_rfl) h
/- (*spunyarn/meter.Meter).Made -/
abbrev S_meter_Meter_Made (a0 : Value) (a1 : Value) (K : Value → World → Prop) (w0 : World) : Prop :=
/- 0 -/ XJ (fun J1000 =>
xPNe P w0 a0 (.pointer none) fun v1004 =>
xIf v1004 (xGt a1 (.int .i64 0) fun v1005 =>
J1000 [v1005] w0) (J1000 [(.bool false)] w0)) fun vs1001 g1002 w1003 =>
xIf (vs1001.getD 0 undef) (xAt a0 fun a1006 =>
Ret P n_atomic_Int64_Add [(.pointer (some (a1006.add 0))), a1] w1003 fun v1007 w1008 =>
K (.tuple #[]) w1008) (K (.tuple #[]) w1003)
theorem W_meter_Meter_Made {a0 a1 : Value} {K : Value → World → Prop} {w : World} (h : S_meter_Meter_Made a0 a1 K w) : Ret P n_meter_Meter_Made [a0, a1] w K :=
  vcF_of mixed Tryz.func131 (show S_meter_Meter_Made a0 a1 K w = vcF P Tryz.f131 [a0, a1] w K from by kernel_rfl) h
/- bytes.Clone -/
abbrev S_bytes_Clone (a0 : Value) (K : Value → World → Prop) (w0 : World) : Prop :=
xLEq a0 (.slice none 0 0) fun v1000 =>
xIf v1000 (K (.slice none 0 0) w0) (xFill (repL [(.int .u8 0)] 0) [] fun c1001 =>
XNew w0 c1001 5 fun a1002 w1003 =>
XRun P (Builtin.append_ #[61, 61] 61 #[(.slice (some a1002) 0 0), a0]) w1003 fun v1004 w1005 =>
K v1004 w1005)
theorem W_bytes_Clone {a0 : Value} {K : Value → World → Prop} {w : World} (h : S_bytes_Clone a0 K w) : Ret P n_bytes_Clone [a0] w K :=
  vcF_of mixed Tryz.func132 (show S_bytes_Clone a0 K w = vcF P Tryz.f132 [a0] w K from by kernel_rfl) h
/- spunyarn/kids.New[*spunyarn/node.Node] -/
abbrev S_kids_New_Node  (K : Value → World → Prop) (w0 : World) : Prop :=
Ret P n_kids_room_Node [(.int .i64 4)] w0 fun v1000 w1001 =>
K v1000 w1001
theorem W_kids_New_Node {K : Value → World → Prop} {w : World} (h : S_kids_New_Node  K w) : Ret P n_kids_New_Node [] w K :=
  vcF_of mixed Tryz.func133 (show S_kids_New_Node  K w = vcF P Tryz.f133 [] w K from by kernel_rfl) h
/- (*spunyarn/node.Node).may -/
abbrev S_node_Node_may (a0 : Value) (a1 : Value) (K : Value → World → Prop) (w0 : World) : Prop :=
xPEq P w0 a0 (.pointer none) fun v1000 =>
xIf v1000 (K (.int .i64 2) w0) (/- 0 -/ XJ (fun J1001 =>
xEq a1 (.int .u64 0) fun v1005 =>
xIf v1005 (J1001 [(.bool true)] w0) (xAt a0 fun a1006 =>
XLd w0 (a1006.add 0) fun v1007 =>
xNe a1 v1007 fun v1008 =>
J1001 [v1008] w0)) fun vs1002 g1003 w1004 =>
xIf (vs1002.getD 0 undef) (K (.int .i64 11) w1004) (K (.int .i64 0) w1004))
theorem W_node_Node_may {a0 a1 : Value} {K : Value → World → Prop} {w : World} (h : S_node_Node_may a0 a1 K w) : Ret P n_node_Node_may [a0, a1] w K :=
  vcF_of mixed Tryz.func134 (show S_node_Node_may a0 a1 K w = vcF P Tryz.f134 [a0, a1] w K from by kernel_rfl) h
/- (*spunyarn/node.Node).inner -/
abbrev S_node_Node_inner (a0 : Value) (a1 : Value) (K : Value → World → Prop) (w0 : World) : Prop :=
Ret P n_node_Node_may [a0, a1] w0 fun v1000 w1001 =>
/- 0 -/ XJ (fun J1002 =>
xEq v1000 (.int .i64 0) fun v1006 =>
xIf v1006 (Ret P n_node_Node_isLeaf [a0] w1001 fun v1007 w1008 =>
J1002 [v1007] w1008) (J1002 [(.bool false)] w1001)) fun vs1003 g1004 w1005 =>
xIf (vs1003.getD 0 undef) (K (.int .i64 9) w1005) (K v1000 w1005)
theorem W_node_Node_inner {a0 a1 : Value} {K : Value → World → Prop} {w : World} (h : S_node_Node_inner a0 a1 K w) : Ret P n_node_Node_inner [a0, a1] w K :=
  vcF_of mixed Tryz.func135 (show S_node_Node_inner a0 a1 K w = vcF P Tryz.f135 [a0, a1] w K from by kernel_rfl) h
/- (*spunyarn/kids.Kids[*spunyarn/node.Node]).Set -/
abbrev S_kids_Kids_Set (a0 : Value) (a1 : Value) (a2 : Value) (K : Value → World → Prop) (w0 : World) : Prop :=
Ret P n_kids_Kids_ok [a0] w0 fun v1000 w1001 =>
xNot v1000 fun v1002 =>
xIf v1002 (K (.int .i64 2) w1001) (/- 0 _ 1 is -/ XJ (fun J1003 =>
Ret P n_kids_Kids_Get [a0, a1] w1001 fun v1007 w1008 =>
xTup v1007 0 fun v1009 =>
xTup v1007 1 fun v1010 =>
/- 0 -/ XJ (fun J1011 =>
xNot v1010 fun v1015 =>
xIf v1015 (Ret P n_kids_Kids_Len [a0] w1008 fun v1016 w1017 =>
Ret P n_kids_Kids_Kind [a0] w1017 fun v1018 w1019 =>
xEq v1016 v1018 fun v1020 =>
J1011 [v1020] w1019) (J1011 [(.bool false)] w1008)) fun vs1012 g1013 w1014 =>
xIf (vs1012.getD 0 undef) (Ret P n_kids_Kids_Len [a0] w1014 fun v1021 w1022 =>
xAdd v1021 (.int .i64 1) fun v1023 =>
Ret P n_kids_KindOf [v1023] w1022 fun v1024 w1025 =>
Ret P n_kids_move_Node [a0, v1024] w1025 fun v1026 w1027 =>
J1003 [v1009, v1010] w1027) (J1003 [v1009, v1010] w1014)) fun vs1004 g1005 w1006 =>
Ret P n_kids_Kids_put [a0, a1, a2] w1006 fun v1028 w1029 =>
K (.int .i64 0) w1029)
theorem W_kids_Kids_Set {a0 a1 a2 : Value} {K : Value → World → Prop} {w : World} (h : S_kids_Kids_Set a0 a1 a2 K w) : Ret P n_kids_Kids_Set [a0, a1, a2] w K :=
  vcF_of mixed Tryz.func136 (show S_kids_Kids_Set a0 a1 a2 K w = vcF P Tryz.f136 [a0, a1, a2] w K from by kernel_rfl) h
/- bytes.HasPrefix -/
abbrev S_bytes_HasPrefix (a0 : Value) (a1 : Value) (K : Value → World → Prop) (w0 : World) : Prop :=
/- 0 -/ XJ (fun J1000 =>
xLen a0 fun v1004 =>
xLen a1 fun v1005 =>
xGe v1004 v1005 fun v1006 =>
xIf v1006 (xLen a1 fun v1007 =>
xCutS 1 a0 none (some v1007) none fun v1008 =>
Ret P n_bytes_Equal [v1008, a1] w0 fun v1009 w1010 =>
J1000 [v1009] w1010) (J1000 [(.bool false)] w0)) fun vs1001 g1002 w1003 =>
K (vs1001.getD 0 undef) w1003
theorem W_bytes_HasPrefix {a0 a1 : Value} {K : Value → World → Prop} {w : World} (h : S_bytes_HasPrefix a0 a1 K w) : Ret P n_bytes_HasPrefix [a0, a1] w K :=
  vcF_of mixed Tryz.func137 (show S_bytes_HasPrefix a0 a1 K w = vcF P Tryz.f137 [a0, a1] w K from by kernel_rfl) h
/- (*spunyarn/node.Node).SetPart -/
abbrev S_node_Node_SetPart (a0 : Value) (a1 : Value) (a2 : Value) (K : Value → World → Prop) (w0 : World) : Prop :=
Ret P n_node_Node_may [a0, a1] w0 fun v1000 w1001 =>
/-  -/ XJ (fun J1002 =>
xEq v1000 (.int .i64 0) fun v1006 =>
xIf v1006 (Ret P n_bytes_Clone [a2] w1001 fun v1007 w1008 =>
xAt a0 fun a1009 =>
XSt w1008 (a1009.add 1) v1007 fun w1010 =>
J1002 [] w1010) (J1002 [] w1001)) fun vs1003 g1004 w1005 =>
K v1000 w1005
theorem W_node_Node_SetPart {a0 a1 a2 : Value} {K : Value → World → Prop} {w : World} (h : S_node_Node_SetPart a0 a1 a2 K w) : Ret P n_node_Node_SetPart [a0, a1, a2] w K :=
  vcF_of mixed Tryz.func138 (show S_node_Node_SetPart a0 a1 a2 K w = vcF P Tryz.f138 [a0, a1, a2] w K from by kernel_rfl) h
/- (spunyarn/del.taker).lift -/
abbrev S_del_taker_lift (a0 : Value) (a1 : Value) (a2 : Value) (a3 : Value) (K : Value → World → Prop) (w0 : World) : Prop :=
XNew w0 (cellsV a0) 123 fun a1000 w1001 =>
XLd w1001 (a1000.add 1) fun v1002 =>
XLd w1001 (a1000.add 0) fun v1003 =>
Ret P n_node_Node_Own [a3, v1002, v1003] w1001 fun v1004 w1005 =>
XLd w1005.drew (a1000.add 0) fun v1006 =>
(Ret P n_node_Node_Part [a1] w1005.drew fun v1007 w1008 =>
xKeep1 w1008 (.pointer (some (a1000.add 0))) v1006 ∧ ((xFill (repL [(.int .u8 0)] 1) [(0, 1, a2)] fun c1009 =>
XNew w1008 c1009 5 fun a1010 w1011 =>
xKeep1 w1011 (.pointer (some (a1000.add 0))) v1006 ∧ (Ret P n_node_Node_Part [a3] w1011 fun v1012 w1013 =>
xKeep1 w1013 (.pointer (some (a1000.add 0))) v1006 ∧ (xFill (repL [(.slice none 0 0)] 3) [(0, 1, v1007), (1, 1, (.slice (some a1010) 1 1)), (2, 1, v1012)] fun c1014 =>
XNew w1013 c1014 61 fun a1015 w1016 =>
xKeep1 w1016 (.pointer (some (a1000.add 0))) v1006 ∧ (Ret P n_del_join [(.slice (some a1015) 3 3)] w1016 fun v1017 w1018 =>
xKeep1 w1018 (.pointer (some (a1000.add 0))) v1006 ∧ (Ret P n_node_Node_SetPart [v1004, v1006, v1017] w1018 fun v1019 w1020 =>
K v1004 w1020))))) ∧ (Ret P n_node_Node_Part [a3] w1008 fun v1021 w1022 =>
xKeep1 w1022 (.pointer (some (a1000.add 0))) v1006 ∧ (xFill (repL [(.int .u8 0)] 1) [(0, 1, a2)] fun c1023 =>
XNew w1022 c1023 5 fun a1024 w1025 =>
xKeep1 w1025 (.pointer (some (a1000.add 0))) v1006 ∧ (xFill (repL [(.slice none 0 0)] 3) [(0, 1, v1007), (1, 1, (.slice (some a1024) 1 1)), (2, 1, v1021)] fun c1026 =>
XNew w1025 c1026 61 fun a1027 w1028 =>
xKeep1 w1028 (.pointer (some (a1000.add 0))) v1006 ∧ (Ret P n_del_join [(.slice (some a1027) 3 3)] w1028 fun v1029 w1030 =>
xKeep1 w1030 (.pointer (some (a1000.add 0))) v1006 ∧ (Ret P n_node_Node_SetPart [v1004, v1006, v1029] w1030 fun v1031 w1032 =>
K v1004 w1032))))))) ∧ (xFill (repL [(.int .u8 0)] 1) [(0, 1, a2)] fun c1033 =>
XNew w1005.drew c1033 5 fun a1034 w1035 =>
xKeep1 w1035 (.pointer (some (a1000.add 0))) v1006 ∧ (Ret P n_node_Node_Part [a1] w1035 fun v1036 w1037 =>
xKeep1 w1037 (.pointer (some (a1000.add 0))) v1006 ∧ (Ret P n_node_Node_Part [a3] w1037 fun v1038 w1039 =>
xKeep1 w1039 (.pointer (some (a1000.add 0))) v1006 ∧ (xFill (repL [(.slice none 0 0)] 3) [(0, 1, v1036), (1, 1, (.slice (some a1034) 1 1)), (2, 1, v1038)] fun c1040 =>
XNew w1039 c1040 61 fun a1041 w1042 =>
xKeep1 w1042 (.pointer (some (a1000.add 0))) v1006 ∧ (Ret P n_del_join [(.slice (some a1041) 3 3)] w1042 fun v1043 w1044 =>
xKeep1 w1044 (.pointer (some (a1000.add 0))) v1006 ∧ (Ret P n_node_Node_SetPart [v1004, v1006, v1043] w1044 fun v1045 w1046 =>
K v1004 w1046))))))
theorem W_del_taker_lift {a0 a1 a2 a3 : Value} {K : Value → World → Prop} {w : World} (h : S_del_taker_lift a0 a1 a2 a3 K w) : Ret P n_del_taker_lift [a0, a1, a2, a3] w K :=
  vcF_of mixed Tryz.func139 (show S_del_taker_lift a0 a1 a2 a3 K w = vcF P Tryz.f139 [a0, a1, a2, a3] w K from by kernel_rfl) h
/- (*spunyarn/node.Node).DropVal -/
abbrev S_node_Node_DropVal (a0 : Value) (a1 : Value) (K : Value → World → Prop) (w0 : World) : Prop :=
Ret P n_node_Node_inner [a0, a1] w0 fun v1000 w1001 =>
xNe v1000 (.int .i64 0) fun v1002 =>
xIf v1002 (K v1000 w1001) (xAt a0 fun a1003 =>
XLd w1001 (a1003.add 3) fun v1004 =>
xNot v1004 fun v1005 =>
xIf v1005 (K (.int .i64 6) w1001) (xAt a0 fun a1006 =>
XSt w1001 (a1006.add 2) (.int .u64 0) fun w1007 =>
xAt a0 fun a1008 =>
XSt w1007 (a1008.add 3) (.bool false) fun w1009 =>
K (.int .i64 0) w1009))
theorem W_node_Node_DropVal {a0 a1 : Value} {K : Value → World → Prop} {w : World} (h : S_node_Node_DropVal a0 a1 K w) : Ret P n_node_Node_DropVal [a0, a1] w K :=
  vcF_of mixed Tryz.func140 (show S_node_Node_DropVal a0 a1 K w = vcF P Tryz.f140 [a0, a1] w K from by kernel_rfl) h
/- (*spunyarn/kids.Kids[*spunyarn/node.Node]).Get -/
abbrev S_kids_Kids_Get (a0 : Value) (a1 : Value) (K : Value → World → Prop) (w0 : World) : Prop :=
Ret P n_kids_Kids_ok [a0] w0 fun v1000 w1001 =>
xNot v1000 fun v1002 =>
xIf v1002 (K (.tuple #[(.pointer none), (.bool false)]) w1001) (xAt a0 fun a1003 =>
XLd w1001 (a1003.add 0) fun v1004 =>
xPNe P w1001 v1004 (.pointer none) fun v1005 =>
xIf v1005 (xAt a0 fun a1006 =>
XLd w1001 (a1006.add 0) fun v1007 =>
Ret P n_small_Row_Get [v1007, a1] w1001 fun v1008 w1009 =>
xTup v1008 0 fun v1010 =>
xTup v1008 1 fun v1011 =>
K (.tuple #[v1010, v1011]) w1009) (xAt a0 fun a1012 =>
XLd w1001 (a1012.add 1) fun v1013 =>
Ret P n_wide_Board_Get [v1013, a1] w1001 fun v1014 w1015 =>
xTup v1014 0 fun v1016 =>
xTup v1014 1 fun v1017 =>
K (.tuple #[v1016, v1017]) w1015))
theorem W_kids_Kids_Get {a0 a1 : Value} {K : Value → World → Prop} {w : World} (h : S_kids_Kids_Get a0 a1 K w) : Ret P n_kids_Kids_Get [a0, a1] w K :=
  vcF_of mixed Tryz.func141 (show S_kids_Kids_Get a0 a1 K w = vcF P Tryz.f141 [a0, a1] w K from by kernel_rfl) h
/- (*spunyarn/node.Node).Copy -/
abbrev S_node_Node_Copy (a0 : Value) (a1 : Value) (a2 : Value) (K : Value → World → Prop) (w0 : World) : Prop :=
xPEq P w0 a0 (.pointer none) fun v1000 =>
xIf v1000 (K (.pointer none) w0) (Ret P n_meter_Meter_Made [a1, (.int .i64 1)] w0 fun v1001 w1002 =>
xAt a0 fun a1003 =>
XLdN w1002 a1003 5 fun v1004 =>
XNew w1002 [(.int .u64 0), (.slice none 0 0), (.int .u64 0), (.bool false), (.pointer none)] 150 fun a1005 w1006 =>
XDo P (storeVar 150 a1005 v1004) w1006 fun w1007 =>
XSt w1007 (a1005.add 0) a2 fun w1008 =>
xAt a0 fun a1009 =>
XLd w1008 (a1009.add 4) fun v1010 =>
Ret P n_kids_Kids_Copy [v1010] w1008 fun v1011 w1012 =>
XSt w1012 (a1005.add 4) v1011 fun w1013 =>
K (.pointer (some a1005)) w1013)
theorem W_node_Node_Copy {a0 a1 a2 : Value} {K : Value → World → Prop} {w : World} (h : S_node_Node_Copy a0 a1 a2 K w) : Ret P n_node_Node_Copy [a0, a1, a2] w K :=
  vcF_of mixed Tryz.func142 (show S_node_Node_Copy a0 a1 a2 K w = vcF P Tryz.f142 [a0, a1, a2] w K from by kernel_rfl) h
/- (*spunyarn/node.Node).DropKid -/
abbrev S_node_Node_DropKid (a0 : Value) (a1 : Value) (a2 : Value) (K : Value → World → Prop) (w0 : World) : Prop :=
Ret P n_node_Node_inner [a0, a1] w0 fun v1000 w1001 =>
xNe v1000 (.int .i64 0) fun v1002 =>
xIf v1002 (K v1000 w1001) (xAt a0 fun a1003 =>
XLd w1001 (a1003.add 4) fun v1004 =>
Ret P n_kids_Kids_Drop [v1004, a2] w1001 fun v1005 w1006 =>
K v1005 w1006)
theorem W_node_Node_DropKid {a0 a1 a2 : Value} {K : Value → World → Prop} {w : World} (h : S_node_Node_DropKid a0 a1 a2 K w) : Ret P n_node_Node_DropKid [a0, a1, a2] w K :=
  vcF_of mixed Tryz.func143 (show S_node_Node_DropKid a0 a1 a2 K w = vcF P Tryz.f143 [a0, a1, a2] w K from by kernel_rfl) h
/- bytes.Equal -/
abbrev S_bytes_Equal (a0 : Value) (a1 : Value) (K : Value → World → Prop) (w0 : World) : Prop :=
XRun P (convert 61 9 a0) w0 fun v1000 w1001 =>
XRun P (convert 61 9 a1) w1001 fun v1002 w1003 =>
xSEq v1000 v1002 fun v1004 =>
K v1004 w1003
theorem W_bytes_Equal {a0 a1 : Value} {K : Value → World → Prop} {w : World} (h : S_bytes_Equal a0 a1 K w) : Ret P n_bytes_Equal [a0, a1] w K :=
  vcF_of mixed Tryz.func144 (show S_bytes_Equal a0 a1 K w = vcF P Tryz.f144 [a0, a1] w K from by kernel_rfl) h
/- (*spunyarn/small.Row[*spunyarn/node.Node]).Next -/
abbrev S_small_Row_Next (a0 : Value) (a1 : Value) (K : Value → World → Prop) (w0 : World) : Prop :=
/- 0 -/ XJ (fun J1000 =>
Ret P n_small_Row_ok [a0] w0 fun v1004 w1005 =>
xNot v1004 fun v1006 =>
xIf v1006 (J1000 [(.bool true)] w1005) (xGt a1 (.int .i64 255) fun v1007 =>
J1000 [v1007] w1005)) fun vs1001 g1002 w1003 =>
xIf (vs1001.getD 0 undef) (K (.tuple #[(.int .u8 0), (.pointer none), (.bool false)]) w1003) (xMax a1 (.int .i64 0) fun v1008 =>
xConv .u8 v1008 fun v1009 =>
Ret P n_small_Row_place [a0, v1009] w1003 fun v1010 w1011 =>
xTup v1010 0 fun v1012 =>
xTup v1010 1 fun v1013 =>
Ret P n_small_Row_at [a0, v1012] w1011 fun v1014 w1015 =>
xTup v1014 0 fun v1016 =>
xTup v1014 1 fun v1017 =>
xTup v1014 2 fun v1018 =>
K (.tuple #[v1016, v1017, v1018]) w1015)
theorem W_small_Row_Next {a0 a1 : Value} {K : Value → World → Prop} {w : World} (h : S_small_Row_Next a0 a1 K w) : Ret P n_small_Row_Next [a0, a1] w K :=
  vcF_of mixed Tryz.func145 (show S_small_Row_Next a0 a1 K w = vcF P Tryz.f145 [a0, a1] w K from by kernel_rfl) h
/- (*spunyarn/wide.Board[*spunyarn/node.Node]).Next -/
/- S_wide_Board_Next_l1: 0=slot 7 b 1=slot 8 x 2=slot 9 is 3=slot 4 4=slot 5 5=slot 6 -/
def S_wide_Board_Next_l1 (K : Value → World → Prop) (a0 : Value) (J1000 : List Value → World → Prop) (I1007 : Nat → List Value → World → Prop) (n1008 : Nat) (vs1009 : List Value) (g1010 : Nat → Value) (w1011 : World) : Prop :=
xLt (vs1009.getD 0 undef) (.int .i64 256) fun v1012 =>
xIf v1012 (xConv .u8 (vs1009.getD 0 undef) fun v1013 =>
Ret P n_wide_Board_Get [a0, v1013] w1011 fun v1014 w1015 =>
xTup v1014 0 fun v1016 =>
xTup v1014 1 fun v1017 =>
xIf v1017 (xConv .u8 (vs1009.getD 0 undef) fun v1018 =>
K (.tuple #[v1018, v1016, (.bool true)]) w1015) (xAdd (vs1009.getD 0 undef) (.int .i64 1) fun v1019 =>
XNext I1007 n1008 [v1019, v1016, v1017, (vs1009.getD 3 undef), (vs1009.getD 4 undef), (vs1009.getD 5 undef)] w1015)) (J1000 [(vs1009.getD 0 undef), (vs1009.getD 1 undef), (vs1009.getD 2 undef), (vs1009.getD 3 undef), (vs1009.getD 4 undef), (vs1009.getD 5 undef)] w1011)
abbrev S_wide_Board_Next (a0 : Value) (a1 : Value) (K : Value → World → Prop) (w0 : World) : Prop :=
/- 0 b 1 x 2 is 3 4 5 -/ XJ (fun J1000 =>
Ret P n_wide_Board_ok [a0] w0 fun v1004 w1005 =>
xIf v1004 (xMax a1 (.int .i64 0) fun v1006 =>
XLoop [v1006, undef, undef, (.int .u8 0), (.pointer none), (.bool false)] w1005 (S_wide_Board_Next_l1 K a0 J1000)) (J1000 [undef, undef, undef, (.int .u8 0), (.pointer none), (.bool false)] w1005)) fun vs1001 g1002 w1003 =>
K (.tuple #[(.int .u8 0), (.pointer none), (.bool false)]) w1003
theorem W_wide_Board_Next {a0 a1 : Value} {K : Value → World → Prop} {w : World} (h : S_wide_Board_Next a0 a1 K w) : Ret P n_wide_Board_Next [a0, a1] w K :=
  vcF_of mixed Tryz.func146 (show S_wide_Board_Next a0 a1 K w = vcF P Tryz.f146 [a0, a1] w K from by kernel_rfl) h
/- internal/strconv.FormatInt -/
abbrev S_istrconv_FormatInt (a0 : Value) (a1 : Value) (K : Value → World → Prop) (w0 : World) : Prop :=
xEq a1 (.int .i64 10) fun v1000 =>
xIf v1000 (/- 0 -/ XJ (fun J1001 =>
xLe (.int .i64 0) a0 fun v1005 =>
xIf v1005 (xLt a0 (.int .i64 100) fun v1006 =>
J1001 [v1006] w0) (J1001 [(.bool false)] w0)) fun vs1002 g1003 w1004 =>
xIf (vs1002.getD 0 undef) (Ret P n_istrconv_small [a0] w1004 fun v1007 w1008 =>
K v1007 w1008) (XNew w1004 [(.int .u8 0), (.int .u8 0), (.int .u8 0), (.int .u8 0), (.int .u8 0), (.int .u8 0), (.int .u8 0), (.int .u8 0), (.int .u8 0), (.int .u8 0), (.int .u8 0), (.int .u8 0), (.int .u8 0), (.int .u8 0), (.int .u8 0), (.int .u8 0), (.int .u8 0), (.int .u8 0), (.int .u8 0), (.int .u8 0), (.int .u8 0), (.int .u8 0), (.int .u8 0), (.int .u8 0)] 195 fun a1009 w1010 =>
xConv .u64 a0 fun v1011 =>
/- 0 u -/ XJ (fun J1012 =>
xLt a0 (.int .i64 0) fun v1016 =>
xIf v1016 (xNeg v1011 fun v1017 =>
J1012 [v1017] w1010) (J1012 [v1011] w1010)) fun vs1013 g1014 w1015 =>
Ret P n_istrconv_numDigits [(vs1013.getD 0 undef)] w1015 fun v1018 w1019 =>
xAdd (.int .i64 1) v1018 fun v1020 =>
xCutA 24 1 (.pointer (some a1009)) (some (.int .i64 1)) (some v1020) none fun v1021 =>
Ret P n_istrconv_formatBase10 [v1021, (vs1013.getD 0 undef)] w1019 fun v1022 w1023 =>
xLt a0 (.int .i64 0) fun v1024 =>
xIf v1024 (xIxA (.pointer (some a1009)) (.int .i64 0) 24 1 fun v1025 =>
xAt v1025 fun a1027 =>
XSt w1023 a1027 (.int .u8 45) fun w1026 =>
xAdd (.int .i64 1) v1018 fun v1028 =>
xCutA 24 1 (.pointer (some a1009)) none (some v1028) none fun v1029 =>
XRun P (convert 61 9 v1029) w1026 fun v1030 w1031 =>
K v1030 w1031) (xAdd (.int .i64 1) v1018 fun v1032 =>
xCutA 24 1 (.pointer (some a1009)) (some (.int .i64 1)) (some v1032) none fun v1033 =>
XRun P (convert 61 9 v1033) w1023 fun v1034 w1035 =>
K v1034 w1035))) (xConv .u64 a0 fun v1036 =>
xLt a0 (.int .i64 0) fun v1037 =>
Ret P n_istrconv_formatBits [(.slice none 0 0), v1036, a1, v1037, (.bool false)] w0 fun v1038 w1039 =>
xTup v1038 0 fun v1040 =>
xTup v1038 1 fun v1041 =>
K v1041 w1039)
theorem W_istrconv_FormatInt {a0 a1 : Value} {K : Value → World → Prop} {w : World} (h : S_istrconv_FormatInt a0 a1 K w) : Ret P n_istrconv_FormatInt [a0, a1] w K :=
  vcF_of mixed Tryz.func148 (show S_istrconv_FormatInt a0 a1 K w = vcF P Tryz.f148 [a0, a1] w K from by kernel_rfl) h
/- internal/strconv.small -/
abbrev S_istrconv_small (a0 : Value) (K : Value → World → Prop) (w0 : World) : Prop :=
xLt a0 (.int .i64 10) fun v1000 =>
xIf v1000 (xAdd a0 (.int .i64 1) fun v1001 =>
xCutStr (.string ⟨#[48, 49, 50, 51, 52, 53, 54, 55, 56, 57, 97, 98, 99, 100, 101, 102, 103, 104, 105, 106, 107, 108, 109, 110, 111, 112, 113, 114, 115, 116, 117, 118, 119, 120, 121, 122]⟩) (some a0) (some v1001) fun v1002 =>
K v1002 w0) (xMul a0 (.int .i64 2) fun v1003 =>
xMul a0 (.int .i64 2) fun v1004 =>
xAdd v1004 (.int .i64 2) fun v1005 =>
xCutStr (.string ⟨#[48, 48, 48, 49, 48, 50, 48, 51, 48, 52, 48, 53, 48, 54, 48, 55, 48, 56, 48, 57, 49, 48, 49, 49, 49, 50, 49, 51, 49, 52, 49, 53, 49, 54, 49, 55, 49, 56, 49, 57, 50, 48, 50, 49, 50, 50, 50, 51, 50, 52, 50, 53, 50, 54, 50, 55, 50, 56, 50, 57, 51, 48, 51, 49, 51, 50, 51, 51, 51, 52, 51, 53, 51, 54, 51, 55, 51, 56, 51, 57, 52, 48, 52, 49, 52, 50, 52, 51, 52, 52, 52, 53, 52, 54, 52, 55, 52, 56, 52, 57, 53, 48, 53, 49, 53, 50, 53, 51, 53, 52, 53, 53, 53, 54, 53, 55, 53, 56, 53, 57, 54, 48, 54, 49, 54, 50, 54, 51, 54, 52, 54, 53, 54, 54, 54, 55, 54, 56, 54, 57, 55, 48, 55, 49, 55, 50, 55, 51, 55, 52, 55, 53, 55, 54, 55, 55, 55, 56, 55, 57, 56, 48, 56, 49, 56, 50, 56, 51, 56, 52, 56, 53, 56, 54, 56, 55, 56, 56, 56, 57, 57, 48, 57, 49, 57, 50, 57, 51, 57, 52, 57, 53, 57, 54, 57, 55, 57, 56, 57, 57]⟩) (some v1003) (some v1005) fun v1006 =>
K v1006 w0)
theorem W_istrconv_small {a0 : Value} {K : Value → World → Prop} {w : World} (h : S_istrconv_small a0 K w) : Ret P n_istrconv_small [a0] w K :=
  vcF_of mixed Tryz.func149 (show S_istrconv_small a0 K w = vcF P Tryz.f149 [a0] w K from by kernel_rfl) h
/- internal/strconv.numDigits -/
abbrev S_istrconv_numDigits (a0 : Value) (K : Value → World → Prop) (w0 : World) : Prop :=
Ret P n_bits_Len64 [a0] w0 fun v1000 w1001 =>
Ret P n_istrconv_log10Pow2 [v1000] w1001 fun v1002 w1003 =>
xIxA (.pointer (some ⟨0, 0, none⟩)) v1002 20 1 fun v1004 =>
xAt v1004 fun a1005 =>
XLd w1003 a1005 fun v1006 =>
xGe a0 v1006 fun v1007 =>
Ret P n_istrconv_bool2_int [v1007] w1003 fun v1008 w1009 =>
xAdd v1002 v1008 fun v1010 =>
K v1010 w1009
theorem W_istrconv_numDigits {a0 : Value} {K : Value → World → Prop} {w : World} (h : S_istrconv_numDigits a0 K w) : Ret P n_istrconv_numDigits [a0] w K :=
  vcF_of mixed Tryz.func150 (show S_istrconv_numDigits a0 K w = vcF P Tryz.f150 [a0] w K from by kernel_rfl) h
end Go.Proofs.YtbgfmgkimccbeaaGreatDoor
