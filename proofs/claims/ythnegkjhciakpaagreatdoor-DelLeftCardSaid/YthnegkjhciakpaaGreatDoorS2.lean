/-  Written by gen.py for this claim: of each function a form without frames, the same as the engine's condition by reckoning.  -/
import Derived.Test.YthnegkjhciakpaaGreatDoorSN
import Derived.Test.YthnegkjhciakpaaGreatDoorProg
namespace Go.Proofs.YthnegkjhciakpaaGreatDoor
open Go X
set_option linter.unusedVariables false
set_option maxRecDepth 100000
/- (spunyarn/del.taker).without -/
abbrev S_del_taker_without (a0 : Value) (a1 : Value) (a2 : Value) (K : Value → World → Prop) (w0 : World) : Prop :=
XNew w0 (cellsV a0) 240 fun a1000 w1001 =>
Ret P n_node_Node_Val [a1] w1001 fun v1002 w1003 =>
xTup v1002 0 fun v1004 =>
xTup v1002 1 fun v1005 =>
Ret P n_node_Node_Occupants [a1] w1003 fun v1006 w1007 =>
xGt v1006 (.int .i64 2) fun v1008 =>
xIf v1008 (XLd w1007 (a1000.add 1) fun v1009 =>
XLd w1007 (a1000.add 0) fun v1010 =>
Ret P n_node_Node_Own [a1, v1009, v1010] w1007 fun v1011 w1012 =>
XLd w1012 (a1000.add 0) fun v1013 =>
Ret P n_node_Node_DropKid [v1011, v1013, a2] w1012 fun v1014 w1015 =>
K v1011 w1015) (xIf v1005 (XLd w1007.drew (a1000.add 1) fun v1016 =>
XLd w1007.drew (a1000.add 0) fun v1017 =>
Ret P n_node_Node_Part [a1] w1007.drew fun v1018 w1019 =>
xKeep1 w1019 (.pointer (some (a1000.add 0))) v1017 ∧ (xKeep1 w1019 (.pointer (some (a1000.add 1))) v1016 ∧ (Ret P n_node_Leaf [v1016, v1017, v1018, v1004] w1019 fun v1020 w1021 =>
K v1020 w1021))) (Ret P n_node_Node_Next [a1, (.int .i64 0)] w1007 fun v1022 w1023 =>
xTup v1022 0 fun v1024 =>
xTup v1022 1 fun v1025 =>
/- 0 c 1 kid -/ XJ (fun J1026 =>
xEq v1024 a2 fun v1030 =>
xIf v1030 (xConv .i64 a2 fun v1031 =>
xAdd v1031 (.int .i64 1) fun v1032 =>
Ret P n_node_Node_Next [a1, v1032] w1023 fun v1033 w1034 =>
xTup v1033 0 fun v1035 =>
xTup v1033 1 fun v1036 =>
J1026 [v1035, v1036] w1034) (J1026 [v1024, v1025] w1023)) fun vs1027 g1028 w1029 =>
XLdN w1029 a1000 2 fun v1037 =>
Ret P n_del_taker_lift [v1037, a1, (vs1027.getD 0 undef), (vs1027.getD 1 undef)] w1029 fun v1038 w1039 =>
K v1038 w1039))
theorem W_del_taker_without {a0 a1 a2 : Value} {K : Value → World → Prop} {w : World} (h : S_del_taker_without a0 a1 a2 K w) : Ret P n_del_taker_without [a0, a1, a2] w K :=
  vcF_of mixed Tryz.func206 (show S_del_taker_without a0 a1 a2 K w = vcF P Tryz.f206 [a0, a1, a2] w K from by kernel_rfl) h
/- (*spunyarn/small.Row[*spunyarn/node.Node]).Get -/
abbrev S_small_Row_Get (a0 : Value) (a1 : Value) (K : Value → World → Prop) (w0 : World) : Prop :=
Ret P n_small_Row_ok [a0] w0 fun v1000 w1001 =>
xNot v1000 fun v1002 =>
xIf v1002 (K (.tuple #[(.pointer none), (.bool false)]) w1001) (Ret P n_small_Row_place [a0, a1] w1001 fun v1003 w1004 =>
xTup v1003 0 fun v1005 =>
xTup v1003 1 fun v1006 =>
xNot v1006 fun v1007 =>
xIf v1007 (K (.tuple #[(.pointer none), (.bool false)]) w1004) (xAt a0 fun a1008 =>
xIxA (.pointer (some (a1008.add 18))) v1005 16 1 fun v1009 =>
xAt v1009 fun a1010 =>
XLd w1004 a1010 fun v1011 =>
K (.tuple #[v1011, (.bool true)]) w1004))
theorem W_small_Row_Get {a0 a1 : Value} {K : Value → World → Prop} {w : World} (h : S_small_Row_Get a0 a1 K w) : Ret P n_small_Row_Get [a0, a1] w K :=
  vcF_of mixed Tryz.func207 (show S_small_Row_Get a0 a1 K w = vcF P Tryz.f207 [a0, a1] w K from by kernel_rfl) h
/- (*spunyarn/wide.Board[*spunyarn/node.Node]).Get -/
abbrev S_wide_Board_Get (a0 : Value) (a1 : Value) (K : Value → World → Prop) (w0 : World) : Prop :=
/- 0 -/ XJ (fun J1000 =>
Ret P n_wide_Board_ok [a0] w0 fun v1004 w1005 =>
xNot v1004 fun v1006 =>
xIf v1006 (J1000 [(.bool true)] w1005) (xAt a0 fun a1007 =>
xIxA (.pointer (some (a1007.add 2))) a1 256 1 fun v1008 =>
xAt v1008 fun a1009 =>
XLd w1005 a1009 fun v1010 =>
xEq v1010 (.int .u16 0) fun v1011 =>
J1000 [v1011] w1005)) fun vs1001 g1002 w1003 =>
xIf (vs1001.getD 0 undef) (K (.tuple #[(.pointer none), (.bool false)]) w1003) (xAt a0 fun a1012 =>
XLd w1003.drew (a1012.add 258) fun v1013 =>
xAt a0 fun a1014 =>
xIxA (.pointer (some (a1014.add 2))) a1 256 1 fun v1015 =>
xAt v1015 fun a1016 =>
XLd w1003.drew a1016 fun v1017 =>
xSub v1017 (.int .u16 1) fun v1018 =>
xIxS v1013 v1018 1 fun v1019 =>
xAt v1019 fun a1020 =>
XLd w1003.drew a1020 fun v1021 =>
K (.tuple #[v1021, (.bool true)]) (w1003.drew))
theorem W_wide_Board_Get {a0 a1 : Value} {K : Value → World → Prop} {w : World} (h : S_wide_Board_Get a0 a1 K w) : Ret P n_wide_Board_Get [a0, a1] w K :=
  vcF_of mixed Tryz.func208 (show S_wide_Board_Get a0 a1 K w = vcF P Tryz.f208 [a0, a1] w K from by kernel_rfl) h
/- (*sync/atomic.Int64).Add -/
abbrev S_atomic_Int64_Add (a0 : Value) (a1 : Value) (K : Value → World → Prop) (w0 : World) : Prop :=
xAt a0 fun a1000 =>
xCall P 242 [(.pointer (some (a1000.add 0))), a1] w0 fun v1001 w1002 =>
K v1001 w1002
theorem W_atomic_Int64_Add {a0 a1 : Value} {K : Value → World → Prop} {w : World} (h : S_atomic_Int64_Add a0 a1 K w) : Ret P n_atomic_Int64_Add [a0, a1] w K :=
  vcF_of mixed Tryz.func209 (show S_atomic_Int64_Add a0 a1 K w = vcF P Tryz.f209 [a0, a1] w K from by kernel_rfl) h
/- (*spunyarn/small.Row[*spunyarn/node.Node]).Copy -/
abbrev S_small_Row_Copy (a0 : Value) (K : Value → World → Prop) (w0 : World) : Prop :=
Ret P n_small_Row_ok [a0] w0 fun v1000 w1001 =>
xNot v1000 fun v1002 =>
xIf v1002 (K (.pointer none) w1001) (xAt a0 fun a1003 =>
XLdN w1001 a1003 34 fun v1004 =>
XNew w1001 z_small_Row 309 fun a1005 w1006 =>
XDo P (storeVar 309 a1005 v1004) w1006 fun w1007 =>
K (.pointer (some a1005)) w1007)
theorem W_small_Row_Copy {a0 : Value} {K : Value → World → Prop} {w : World} (h : S_small_Row_Copy a0 K w) : Ret P n_small_Row_Copy [a0] w K :=
  vcF_of mixed Tryz.func210 (show S_small_Row_Copy a0 K w = vcF P Tryz.f210 [a0] w K from by kernel_rfl) h
/- (*spunyarn/wide.Board[*spunyarn/node.Node]).Copy -/
abbrev S_wide_Board_Copy (a0 : Value) (K : Value → World → Prop) (w0 : World) : Prop :=
Ret P n_wide_Board_ok [a0] w0 fun v1000 w1001 =>
xNot v1000 fun v1002 =>
xIf v1002 (K (.pointer none) w1001) (xAt a0 fun a1003 =>
XLdN w1001 a1003 260 fun v1004 =>
XNew w1001 z_wide_Board 314 fun a1005 w1006 =>
XDo P (storeVar 314 a1005 v1004) w1006 fun w1007 =>
xAt a0 fun a1008 =>
XLd w1007.drew (a1008.add 258) fun v1009 =>
xAt a0 fun a1010 =>
XLd w1007.drew (a1010.add 259) fun v1011 =>
Ret P n_slices_Clone_Node [v1009] w1007.drew fun v1012 w1013 =>
xKeep1 w1013 (.pointer (some (a1010.add 259))) v1011 ∧ (Ret P n_slices_Clone_uint16 [v1011] w1013 fun v1014 w1015 =>
XSt w1015 (a1005.add 258) v1012 fun w1016 =>
XSt w1016 (a1005.add 259) v1014 fun w1017 =>
K (.pointer (some a1005)) w1017))
theorem W_wide_Board_Copy {a0 : Value} {K : Value → World → Prop} {w : World} (h : S_wide_Board_Copy a0 K w) : Ret P n_wide_Board_Copy [a0] w K :=
  vcF_of mixed Tryz.func211 (show S_wide_Board_Copy a0 K w = vcF P Tryz.f211 [a0] w K from by kernel_rfl) h
/- slices.Grow[[]byte,byte] -/
abbrev S_slices_Grow_byte (a0 : Value) (a1 : Value) (K : Value → World → Prop) (w0 : World) : Prop :=
/-  -/ XJ (fun J1000 =>
xLt a1 (.int .i64 0) fun v1004 =>
xIf v1004 (False) (J1000 [] w0)) fun vs1001 g1002 w1003 =>
/- 0 n 1 s -/ XJ (fun J1005 =>
xCap a0 fun v1009 =>
xLen a0 fun v1010 =>
xSub v1009 v1010 fun v1011 =>
xSub a1 v1011 fun v1012 =>
xGt v1012 (.int .i64 0) fun v1013 =>
xIf v1013 (xCap a0 fun v1014 =>
xCutS 1 a0 none (some v1014) none fun v1015 =>
XRun P (Builtin.append_ #[41, 3] 41 #[v1015, v1012]) w1003 fun v1016 w1017 =>
xLen a0 fun v1018 =>
xCutS 1 v1016 none (some v1018) none fun v1019 =>
J1005 [v1012, v1019] w1017) (J1005 [v1012, a0] w1003)) fun vs1006 g1007 w1008 =>
K (vs1006.getD 1 undef) w1008
theorem W_slices_Grow_byte {a0 a1 : Value} {K : Value → World → Prop} {w : World} (h : S_slices_Grow_byte a0 a1 K w) : Ret P n_slices_Grow_byte [a0, a1] w K :=
  vcF_of mixed Tryz.func212 (show S_slices_Grow_byte a0 a1 K w = vcF P Tryz.f212 [a0, a1] w K from by kernel_rfl) h
/- spunyarn/kids.room[*spunyarn/node.Node] -/
abbrev S_kids_room_Node (a0 : Value) (K : Value → World → Prop) (w0 : World) : Prop :=
xFill [(.pointer none), (.pointer none)] [] fun c1000 =>
XNew w0 (cellsV (.agg c1000.toArray)) 280 fun a1001 w1002 =>
/-  -/ XJ (fun J1003 =>
xLe a0 (.int .i64 16) fun v1007 =>
xIf v1007 (Ret P n_small_New_Node [a0] w1002 fun v1008 w1009 =>
xTup v1008 0 fun v1010 =>
xTup v1008 1 fun v1011 =>
XSt w1009 (a1001.add 0) v1010 fun w1012 =>
J1003 [] w1012) (Ret P n_wide_New_Node [a0] w1002 fun v1013 w1014 =>
xTup v1013 0 fun v1015 =>
xTup v1013 1 fun v1016 =>
XSt w1014 (a1001.add 1) v1015 fun w1017 =>
J1003 [] w1017)) fun vs1004 g1005 w1006 =>
K (.pointer (some a1001)) w1006
theorem W_kids_room_Node {a0 : Value} {K : Value → World → Prop} {w : World} (h : S_kids_room_Node a0 K w) : Ret P n_kids_room_Node [a0] w K :=
  vcF_of mixed Tryz.func213 (show S_kids_room_Node a0 K w = vcF P Tryz.f213 [a0] w K from by kernel_rfl) h
/- spunyarn/kids.move[*spunyarn/node.Node] -/
/- S_kids_move_Node_l1: 0=slot 5 at 1=slot 6 b 2=slot 7 x 3=slot 8 is -/
def S_kids_move_Node_l1 (a0 : Value) (v1000 : Value) (J1002 : List Value → World → Prop) (I1006 : Nat → List Value → World → Prop) (n1007 : Nat) (vs1008 : List Value) (g1009 : Nat → Value) (w1010 : World) : Prop :=
xLt (vs1008.getD 0 undef) (.int .i64 256) fun v1011 =>
xIf v1011 (Ret P n_kids_Kids_Next [a0, (vs1008.getD 0 undef)] w1010 fun v1012 w1013 =>
xTup v1012 0 fun v1014 =>
xTup v1012 1 fun v1015 =>
xTup v1012 2 fun v1016 =>
xNot v1016 fun v1017 =>
xIf v1017 (J1002 [(vs1008.getD 0 undef), v1014, v1015, v1016] w1013) (Ret P n_kids_Kids_put [v1000, v1014, v1015] w1013 fun v1018 w1019 =>
xConv .i64 v1014 fun v1020 =>
xAdd v1020 (.int .i64 1) fun v1021 =>
XNext I1006 n1007 [v1021, v1014, v1015, v1016] w1019)) (J1002 [(vs1008.getD 0 undef), (vs1008.getD 1 undef), (vs1008.getD 2 undef), (vs1008.getD 3 undef)] w1010)
abbrev S_kids_move_Node (a0 : Value) (a1 : Value) (K : Value → World → Prop) (w0 : World) : Prop :=
Ret P n_kids_room_Node [a1] w0 fun v1000 w1001 =>
/- 0 at 1 b 2 x 3 is -/ XJ (fun J1002 =>
XLoop [(.int .i64 0), undef, undef, undef] w1001 (S_kids_move_Node_l1 a0 v1000 J1002)) fun vs1003 g1004 w1005 =>
xAt v1000 fun a1022 =>
XLdN w1005 a1022 2 fun v1023 =>
xAt a0 fun a1024 =>
XDo P (storeVar 280 a1024 v1023) w1005 fun w1025 =>
K (.tuple #[]) w1025
theorem W_kids_move_Node {a0 a1 : Value} {K : Value → World → Prop} {w : World} (h : S_kids_move_Node a0 a1 K w) : Ret P n_kids_move_Node [a0, a1] w K :=
  vcF_of mixed Tryz.func214 (show S_kids_move_Node a0 a1 K w = vcF P Tryz.f214 [a0, a1] w K from by kernel_rfl) h
/- spunyarn/kids.KindOf -/
/- S_kids_KindOf_l1: 0=slot 8 1=slot 4 kind 2=slot 2 -/
def S_kids_KindOf_l1 (K : Value → World → Prop) (a0 : Value) (c1001 : List Value) (I1002 : Nat → List Value → World → Prop) (n1003 : Nat) (vs1004 : List Value) (g1005 : Nat → Value) (w1006 : World) : Prop :=
xLt (vs1004.getD 0 undef) (.int .i64 4) fun v1007 =>
xIf v1007 (XRun P (Instr.index 326 (.agg c1001.toArray) (vs1004.getD 0 undef)) w1006 fun v1008 w1009 =>
xLe a0 v1008 fun v1010 =>
xIf v1010 (K v1008 w1009) (xAdd (vs1004.getD 0 undef) (.int .i64 1) fun v1011 =>
XNext I1002 n1003 [v1011, v1008, (vs1004.getD 2 undef)] w1009)) (K (.int .i64 0) w1006)
abbrev S_kids_KindOf (a0 : Value) (K : Value → World → Prop) (w0 : World) : Prop :=
xLt a0 (.int .i64 0) fun v1000 =>
xIf v1000 (K (.int .i64 0) w0) (xFill [(.int .i64 0), (.int .i64 0), (.int .i64 0), (.int .i64 0)] [(0, 1, (.int .i64 4)), (1, 1, (.int .i64 16)), (2, 1, (.int .i64 48)), (3, 1, (.int .i64 256))] fun c1001 =>
XLoop [(.int .i64 0), undef, (.int .i64 0)] w0 (S_kids_KindOf_l1 K a0 c1001))
theorem W_kids_KindOf {a0 : Value} {K : Value → World → Prop} {w : World} (h : S_kids_KindOf a0 K w) : Ret P n_kids_KindOf [a0] w K :=
  vcF_of mixed Tryz.func215 (show S_kids_KindOf a0 K w = vcF P Tryz.f215 [a0] w K from by kernel_rfl) h
/- (*spunyarn/kids.Kids[*spunyarn/node.Node]).put -/
abbrev S_kids_Kids_put (a0 : Value) (a1 : Value) (a2 : Value) (K : Value → World → Prop) (w0 : World) : Prop :=
xAt a0 fun a1000 =>
XLd w0 (a1000.add 0) fun v1001 =>
xPNe P w0 v1001 (.pointer none) fun v1002 =>
xIf v1002 (xAt a0 fun a1003 =>
XLd w0 (a1003.add 0) fun v1004 =>
Ret P n_small_Row_Set [v1004, a1, a2] w0 fun v1005 w1006 =>
K (.tuple #[]) w1006) (xAt a0 fun a1007 =>
XLd w0 (a1007.add 1) fun v1008 =>
Ret P n_wide_Board_Set [v1008, a1, a2] w0 fun v1009 w1010 =>
K (.tuple #[]) w1010)
theorem W_kids_Kids_put {a0 a1 a2 : Value} {K : Value → World → Prop} {w : World} (h : S_kids_Kids_put a0 a1 a2 K w) : Ret P n_kids_Kids_put [a0, a1, a2] w K :=
  vcF_of mixed Tryz.func216 (show S_kids_Kids_put a0 a1 a2 K w = vcF P Tryz.f216 [a0, a1, a2] w K from by kernel_rfl) h
/- (spunyarn/put.putter).here -/
abbrev S_put_putter_here (a0 : Value) (a1 : Value) (K : Value → World → Prop) (w0 : World) : Prop :=
XNew w0 (cellsV a0) 254 fun a1000 w1001 =>
XLd w1001 (a1000.add 2) fun v1002 =>
XLd w1001 (a1000.add 1) fun v1003 =>
Ret P n_node_Node_Own [a1, v1002, v1003] w1001 fun v1004 w1005 =>
XLd w1005 (a1000.add 1) fun v1006 =>
XLd w1005 (a1000.add 0) fun v1007 =>
Ret P n_node_Node_SetVal [v1004, v1006, v1007] w1005 fun v1008 w1009 =>
K v1004 w1009
theorem W_put_putter_here {a0 a1 : Value} {K : Value → World → Prop} {w : World} (h : S_put_putter_here a0 a1 K w) : Ret P n_put_putter_here [a0, a1] w K :=
  vcF_of mixed Tryz.func217 (show S_put_putter_here a0 a1 K w = vcF P Tryz.f217 [a0, a1] w K from by kernel_rfl) h
/- (spunyarn/put.putter).split -/
abbrev S_put_putter_split (a0 : Value) (a1 : Value) (a2 : Value) (a3 : Value) (a4 : Value) (K : Value → World → Prop) (w0 : World) : Prop :=
XNew w0 (cellsV a0) 254 fun a1000 w1001 =>
XLd w1001.drew (a1000.add 2) fun v1002 =>
XLd w1001.drew (a1000.add 1) fun v1003 =>
xCutS 1 a2 none (some a4) none fun v1004 =>
Ret P n_node_Inner [v1002, v1003, v1004] w1001.drew fun v1005 w1006 =>
/- 0 v 1 _ 2 kid -/ XJ (fun J1007 =>
xLen a2 fun v1011 =>
xEq a4 v1011 fun v1012 =>
xIf v1012 (Ret P n_node_Node_Val [a1] w1006 fun v1013 w1014 =>
xTup v1013 0 fun v1015 =>
xTup v1013 1 fun v1016 =>
XLd w1014 (a1000.add 1) fun v1017 =>
Ret P n_node_Node_SetVal [v1005, v1017, v1015] w1014 fun v1018 w1019 =>
J1007 [v1015, v1016, undef] w1019) (XLd w1006 (a1000.add 2) fun v1020 =>
XLd w1006 (a1000.add 1) fun v1021 =>
Ret P n_node_Node_Own [a1, v1020, v1021] w1006 fun v1022 w1023 =>
XLd w1023.drew (a1000.add 1) fun v1024 =>
xAdd a4 (.int .i64 1) fun v1025 =>
xCutS 1 a2 (some v1025) none none fun v1026 =>
Ret P n_node_Node_SetPart [v1022, v1024, v1026] w1023.drew fun v1027 w1028 =>
XLd w1028.drew (a1000.add 1) fun v1029 =>
xIxS a2 a4 1 fun v1030 =>
xAt v1030 fun a1031 =>
XLd w1028.drew a1031 fun v1032 =>
Ret P n_node_Node_SetKid [v1005, v1029, v1032, v1022] w1028.drew fun v1033 w1034 =>
J1007 [undef, undef, v1022] w1034)) fun vs1008 g1009 w1010 =>
/-  -/ XJ (fun J1035 =>
xLen a3 fun v1039 =>
xEq a4 v1039 fun v1040 =>
xIf v1040 (XLd w1010 (a1000.add 1) fun v1041 =>
XLd w1010 (a1000.add 0) fun v1042 =>
Ret P n_node_Node_SetVal [v1005, v1041, v1042] w1010 fun v1043 w1044 =>
J1035 [] w1044) (XLd w1010.drew (a1000.add 1) fun v1045 =>
xIxS a3 a4 1 fun v1046 =>
xAt v1046 fun a1047 =>
XLd w1010.drew a1047 fun v1048 =>
XLd w1010.drew (a1000.add 2) fun v1049 =>
XLd w1010.drew (a1000.add 1) fun v1050 =>
xAdd a4 (.int .i64 1) fun v1051 =>
xCutS 1 a3 (some v1051) none none fun v1052 =>
XLd w1010.drew (a1000.add 0) fun v1053 =>
Ret P n_node_Leaf [v1049, v1050, v1052, v1053] w1010.drew fun v1054 w1055 =>
xKeep1 w1055 v1046 v1048 ∧ (xKeep1 w1055 (.pointer (some (a1000.add 1))) v1045 ∧ (Ret P n_node_Node_SetKid [v1005, v1045, v1048, v1054] w1055 fun v1056 w1057 =>
J1035 [] w1057)))) fun vs1036 g1037 w1038 =>
K v1005 w1038
theorem W_put_putter_split {a0 a1 a2 a3 a4 : Value} {K : Value → World → Prop} {w : World} (h : S_put_putter_split a0 a1 a2 a3 a4 K w) : Ret P n_put_putter_split [a0, a1, a2, a3, a4] w K :=
  vcF_of mixed Tryz.func218 (show S_put_putter_split a0 a1 a2 a3 a4 K w = vcF P Tryz.f218 [a0, a1, a2, a3, a4] w K from by kernel_rfl) h
/- (spunyarn/put.putter).below -/
abbrev S_put_putter_below (a0 : Value) (a1 : Value) (a2 : Value) (K : Value → World → Prop) (w0 : World) : Prop :=
XNew w0 (cellsV a0) 254 fun a1000 w1001 =>
xIxS a2 (.int .i64 0) 1 fun v1002 =>
xAt v1002 fun a1003 =>
XLd w1001 a1003 fun v1004 =>
Ret P n_node_Node_Kid [a1, v1004] w1001 fun v1005 w1006 =>
XLdN w1006.drew a1000 3 fun v1007 =>
xCutS 1 a2 (some (.int .i64 1)) none none fun v1008 =>
Ret P n_put_putter_into [v1007, v1005, v1008] w1006.drew fun v1009 w1010 =>
xPEq P w1010 v1009 v1005 fun v1011 =>
xIf v1011 (K a1 w1010) (XLd w1010 (a1000.add 2) fun v1012 =>
XLd w1010 (a1000.add 1) fun v1013 =>
Ret P n_node_Node_Own [a1, v1012, v1013] w1010 fun v1014 w1015 =>
XLd w1015.drew (a1000.add 1) fun v1016 =>
xIxS a2 (.int .i64 0) 1 fun v1017 =>
xAt v1017 fun a1018 =>
XLd w1015.drew a1018 fun v1019 =>
Ret P n_node_Node_SetKid [v1014, v1016, v1019, v1009] w1015.drew fun v1020 w1021 =>
K v1014 w1021)
theorem W_put_putter_below {a0 a1 a2 : Value} {K : Value → World → Prop} {w : World} (h : S_put_putter_below a0 a1 a2 K w) : Ret P n_put_putter_below [a0, a1, a2] w K :=
  vcF_of mixed Tryz.func219 (show S_put_putter_below a0 a1 a2 K w = vcF P Tryz.f219 [a0, a1, a2] w K from by kernel_rfl) h
/- (*sync/atomic.Uint64).Add -/
abbrev S_atomic_Uint64_Add (a0 : Value) (a1 : Value) (K : Value → World → Prop) (w0 : World) : Prop :=
xAt a0 fun a1000 =>
xCall P 249 [(.pointer (some (a1000.add 0))), a1] w0 fun v1001 w1002 =>
K v1001 w1002
theorem W_atomic_Uint64_Add {a0 a1 : Value} {K : Value → World → Prop} {w : World} (h : S_atomic_Uint64_Add a0 a1 K w) : Ret P n_atomic_Uint64_Add [a0, a1] w K :=
  vcF_of mixed Tryz.func220 (show S_atomic_Uint64_Add a0 a1 K w = vcF P Tryz.f220 [a0, a1] w K from by kernel_rfl) h
/- bytes.HasPrefix -/
abbrev S_bytes_HasPrefix (a0 : Value) (a1 : Value) (K : Value → World → Prop) (w0 : World) : Prop :=
/- 0 -/ XJ (fun J1000 =>
xLen a0 fun v1004 =>
xLen a1 fun v1005 =>
xGe v1004 v1005 fun v1006 =>
xIf v1006 (xLen a1 fun v1007 =>
xCutS 1 a0 none (some v1007) none fun v1008 =>
Ret P n_bytes_Equal [v1008, a1] w0 fun v1009 w1010 =>
J1000 [v1009] w1010) (J1000 [(.bool false)] w0)) fun vs1001 g1002 w1003 =>
K (vs1001.getD 0 undef) w1003
theorem W_bytes_HasPrefix {a0 a1 : Value} {K : Value → World → Prop} {w : World} (h : S_bytes_HasPrefix a0 a1 K w) : Ret P n_bytes_HasPrefix [a0, a1] w K :=
  vcF_of mixed Tryz.func221 (show S_bytes_HasPrefix a0 a1 K w = vcF P Tryz.f221 [a0, a1] w K from by kernel_rfl) h
/- (*sync/atomic.Bool).Load -/
abbrev S_atomic_Bool_Load (a0 : Value) (K : Value → World → Prop) (w0 : World) : Prop :=
xAt a0 fun a1000 =>
xCall P 251 [(.pointer (some (a1000.add 0)))] w0 fun v1001 w1002 =>
xNe v1001 (.int .u32 0) fun v1003 =>
K v1003 w1002
theorem W_atomic_Bool_Load {a0 : Value} {K : Value → World → Prop} {w : World} (h : S_atomic_Bool_Load a0 K w) : Ret P n_atomic_Bool_Load [a0] w K :=
  vcF_of mixed Tryz.func222 (show S_atomic_Bool_Load a0 K w = vcF P Tryz.f222 [a0] w K from by kernel_rfl) h
/- spunyarn/sub.seek -/
/- S_sub_seek_l1: 0=slot 0 n 1=slot 6 part 2=slot 5 at 3=slot 7 left 4=slot 8 same 5=slot 19 6=slot 30 -/
def S_sub_seek_l1 (K : Value → World → Prop) (a1 : Value) (a1000 : Addr) (I1002 : Nat → List Value → World → Prop) (n1003 : Nat) (vs1004 : List Value) (g1005 : Nat → Value) (w1006 : World) : Prop :=
xPNe P w1006 (vs1004.getD 0 undef) (.pointer none) fun v1007 =>
xIf v1007 (Ret P n_node_Node_Part [(vs1004.getD 0 undef)] w1006 fun v1008 w1009 =>
xCutS 1 a1 (some (vs1004.getD 2 undef)) none none fun v1010 =>
Ret P n_keys_Common [v1008, v1010] w1009 fun v1011 w1012 =>
xLen v1010 fun v1013 =>
xEq v1011 v1013 fun v1014 =>
xIf v1014 (xCutS 1 a1 none (some (vs1004.getD 2 undef)) (some (vs1004.getD 2 undef)) fun v1015 =>
xFill [(.pointer none), (.slice none 0 0)] [(0, 1, (vs1004.getD 0 undef)), (1, 1, v1015)] fun c1016 =>
XDo P (storeVar 295 a1000 (.agg c1016.toArray)) w1012 fun w1017 =>
XLdN w1017 a1000 2 fun v1018 =>
K v1018 w1017) (xLen v1008 fun v1019 =>
xLt v1011 v1019 fun v1020 =>
xIf v1020 (xFill [(.pointer none), (.slice none 0 0)] [] fun c1021 =>
XDo P (storeVar 295 a1000 (.agg c1021.toArray)) w1012 fun w1022 =>
XLdN w1022 a1000 2 fun v1023 =>
K v1023 w1022) (xIxS v1010 v1011 1 fun v1024 =>
xAt v1024 fun a1025 =>
XLd w1012 a1025 fun v1026 =>
Ret P n_node_Node_Kid [(vs1004.getD 0 undef), v1026] w1012 fun v1027 w1028 =>
xAdd v1011 (.int .i64 1) fun v1029 =>
xAdd (vs1004.getD 2 undef) v1029 fun v1030 =>
XNext I1002 n1003 [v1027, v1008, v1030, v1010, v1011, v1014, v1020] w1028))) (xFill [(.pointer none), (.slice none 0 0)] [] fun c1031 =>
XDo P (storeVar 295 a1000 (.agg c1031.toArray)) w1006 fun w1032 =>
XLdN w1032 a1000 2 fun v1033 =>
K v1033 w1032)
abbrev S_sub_seek (a0 : Value) (a1 : Value) (K : Value → World → Prop) (w0 : World) : Prop :=
XNew w0 [(.pointer none), (.slice none 0 0)] 295 fun a1000 w1001 =>
XLoop [a0, undef, (.int .i64 0), undef, undef, undef, undef] w1001 (S_sub_seek_l1 K a1 a1000)
theorem W_sub_seek {a0 a1 : Value} {K : Value → World → Prop} {w : World} (h : S_sub_seek a0 a1 K w) : Ret P n_sub_seek [a0, a1] w K :=
  vcF_of mixed Tryz.func224 (show S_sub_seek a0 a1 K w = vcF P Tryz.f224 [a0, a1] w K from by kernel_rfl) h
/- spunyarn/sub.with -/
abbrev S_sub_with (a0 : Value) (a1 : Value) (a2 : Value) (a3 : Value) (K : Value → World → Prop) (w0 : World) : Prop :=
/- 0 -/ XJ (fun J1000 =>
xPEq P w0 a0 (.pointer none) fun v1004 =>
xIf v1004 (J1000 [(.bool true)] w0) (Ret P n_node_Node_Part [a0] w0 fun v1005 w1006 =>
Ret P n_keys_Same [v1005, a1] w1006 fun v1007 w1008 =>
J1000 [v1007] w1008)) fun vs1001 g1002 w1003 =>
xIf (vs1001.getD 0 undef) (K a0 w1003) (Ret P n_node_Node_Copy [a0, a3, a2] w1003 fun v1009 w1010 =>
Ret P n_node_Node_SetPart [v1009, a2, a1] w1010 fun v1011 w1012 =>
K v1009 w1012)
theorem W_sub_with {a0 a1 a2 a3 : Value} {K : Value → World → Prop} {w : World} (h : S_sub_with a0 a1 a2 a3 K w) : Ret P n_sub_with [a0, a1, a2, a3] w K :=
  vcF_of mixed Tryz.func225 (show S_sub_with a0 a1 a2 a3 K w = vcF P Tryz.f225 [a0, a1, a2, a3] w K from by kernel_rfl) h
/- spunyarn/sub.Longest -/
/- S_sub_Longest_l1: 0=slot 5 kid 1=slot 3 long 2=slot 4 b -/
def S_sub_Longest_l1 (K : Value → World → Prop) (a0 : Value) (I1005 : Nat → List Value → World → Prop) (n1006 : Nat) (vs1007 : List Value) (g1008 : Nat → Value) (w1009 : World) : Prop :=
xPNe P w1009 (vs1007.getD 0 undef) (.pointer none) fun v1010 =>
xIf v1010 (Ret P n_sub_Longest [(vs1007.getD 0 undef)] w1009 fun v1011 w1012 =>
xAdd v1011 (.int .i64 1) fun v1013 =>
xMax (vs1007.getD 1 undef) v1013 fun v1014 =>
xConv .i64 (vs1007.getD 2 undef) fun v1015 =>
xAdd v1015 (.int .i64 1) fun v1016 =>
Ret P n_node_Node_Next [a0, v1016] w1012 fun v1017 w1018 =>
xTup v1017 0 fun v1019 =>
xTup v1017 1 fun v1020 =>
XNext I1005 n1006 [v1020, v1014, v1019] w1018) (Ret P n_node_Node_Part [a0] w1009 fun v1021 w1022 =>
xLen v1021 fun v1023 =>
xAdd (vs1007.getD 1 undef) v1023 fun v1024 =>
K v1024 w1022)
abbrev S_sub_Longest (a0 : Value) (K : Value → World → Prop) (w0 : World) : Prop :=
xPEq P w0 a0 (.pointer none) fun v1000 =>
xIf v1000 (K (.int .i64 0) w0) (Ret P n_node_Node_Next [a0, (.int .i64 0)] w0 fun v1001 w1002 =>
xTup v1001 0 fun v1003 =>
xTup v1001 1 fun v1004 =>
XLoop [v1004, (.int .i64 0), v1003] w1002 (S_sub_Longest_l1 K a0))
theorem W_sub_Longest {a0 : Value} {K : Value → World → Prop} {w : World} (h : S_sub_Longest a0 K w) : Ret P n_sub_Longest [a0] w K :=
  vcF_of mixed Tryz.func226 (show S_sub_Longest a0 K w = vcF P Tryz.f226 [a0] w K from by kernel_rfl) h
/- spunyarn/keys.Cmp -/
abbrev S_keys_Cmp (a0 : Value) (a1 : Value) (K : Value → World → Prop) (w0 : World) : Prop :=
Ret P n_bytes_Compare [a0, a1] w0 fun v1000 w1001 =>
K v1000 w1001
theorem W_keys_Cmp {a0 a1 : Value} {K : Value → World → Prop} {w : World} (h : S_keys_Cmp a0 a1 K w) : Ret P n_keys_Cmp [a0, a1] w K :=
  vcF_of mixed Tryz.func227 (show S_keys_Cmp a0 a1 K w = vcF P Tryz.f227 [a0, a1] w K from by kernel_rfl) h
/- internal/strconv.FormatInt -/
abbrev S_istrconv_FormatInt (a0 : Value) (a1 : Value) (K : Value → World → Prop) (w0 : World) : Prop :=
xEq a1 (.int .i64 10) fun v1000 =>
xIf v1000 (/- 0 -/ XJ (fun J1001 =>
xLe (.int .i64 0) a0 fun v1005 =>
xIf v1005 (xLt a0 (.int .i64 100) fun v1006 =>
J1001 [v1006] w0) (J1001 [(.bool false)] w0)) fun vs1002 g1003 w1004 =>
xIf (vs1002.getD 0 undef) (Ret P n_istrconv_small [a0] w1004 fun v1007 w1008 =>
K v1007 w1008) (XNew w1004 [(.int .u8 0), (.int .u8 0), (.int .u8 0), (.int .u8 0), (.int .u8 0), (.int .u8 0), (.int .u8 0), (.int .u8 0), (.int .u8 0), (.int .u8 0), (.int .u8 0), (.int .u8 0), (.int .u8 0), (.int .u8 0), (.int .u8 0), (.int .u8 0), (.int .u8 0), (.int .u8 0), (.int .u8 0), (.int .u8 0), (.int .u8 0), (.int .u8 0), (.int .u8 0), (.int .u8 0)] 301 fun a1009 w1010 =>
xConv .u64 a0 fun v1011 =>
/- 0 u -/ XJ (fun J1012 =>
xLt a0 (.int .i64 0) fun v1016 =>
xIf v1016 (xNeg v1011 fun v1017 =>
J1012 [v1017] w1010) (J1012 [v1011] w1010)) fun vs1013 g1014 w1015 =>
Ret P n_istrconv_numDigits [(vs1013.getD 0 undef)] w1015 fun v1018 w1019 =>
xAdd (.int .i64 1) v1018 fun v1020 =>
xCutA 24 1 (.pointer (some a1009)) (some (.int .i64 1)) (some v1020) none fun v1021 =>
Ret P n_istrconv_formatBase10 [v1021, (vs1013.getD 0 undef)] w1019 fun v1022 w1023 =>
xLt a0 (.int .i64 0) fun v1024 =>
xIf v1024 (xIxA (.pointer (some a1009)) (.int .i64 0) 24 1 fun v1025 =>
xAt v1025 fun a1027 =>
XSt w1023 a1027 (.int .u8 45) fun w1026 =>
xAdd (.int .i64 1) v1018 fun v1028 =>
xCutA 24 1 (.pointer (some a1009)) none (some v1028) none fun v1029 =>
XRun P (convert 41 9 v1029) w1026 fun v1030 w1031 =>
K v1030 w1031) (xAdd (.int .i64 1) v1018 fun v1032 =>
xCutA 24 1 (.pointer (some a1009)) (some (.int .i64 1)) (some v1032) none fun v1033 =>
XRun P (convert 41 9 v1033) w1023 fun v1034 w1035 =>
K v1034 w1035))) (xConv .u64 a0 fun v1036 =>
xLt a0 (.int .i64 0) fun v1037 =>
Ret P n_istrconv_formatBits [(.slice none 0 0), v1036, a1, v1037, (.bool false)] w0 fun v1038 w1039 =>
xTup v1038 0 fun v1040 =>
xTup v1038 1 fun v1041 =>
K v1041 w1039)
theorem W_istrconv_FormatInt {a0 a1 : Value} {K : Value → World → Prop} {w : World} (h : S_istrconv_FormatInt a0 a1 K w) : Ret P n_istrconv_FormatInt [a0, a1] w K :=
  vcF_of mixed Tryz.func229 (show S_istrconv_FormatInt a0 a1 K w = vcF P Tryz.f229 [a0, a1] w K from by kernel_rfl) h
/- internal/strconv.small -/
abbrev S_istrconv_small (a0 : Value) (K : Value → World → Prop) (w0 : World) : Prop :=
xLt a0 (.int .i64 10) fun v1000 =>
xIf v1000 (xAdd a0 (.int .i64 1) fun v1001 =>
xCutStr (.string ⟨#[48, 49, 50, 51, 52, 53, 54, 55, 56, 57, 97, 98, 99, 100, 101, 102, 103, 104, 105, 106, 107, 108, 109, 110, 111, 112, 113, 114, 115, 116, 117, 118, 119, 120, 121, 122]⟩) (some a0) (some v1001) fun v1002 =>
K v1002 w0) (xMul a0 (.int .i64 2) fun v1003 =>
xMul a0 (.int .i64 2) fun v1004 =>
xAdd v1004 (.int .i64 2) fun v1005 =>
xCutStr (.string ⟨#[48, 48, 48, 49, 48, 50, 48, 51, 48, 52, 48, 53, 48, 54, 48, 55, 48, 56, 48, 57, 49, 48, 49, 49, 49, 50, 49, 51, 49, 52, 49, 53, 49, 54, 49, 55, 49, 56, 49, 57, 50, 48, 50, 49, 50, 50, 50, 51, 50, 52, 50, 53, 50, 54, 50, 55, 50, 56, 50, 57, 51, 48, 51, 49, 51, 50, 51, 51, 51, 52, 51, 53, 51, 54, 51, 55, 51, 56, 51, 57, 52, 48, 52, 49, 52, 50, 52, 51, 52, 52, 52, 53, 52, 54, 52, 55, 52, 56, 52, 57, 53, 48, 53, 49, 53, 50, 53, 51, 53, 52, 53, 53, 53, 54, 53, 55, 53, 56, 53, 57, 54, 48, 54, 49, 54, 50, 54, 51, 54, 52, 54, 53, 54, 54, 54, 55, 54, 56, 54, 57, 55, 48, 55, 49, 55, 50, 55, 51, 55, 52, 55, 53, 55, 54, 55, 55, 55, 56, 55, 57, 56, 48, 56, 49, 56, 50, 56, 51, 56, 52, 56, 53, 56, 54, 56, 55, 56, 56, 56, 57, 57, 48, 57, 49, 57, 50, 57, 51, 57, 52, 57, 53, 57, 54, 57, 55, 57, 56, 57, 57]⟩) (some v1003) (some v1005) fun v1006 =>
K v1006 w0)
theorem W_istrconv_small {a0 : Value} {K : Value → World → Prop} {w : World} (h : S_istrconv_small a0 K w) : Ret P n_istrconv_small [a0] w K :=
  vcF_of mixed Tryz.func230 (show S_istrconv_small a0 K w = vcF P Tryz.f230 [a0] w K from by kernel_rfl) h
/- internal/strconv.numDigits -/
abbrev S_istrconv_numDigits (a0 : Value) (K : Value → World → Prop) (w0 : World) : Prop :=
Ret P n_bits_Len64 [a0] w0 fun v1000 w1001 =>
Ret P n_istrconv_log10Pow2 [v1000] w1001 fun v1002 w1003 =>
xIxA (.pointer (some ⟨0, 0, none⟩)) v1002 20 1 fun v1004 =>
xAt v1004 fun a1005 =>
XLd w1003 a1005 fun v1006 =>
xGe a0 v1006 fun v1007 =>
Ret P n_istrconv_bool2_int [v1007] w1003 fun v1008 w1009 =>
xAdd v1002 v1008 fun v1010 =>
K v1010 w1009
theorem W_istrconv_numDigits {a0 : Value} {K : Value → World → Prop} {w : World} (h : S_istrconv_numDigits a0 K w) : Ret P n_istrconv_numDigits [a0] w K :=
  vcF_of mixed Tryz.func231 (show S_istrconv_numDigits a0 K w = vcF P Tryz.f231 [a0] w K from by kernel_rfl) h
/- internal/strconv.formatBase10 -/
/- S_istrconv_formatBase10_l1: 0=slot 4 nd 1=slot 1 u 2=slot 5 x3210 3=slot 6 x32 4=slot 7 x10 5=slot 8 x1 6=slot 9 x0 7=slot 10 x3 8=slot 11 x2 -/
def S_istrconv_formatBase10_l1 (K : Value → World → Prop) (a0 : Value) (I1001 : Nat → List Value → World → Prop) (n1002 : Nat) (vs1003 : List Value) (g1004 : Nat → Value) (w1005 : World) : Prop :=
xGe (vs1003.getD 0 undef) (.int .i64 8) fun v1006 =>
xIf v1006 (xRem (vs1003.getD 1 undef) (.int .u64 100000000) fun v1007 =>
xConv .u32 v1007 fun v1008 =>
xQuo (vs1003.getD 1 undef) (.int .u64 100000000) fun v1009 =>
xQuo v1008 (.int .u32 10000) fun v1010 =>
xRem v1008 (.int .u32 10000) fun v1011 =>
xQuo v1011 (.int .u32 100) fun v1012 =>
xMul v1012 (.int .u32 2) fun v1013 =>
xRem v1011 (.int .u32 100) fun v1014 =>
xMul v1014 (.int .u32 2) fun v1015 =>
xQuo v1010 (.int .u32 100) fun v1016 =>
xMul v1016 (.int .u32 2) fun v1017 =>
xRem v1010 (.int .u32 100) fun v1018 =>
xMul v1018 (.int .u32 2) fun v1019 =>
xSub (vs1003.getD 0 undef) (.int .i64 1) fun v1020 =>
xSub (vs1003.getD 0 undef) (.int .i64 2) fun v1021 =>
xAdd v1015 (.int .u32 1) fun v1022 =>
xIxStr (.string ⟨#[48, 48, 48, 49, 48, 50, 48, 51, 48, 52, 48, 53, 48, 54, 48, 55, 48, 56, 48, 57, 49, 48, 49, 49, 49, 50, 49, 51, 49, 52, 49, 53, 49, 54, 49, 55, 49, 56, 49, 57, 50, 48, 50, 49, 50, 50, 50, 51, 50, 52, 50, 53, 50, 54, 50, 55, 50, 56, 50, 57, 51, 48, 51, 49, 51, 50, 51, 51, 51, 52, 51, 53, 51, 54, 51, 55, 51, 56, 51, 57, 52, 48, 52, 49, 52, 50, 52, 51, 52, 52, 52, 53, 52, 54, 52, 55, 52, 56, 52, 57, 53, 48, 53, 49, 53, 50, 53, 51, 53, 52, 53, 53, 53, 54, 53, 55, 53, 56, 53, 57, 54, 48, 54, 49, 54, 50, 54, 51, 54, 52, 54, 53, 54, 54, 54, 55, 54, 56, 54, 57, 55, 48, 55, 49, 55, 50, 55, 51, 55, 52, 55, 53, 55, 54, 55, 55, 55, 56, 55, 57, 56, 48, 56, 49, 56, 50, 56, 51, 56, 52, 56, 53, 56, 54, 56, 55, 56, 56, 56, 57, 57, 48, 57, 49, 57, 50, 57, 51, 57, 52, 57, 53, 57, 54, 57, 55, 57, 56, 57, 57]⟩) v1022 fun v1023 =>
xIxStr (.string ⟨#[48, 48, 48, 49, 48, 50, 48, 51, 48, 52, 48, 53, 48, 54, 48, 55, 48, 56, 48, 57, 49, 48, 49, 49, 49, 50, 49, 51, 49, 52, 49, 53, 49, 54, 49, 55, 49, 56, 49, 57, 50, 48, 50, 49, 50, 50, 50, 51, 50, 52, 50, 53, 50, 54, 50, 55, 50, 56, 50, 57, 51, 48, 51, 49, 51, 50, 51, 51, 51, 52, 51, 53, 51, 54, 51, 55, 51, 56, 51, 57, 52, 48, 52, 49, 52, 50, 52, 51, 52, 52, 52, 53, 52, 54, 52, 55, 52, 56, 52, 57, 53, 48, 53, 49, 53, 50, 53, 51, 53, 52, 53, 53, 53, 54, 53, 55, 53, 56, 53, 57, 54, 48, 54, 49, 54, 50, 54, 51, 54, 52, 54, 53, 54, 54, 54, 55, 54, 56, 54, 57, 55, 48, 55, 49, 55, 50, 55, 51, 55, 52, 55, 53, 55, 54, 55, 55, 55, 56, 55, 57, 56, 48, 56, 49, 56, 50, 56, 51, 56, 52, 56, 53, 56, 54, 56, 55, 56, 56, 56, 57, 57, 48, 57, 49, 57, 50, 57, 51, 57, 52, 57, 53, 57, 54, 57, 55, 57, 56, 57, 57]⟩) v1015 fun v1024 =>
xIxS a0 v1020 1 fun v1025 =>
xAt v1025 fun a1027 =>
XSt w1005.drew a1027 v1023 fun w1026 =>
xIxS a0 v1021 1 fun v1028 =>
xAt v1028 fun a1030 =>
XSt w1026 a1030 v1024 fun w1029 =>
xSub (vs1003.getD 0 undef) (.int .i64 3) fun v1031 =>
xSub (vs1003.getD 0 undef) (.int .i64 4) fun v1032 =>
xAdd v1013 (.int .u32 1) fun v1033 =>
xIxStr (.string ⟨#[48, 48, 48, 49, 48, 50, 48, 51, 48, 52, 48, 53, 48, 54, 48, 55, 48, 56, 48, 57, 49, 48, 49, 49, 49, 50, 49, 51, 49, 52, 49, 53, 49, 54, 49, 55, 49, 56, 49, 57, 50, 48, 50, 49, 50, 50, 50, 51, 50, 52, 50, 53, 50, 54, 50, 55, 50, 56, 50, 57, 51, 48, 51, 49, 51, 50, 51, 51, 51, 52, 51, 53, 51, 54, 51, 55, 51, 56, 51, 57, 52, 48, 52, 49, 52, 50, 52, 51, 52, 52, 52, 53, 52, 54, 52, 55, 52, 56, 52, 57, 53, 48, 53, 49, 53, 50, 53, 51, 53, 52, 53, 53, 53, 54, 53, 55, 53, 56, 53, 57, 54, 48, 54, 49, 54, 50, 54, 51, 54, 52, 54, 53, 54, 54, 54, 55, 54, 56, 54, 57, 55, 48, 55, 49, 55, 50, 55, 51, 55, 52, 55, 53, 55, 54, 55, 55, 55, 56, 55, 57, 56, 48, 56, 49, 56, 50, 56, 51, 56, 52, 56, 53, 56, 54, 56, 55, 56, 56, 56, 57, 57, 48, 57, 49, 57, 50, 57, 51, 57, 52, 57, 53, 57, 54, 57, 55, 57, 56, 57, 57]⟩) v1033 fun v1034 =>
xIxStr (.string ⟨#[48, 48, 48, 49, 48, 50, 48, 51, 48, 52, 48, 53, 48, 54, 48, 55, 48, 56, 48, 57, 49, 48, 49, 49, 49, 50, 49, 51, 49, 52, 49, 53, 49, 54, 49, 55, 49, 56, 49, 57, 50, 48, 50, 49, 50, 50, 50, 51, 50, 52, 50, 53, 50, 54, 50, 55, 50, 56, 50, 57, 51, 48, 51, 49, 51, 50, 51, 51, 51, 52, 51, 53, 51, 54, 51, 55, 51, 56, 51, 57, 52, 48, 52, 49, 52, 50, 52, 51, 52, 52, 52, 53, 52, 54, 52, 55, 52, 56, 52, 57, 53, 48, 53, 49, 53, 50, 53, 51, 53, 52, 53, 53, 53, 54, 53, 55, 53, 56, 53, 57, 54, 48, 54, 49, 54, 50, 54, 51, 54, 52, 54, 53, 54, 54, 54, 55, 54, 56, 54, 57, 55, 48, 55, 49, 55, 50, 55, 51, 55, 52, 55, 53, 55, 54, 55, 55, 55, 56, 55, 57, 56, 48, 56, 49, 56, 50, 56, 51, 56, 52, 56, 53, 56, 54, 56, 55, 56, 56, 56, 57, 57, 48, 57, 49, 57, 50, 57, 51, 57, 52, 57, 53, 57, 54, 57, 55, 57, 56, 57, 57]⟩) v1013 fun v1035 =>
xIxS a0 v1031 1 fun v1036 =>
xAt v1036 fun a1038 =>
XSt w1029.drew a1038 v1034 fun w1037 =>
xIxS a0 v1032 1 fun v1039 =>
xAt v1039 fun a1041 =>
XSt w1037 a1041 v1035 fun w1040 =>
xSub (vs1003.getD 0 undef) (.int .i64 5) fun v1042 =>
xSub (vs1003.getD 0 undef) (.int .i64 6) fun v1043 =>
xAdd v1019 (.int .u32 1) fun v1044 =>
xIxStr (.string ⟨#[48, 48, 48, 49, 48, 50, 48, 51, 48, 52, 48, 53, 48, 54, 48, 55, 48, 56, 48, 57, 49, 48, 49, 49, 49, 50, 49, 51, 49, 52, 49, 53, 49, 54, 49, 55, 49, 56, 49, 57, 50, 48, 50, 49, 50, 50, 50, 51, 50, 52, 50, 53, 50, 54, 50, 55, 50, 56, 50, 57, 51, 48, 51, 49, 51, 50, 51, 51, 51, 52, 51, 53, 51, 54, 51, 55, 51, 56, 51, 57, 52, 48, 52, 49, 52, 50, 52, 51, 52, 52, 52, 53, 52, 54, 52, 55, 52, 56, 52, 57, 53, 48, 53, 49, 53, 50, 53, 51, 53, 52, 53, 53, 53, 54, 53, 55, 53, 56, 53, 57, 54, 48, 54, 49, 54, 50, 54, 51, 54, 52, 54, 53, 54, 54, 54, 55, 54, 56, 54, 57, 55, 48, 55, 49, 55, 50, 55, 51, 55, 52, 55, 53, 55, 54, 55, 55, 55, 56, 55, 57, 56, 48, 56, 49, 56, 50, 56, 51, 56, 52, 56, 53, 56, 54, 56, 55, 56, 56, 56, 57, 57, 48, 57, 49, 57, 50, 57, 51, 57, 52, 57, 53, 57, 54, 57, 55, 57, 56, 57, 57]⟩) v1044 fun v1045 =>
xIxStr (.string ⟨#[48, 48, 48, 49, 48, 50, 48, 51, 48, 52, 48, 53, 48, 54, 48, 55, 48, 56, 48, 57, 49, 48, 49, 49, 49, 50, 49, 51, 49, 52, 49, 53, 49, 54, 49, 55, 49, 56, 49, 57, 50, 48, 50, 49, 50, 50, 50, 51, 50, 52, 50, 53, 50, 54, 50, 55, 50, 56, 50, 57, 51, 48, 51, 49, 51, 50, 51, 51, 51, 52, 51, 53, 51, 54, 51, 55, 51, 56, 51, 57, 52, 48, 52, 49, 52, 50, 52, 51, 52, 52, 52, 53, 52, 54, 52, 55, 52, 56, 52, 57, 53, 48, 53, 49, 53, 50, 53, 51, 53, 52, 53, 53, 53, 54, 53, 55, 53, 56, 53, 57, 54, 48, 54, 49, 54, 50, 54, 51, 54, 52, 54, 53, 54, 54, 54, 55, 54, 56, 54, 57, 55, 48, 55, 49, 55, 50, 55, 51, 55, 52, 55, 53, 55, 54, 55, 55, 55, 56, 55, 57, 56, 48, 56, 49, 56, 50, 56, 51, 56, 52, 56, 53, 56, 54, 56, 55, 56, 56, 56, 57, 57, 48, 57, 49, 57, 50, 57, 51, 57, 52, 57, 53, 57, 54, 57, 55, 57, 56, 57, 57]⟩) v1019 fun v1046 =>
xIxS a0 v1042 1 fun v1047 =>
xAt v1047 fun a1049 =>
XSt w1040.drew a1049 v1045 fun w1048 =>
xIxS a0 v1043 1 fun v1050 =>
xAt v1050 fun a1052 =>
XSt w1048 a1052 v1046 fun w1051 =>
xSub (vs1003.getD 0 undef) (.int .i64 7) fun v1053 =>
xSub (vs1003.getD 0 undef) (.int .i64 8) fun v1054 =>
xAdd v1017 (.int .u32 1) fun v1055 =>
xIxStr (.string ⟨#[48, 48, 48, 49, 48, 50, 48, 51, 48, 52, 48, 53, 48, 54, 48, 55, 48, 56, 48, 57, 49, 48, 49, 49, 49, 50, 49, 51, 49, 52, 49, 53, 49, 54, 49, 55, 49, 56, 49, 57, 50, 48, 50, 49, 50, 50, 50, 51, 50, 52, 50, 53, 50, 54, 50, 55, 50, 56, 50, 57, 51, 48, 51, 49, 51, 50, 51, 51, 51, 52, 51, 53, 51, 54, 51, 55, 51, 56, 51, 57, 52, 48, 52, 49, 52, 50, 52, 51, 52, 52, 52, 53, 52, 54, 52, 55, 52, 56, 52, 57, 53, 48, 53, 49, 53, 50, 53, 51, 53, 52, 53, 53, 53, 54, 53, 55, 53, 56, 53, 57, 54, 48, 54, 49, 54, 50, 54, 51, 54, 52, 54, 53, 54, 54, 54, 55, 54, 56, 54, 57, 55, 48, 55, 49, 55, 50, 55, 51, 55, 52, 55, 53, 55, 54, 55, 55, 55, 56, 55, 57, 56, 48, 56, 49, 56, 50, 56, 51, 56, 52, 56, 53, 56, 54, 56, 55, 56, 56, 56, 57, 57, 48, 57, 49, 57, 50, 57, 51, 57, 52, 57, 53, 57, 54, 57, 55, 57, 56, 57, 57]⟩) v1055 fun v1056 =>
xIxStr (.string ⟨#[48, 48, 48, 49, 48, 50, 48, 51, 48, 52, 48, 53, 48, 54, 48, 55, 48, 56, 48, 57, 49, 48, 49, 49, 49, 50, 49, 51, 49, 52, 49, 53, 49, 54, 49, 55, 49, 56, 49, 57, 50, 48, 50, 49, 50, 50, 50, 51, 50, 52, 50, 53, 50, 54, 50, 55, 50, 56, 50, 57, 51, 48, 51, 49, 51, 50, 51, 51, 51, 52, 51, 53, 51, 54, 51, 55, 51, 56, 51, 57, 52, 48, 52, 49, 52, 50, 52, 51, 52, 52, 52, 53, 52, 54, 52, 55, 52, 56, 52, 57, 53, 48, 53, 49, 53, 50, 53, 51, 53, 52, 53, 53, 53, 54, 53, 55, 53, 56, 53, 57, 54, 48, 54, 49, 54, 50, 54, 51, 54, 52, 54, 53, 54, 54, 54, 55, 54, 56, 54, 57, 55, 48, 55, 49, 55, 50, 55, 51, 55, 52, 55, 53, 55, 54, 55, 55, 55, 56, 55, 57, 56, 48, 56, 49, 56, 50, 56, 51, 56, 52, 56, 53, 56, 54, 56, 55, 56, 56, 56, 57, 57, 48, 57, 49, 57, 50, 57, 51, 57, 52, 57, 53, 57, 54, 57, 55, 57, 56, 57, 57]⟩) v1017 fun v1057 =>
xIxS a0 v1053 1 fun v1058 =>
xAt v1058 fun a1060 =>
XSt w1051.drew a1060 v1056 fun w1059 =>
xIxS a0 v1054 1 fun v1061 =>
xAt v1061 fun a1063 =>
XSt w1059 a1063 v1057 fun w1062 =>
xSub (vs1003.getD 0 undef) (.int .i64 8) fun v1064 =>
XNext I1001 n1002 [v1064, v1009, v1008, v1010, v1011, v1013, v1015, v1017, v1019] w1062) (xConv .u32 (vs1003.getD 1 undef) fun v1065 =>
/- 0 x10 1 x 2 x1 3 x0 4 nd -/ XJ (fun J1066 =>
xGe (vs1003.getD 0 undef) (.int .i64 4) fun v1070 =>
xIf v1070 (xRem v1065 (.int .u32 10000) fun v1071 =>
xQuo v1065 (.int .u32 10000) fun v1072 =>
xQuo v1071 (.int .u32 100) fun v1073 =>
xMul v1073 (.int .u32 2) fun v1074 =>
xRem v1071 (.int .u32 100) fun v1075 =>
xMul v1075 (.int .u32 2) fun v1076 =>
xSub (vs1003.getD 0 undef) (.int .i64 1) fun v1077 =>
xSub (vs1003.getD 0 undef) (.int .i64 2) fun v1078 =>
xAdd v1076 (.int .u32 1) fun v1079 =>
xIxStr (.string ⟨#[48, 48, 48, 49, 48, 50, 48, 51, 48, 52, 48, 53, 48, 54, 48, 55, 48, 56, 48, 57, 49, 48, 49, 49, 49, 50, 49, 51, 49, 52, 49, 53, 49, 54, 49, 55, 49, 56, 49, 57, 50, 48, 50, 49, 50, 50, 50, 51, 50, 52, 50, 53, 50, 54, 50, 55, 50, 56, 50, 57, 51, 48, 51, 49, 51, 50, 51, 51, 51, 52, 51, 53, 51, 54, 51, 55, 51, 56, 51, 57, 52, 48, 52, 49, 52, 50, 52, 51, 52, 52, 52, 53, 52, 54, 52, 55, 52, 56, 52, 57, 53, 48, 53, 49, 53, 50, 53, 51, 53, 52, 53, 53, 53, 54, 53, 55, 53, 56, 53, 57, 54, 48, 54, 49, 54, 50, 54, 51, 54, 52, 54, 53, 54, 54, 54, 55, 54, 56, 54, 57, 55, 48, 55, 49, 55, 50, 55, 51, 55, 52, 55, 53, 55, 54, 55, 55, 55, 56, 55, 57, 56, 48, 56, 49, 56, 50, 56, 51, 56, 52, 56, 53, 56, 54, 56, 55, 56, 56, 56, 57, 57, 48, 57, 49, 57, 50, 57, 51, 57, 52, 57, 53, 57, 54, 57, 55, 57, 56, 57, 57]⟩) v1079 fun v1080 =>
xIxStr (.string ⟨#[48, 48, 48, 49, 48, 50, 48, 51, 48, 52, 48, 53, 48, 54, 48, 55, 48, 56, 48, 57, 49, 48, 49, 49, 49, 50, 49, 51, 49, 52, 49, 53, 49, 54, 49, 55, 49, 56, 49, 57, 50, 48, 50, 49, 50, 50, 50, 51, 50, 52, 50, 53, 50, 54, 50, 55, 50, 56, 50, 57, 51, 48, 51, 49, 51, 50, 51, 51, 51, 52, 51, 53, 51, 54, 51, 55, 51, 56, 51, 57, 52, 48, 52, 49, 52, 50, 52, 51, 52, 52, 52, 53, 52, 54, 52, 55, 52, 56, 52, 57, 53, 48, 53, 49, 53, 50, 53, 51, 53, 52, 53, 53, 53, 54, 53, 55, 53, 56, 53, 57, 54, 48, 54, 49, 54, 50, 54, 51, 54, 52, 54, 53, 54, 54, 54, 55, 54, 56, 54, 57, 55, 48, 55, 49, 55, 50, 55, 51, 55, 52, 55, 53, 55, 54, 55, 55, 55, 56, 55, 57, 56, 48, 56, 49, 56, 50, 56, 51, 56, 52, 56, 53, 56, 54, 56, 55, 56, 56, 56, 57, 57, 48, 57, 49, 57, 50, 57, 51, 57, 52, 57, 53, 57, 54, 57, 55, 57, 56, 57, 57]⟩) v1076 fun v1081 =>
xIxS a0 v1077 1 fun v1082 =>
xAt v1082 fun a1084 =>
XSt w1005.drew a1084 v1080 fun w1083 =>
xIxS a0 v1078 1 fun v1085 =>
xAt v1085 fun a1087 =>
XSt w1083 a1087 v1081 fun w1086 =>
xSub (vs1003.getD 0 undef) (.int .i64 3) fun v1088 =>
xSub (vs1003.getD 0 undef) (.int .i64 4) fun v1089 =>
xAdd v1074 (.int .u32 1) fun v1090 =>
xIxStr (.string ⟨#[48, 48, 48, 49, 48, 50, 48, 51, 48, 52, 48, 53, 48, 54, 48, 55, 48, 56, 48, 57, 49, 48, 49, 49, 49, 50, 49, 51, 49, 52, 49, 53, 49, 54, 49, 55, 49, 56, 49, 57, 50, 48, 50, 49, 50, 50, 50, 51, 50, 52, 50, 53, 50, 54, 50, 55, 50, 56, 50, 57, 51, 48, 51, 49, 51, 50, 51, 51, 51, 52, 51, 53, 51, 54, 51, 55, 51, 56, 51, 57, 52, 48, 52, 49, 52, 50, 52, 51, 52, 52, 52, 53, 52, 54, 52, 55, 52, 56, 52, 57, 53, 48, 53, 49, 53, 50, 53, 51, 53, 52, 53, 53, 53, 54, 53, 55, 53, 56, 53, 57, 54, 48, 54, 49, 54, 50, 54, 51, 54, 52, 54, 53, 54, 54, 54, 55, 54, 56, 54, 57, 55, 48, 55, 49, 55, 50, 55, 51, 55, 52, 55, 53, 55, 54, 55, 55, 55, 56, 55, 57, 56, 48, 56, 49, 56, 50, 56, 51, 56, 52, 56, 53, 56, 54, 56, 55, 56, 56, 56, 57, 57, 48, 57, 49, 57, 50, 57, 51, 57, 52, 57, 53, 57, 54, 57, 55, 57, 56, 57, 57]⟩) v1090 fun v1091 =>
xIxStr (.string ⟨#[48, 48, 48, 49, 48, 50, 48, 51, 48, 52, 48, 53, 48, 54, 48, 55, 48, 56, 48, 57, 49, 48, 49, 49, 49, 50, 49, 51, 49, 52, 49, 53, 49, 54, 49, 55, 49, 56, 49, 57, 50, 48, 50, 49, 50, 50, 50, 51, 50, 52, 50, 53, 50, 54, 50, 55, 50, 56, 50, 57, 51, 48, 51, 49, 51, 50, 51, 51, 51, 52, 51, 53, 51, 54, 51, 55, 51, 56, 51, 57, 52, 48, 52, 49, 52, 50, 52, 51, 52, 52, 52, 53, 52, 54, 52, 55, 52, 56, 52, 57, 53, 48, 53, 49, 53, 50, 53, 51, 53, 52, 53, 53, 53, 54, 53, 55, 53, 56, 53, 57, 54, 48, 54, 49, 54, 50, 54, 51, 54, 52, 54, 53, 54, 54, 54, 55, 54, 56, 54, 57, 55, 48, 55, 49, 55, 50, 55, 51, 55, 52, 55, 53, 55, 54, 55, 55, 55, 56, 55, 57, 56, 48, 56, 49, 56, 50, 56, 51, 56, 52, 56, 53, 56, 54, 56, 55, 56, 56, 56, 57, 57, 48, 57, 49, 57, 50, 57, 51, 57, 52, 57, 53, 57, 54, 57, 55, 57, 56, 57, 57]⟩) v1074 fun v1092 =>
xIxS a0 v1088 1 fun v1093 =>
xAt v1093 fun a1095 =>
XSt w1086.drew a1095 v1091 fun w1094 =>
xIxS a0 v1089 1 fun v1096 =>
xAt v1096 fun a1098 =>
XSt w1094 a1098 v1092 fun w1097 =>
xSub (vs1003.getD 0 undef) (.int .i64 4) fun v1099 =>
J1066 [v1071, v1072, v1074, v1076, v1099] w1097) (J1066 [undef, v1065, undef, undef, (vs1003.getD 0 undef)] w1005)) fun vs1067 g1068 w1069 =>
/- 0 x0 1 x 2 nd -/ XJ (fun J1100 =>
xGe (vs1067.getD 4 undef) (.int .i64 2) fun v1104 =>
xIf v1104 (xRem (vs1067.getD 1 undef) (.int .u32 100) fun v1105 =>
xMul v1105 (.int .u32 2) fun v1106 =>
xQuo (vs1067.getD 1 undef) (.int .u32 100) fun v1107 =>
xSub (vs1067.getD 4 undef) (.int .i64 1) fun v1108 =>
xSub (vs1067.getD 4 undef) (.int .i64 2) fun v1109 =>
xAdd v1106 (.int .u32 1) fun v1110 =>
xIxStr (.string ⟨#[48, 48, 48, 49, 48, 50, 48, 51, 48, 52, 48, 53, 48, 54, 48, 55, 48, 56, 48, 57, 49, 48, 49, 49, 49, 50, 49, 51, 49, 52, 49, 53, 49, 54, 49, 55, 49, 56, 49, 57, 50, 48, 50, 49, 50, 50, 50, 51, 50, 52, 50, 53, 50, 54, 50, 55, 50, 56, 50, 57, 51, 48, 51, 49, 51, 50, 51, 51, 51, 52, 51, 53, 51, 54, 51, 55, 51, 56, 51, 57, 52, 48, 52, 49, 52, 50, 52, 51, 52, 52, 52, 53, 52, 54, 52, 55, 52, 56, 52, 57, 53, 48, 53, 49, 53, 50, 53, 51, 53, 52, 53, 53, 53, 54, 53, 55, 53, 56, 53, 57, 54, 48, 54, 49, 54, 50, 54, 51, 54, 52, 54, 53, 54, 54, 54, 55, 54, 56, 54, 57, 55, 48, 55, 49, 55, 50, 55, 51, 55, 52, 55, 53, 55, 54, 55, 55, 55, 56, 55, 57, 56, 48, 56, 49, 56, 50, 56, 51, 56, 52, 56, 53, 56, 54, 56, 55, 56, 56, 56, 57, 57, 48, 57, 49, 57, 50, 57, 51, 57, 52, 57, 53, 57, 54, 57, 55, 57, 56, 57, 57]⟩) v1110 fun v1111 =>
xIxStr (.string ⟨#[48, 48, 48, 49, 48, 50, 48, 51, 48, 52, 48, 53, 48, 54, 48, 55, 48, 56, 48, 57, 49, 48, 49, 49, 49, 50, 49, 51, 49, 52, 49, 53, 49, 54, 49, 55, 49, 56, 49, 57, 50, 48, 50, 49, 50, 50, 50, 51, 50, 52, 50, 53, 50, 54, 50, 55, 50, 56, 50, 57, 51, 48, 51, 49, 51, 50, 51, 51, 51, 52, 51, 53, 51, 54, 51, 55, 51, 56, 51, 57, 52, 48, 52, 49, 52, 50, 52, 51, 52, 52, 52, 53, 52, 54, 52, 55, 52, 56, 52, 57, 53, 48, 53, 49, 53, 50, 53, 51, 53, 52, 53, 53, 53, 54, 53, 55, 53, 56, 53, 57, 54, 48, 54, 49, 54, 50, 54, 51, 54, 52, 54, 53, 54, 54, 54, 55, 54, 56, 54, 57, 55, 48, 55, 49, 55, 50, 55, 51, 55, 52, 55, 53, 55, 54, 55, 55, 55, 56, 55, 57, 56, 48, 56, 49, 56, 50, 56, 51, 56, 52, 56, 53, 56, 54, 56, 55, 56, 56, 56, 57, 57, 48, 57, 49, 57, 50, 57, 51, 57, 52, 57, 53, 57, 54, 57, 55, 57, 56, 57, 57]⟩) v1106 fun v1112 =>
xIxS a0 v1108 1 fun v1113 =>
xAt v1113 fun a1115 =>
XSt w1069.drew a1115 v1111 fun w1114 =>
xIxS a0 v1109 1 fun v1116 =>
xAt v1116 fun a1118 =>
XSt w1114 a1118 v1112 fun w1117 =>
xSub (vs1067.getD 4 undef) (.int .i64 2) fun v1119 =>
J1100 [v1106, v1107, v1119] w1117) (J1100 [undef, (vs1067.getD 1 undef), (vs1067.getD 4 undef)] w1069)) fun vs1101 g1102 w1103 =>
xGt (vs1101.getD 2 undef) (.int .i64 0) fun v1120 =>
xIf v1120 (xAdd (.int .u32 48) (vs1101.getD 1 undef) fun v1121 =>
xConv .u8 v1121 fun v1122 =>
xIxS a0 (.int .i64 0) 1 fun v1123 =>
xAt v1123 fun a1125 =>
XSt w1103 a1125 v1122 fun w1124 =>
K (.tuple #[]) w1124) (K (.tuple #[]) w1103))
abbrev S_istrconv_formatBase10 (a0 : Value) (a1 : Value) (K : Value → World → Prop) (w0 : World) : Prop :=
xLen a0 fun v1000 =>
XLoop [v1000, a1, undef, undef, undef, undef, undef, undef, undef] w0 (S_istrconv_formatBase10_l1 K a0)
theorem W_istrconv_formatBase10 {a0 a1 : Value} {K : Value → World → Prop} {w : World} (h : S_istrconv_formatBase10 a0 a1 K w) : Ret P n_istrconv_formatBase10 [a0, a1] w K :=
  vcF_of mixed Tryz.func232 (show S_istrconv_formatBase10 a0 a1 K w = vcF P Tryz.f232 [a0, a1] w K from by kernel_rfl) h
/- internal/strconv.formatBits -/
/- S_istrconv_formatBits_l1: 0=slot 1 u 1=slot 13 i -/
def S_istrconv_formatBits_l1 (a1011 : Addr) (J1018 : List Value → World → Prop) (v1027 : Value) (v1028 : Value) (v1030 : Value) (I1031 : Nat → List Value → World → Prop) (n1032 : Nat) (vs1033 : List Value) (g1034 : Nat → Value) (w1035 : World) : Prop :=
xGe (vs1033.getD 0 undef) v1028 fun v1036 =>
xIf v1036 (xSub (vs1033.getD 1 undef) (.int .i64 1) fun v1037 =>
xAnd (vs1033.getD 0 undef) v1030 fun v1038 =>
xIxStr (.string ⟨#[48, 49, 50, 51, 52, 53, 54, 55, 56, 57, 97, 98, 99, 100, 101, 102, 103, 104, 105, 106, 107, 108, 109, 110, 111, 112, 113, 114, 115, 116, 117, 118, 119, 120, 121, 122]⟩) v1038 fun v1039 =>
xIxA (.pointer (some a1011)) v1037 65 1 fun v1040 =>
xAt v1040 fun a1042 =>
XSt w1035 a1042 v1039 fun w1041 =>
xShr (vs1033.getD 0 undef) v1027 fun v1043 =>
XNext I1031 n1032 [v1043, v1037] w1041) (xSub (vs1033.getD 1 undef) (.int .i64 1) fun v1044 =>
xIxStr (.string ⟨#[48, 49, 50, 51, 52, 53, 54, 55, 56, 57, 97, 98, 99, 100, 101, 102, 103, 104, 105, 106, 107, 108, 109, 110, 111, 112, 113, 114, 115, 116, 117, 118, 119, 120, 121, 122]⟩) (vs1033.getD 0 undef) fun v1045 =>
xIxA (.pointer (some a1011)) v1044 65 1 fun v1046 =>
xAt v1046 fun a1048 =>
XSt w1035 a1048 v1045 fun w1047 =>
J1018 [v1027, v1028, v1030, v1044, (vs1033.getD 0 undef), undef, undef] w1047)
/- S_istrconv_formatBits_l2: 0=slot 1 u 1=slot 13 i 2=slot 18 q -/
def S_istrconv_formatBits_l2 (a1011 : Addr) (J1018 : List Value → World → Prop) (v1049 : Value) (I1050 : Nat → List Value → World → Prop) (n1051 : Nat) (vs1052 : List Value) (g1053 : Nat → Value) (w1054 : World) : Prop :=
xGe (vs1052.getD 0 undef) v1049 fun v1055 =>
xIf v1055 (xSub (vs1052.getD 1 undef) (.int .i64 1) fun v1056 =>
xQuo (vs1052.getD 0 undef) v1049 fun v1057 =>
xMul v1057 v1049 fun v1058 =>
xSub (vs1052.getD 0 undef) v1058 fun v1059 =>
xIxStr (.string ⟨#[48, 49, 50, 51, 52, 53, 54, 55, 56, 57, 97, 98, 99, 100, 101, 102, 103, 104, 105, 106, 107, 108, 109, 110, 111, 112, 113, 114, 115, 116, 117, 118, 119, 120, 121, 122]⟩) v1059 fun v1060 =>
xIxA (.pointer (some a1011)) v1056 65 1 fun v1061 =>
xAt v1061 fun a1063 =>
XSt w1054 a1063 v1060 fun w1062 =>
XNext I1050 n1051 [v1057, v1056, v1057] w1062) (xSub (vs1052.getD 1 undef) (.int .i64 1) fun v1064 =>
xIxStr (.string ⟨#[48, 49, 50, 51, 52, 53, 54, 55, 56, 57, 97, 98, 99, 100, 101, 102, 103, 104, 105, 106, 107, 108, 109, 110, 111, 112, 113, 114, 115, 116, 117, 118, 119, 120, 121, 122]⟩) (vs1052.getD 0 undef) fun v1065 =>
xIxA (.pointer (some a1011)) v1064 65 1 fun v1066 =>
xAt v1066 fun a1068 =>
XSt w1054 a1068 v1065 fun w1067 =>
J1018 [undef, undef, undef, v1064, (vs1052.getD 0 undef), v1049, (vs1052.getD 2 undef)] w1067)
abbrev S_istrconv_formatBits (a0 : Value) (a1 : Value) (a2 : Value) (a3 : Value) (a4 : Value) (K : Value → World → Prop) (w0 : World) : Prop :=
/-  -/ XJ (fun J1000 =>
/- 0 -/ XJ (fun J1004 =>
xLt a2 (.int .i64 2) fun v1008 =>
xIf v1008 (J1004 [(.bool true)] w0) (xEq a2 (.int .i64 10) fun v1009 =>
xIf v1009 (J1004 [(.bool true)] w0) (xGt a2 (.int .i64 36) fun v1010 =>
J1004 [v1010] w0))) fun vs1005 g1006 w1007 =>
xIf (vs1005.getD 0 undef) (False) (J1000 [] w1007)) fun vs1001 g1002 w1003 =>
XNew w1003 z_a65_uint8 336 fun a1011 w1012 =>
/- 0 u -/ XJ (fun J1013 =>
xIf a3 (xNeg a1 fun v1017 =>
J1013 [v1017] w1012) (J1013 [a1] w1012)) fun vs1014 g1015 w1016 =>
/- 0 shift 1 b 2 m 3 i 4 u 5 b 6 q -/ XJ (fun J1018 =>
Ret P n_istrconv_isPowerOfTwo [a2] w1016 fun v1022 w1023 =>
xIf v1022 (xConv .u64 a2 fun v1024 =>
Ret P n_bits_TrailingZeros [v1024] w1023 fun v1025 w1026 =>
xConv .u64 v1025 fun v1027 =>
xConv .u64 a2 fun v1028 =>
xConv .u64 a2 fun v1029 =>
xSub v1029 (.int .u64 1) fun v1030 =>
XLoop [(vs1014.getD 0 undef), (.int .i64 65)] w1026 (S_istrconv_formatBits_l1 a1011 J1018 v1027 v1028 v1030)) (xConv .u64 a2 fun v1049 =>
XLoop [(vs1014.getD 0 undef), (.int .i64 65), undef] w1023 (S_istrconv_formatBits_l2 a1011 J1018 v1049))) fun vs1019 g1020 w1021 =>
/- 0 i -/ XJ (fun J1069 =>
xIf a3 (xSub (vs1019.getD 3 undef) (.int .i64 1) fun v1073 =>
xIxA (.pointer (some a1011)) v1073 65 1 fun v1074 =>
xAt v1074 fun a1076 =>
XSt w1021 a1076 (.int .u8 45) fun w1075 =>
J1069 [v1073] w1075) (J1069 [(vs1019.getD 3 undef)] w1021)) fun vs1070 g1071 w1072 =>
xIf a4 (xCutA 65 1 (.pointer (some a1011)) (some (vs1070.getD 0 undef)) none none fun v1077 =>
XRun P (Builtin.append_ #[41, 41] 41 #[a0, v1077]) w1072 fun v1078 w1079 =>
K (.tuple #[v1078, (.string ⟨#[]⟩)]) w1079) (xCutA 65 1 (.pointer (some a1011)) (some (vs1070.getD 0 undef)) none none fun v1080 =>
XRun P (convert 41 9 v1080) w1072 fun v1081 w1082 =>
K (.tuple #[(.slice none 0 0), v1081]) w1082)
theorem W_istrconv_formatBits {a0 a1 a2 a3 a4 : Value} {K : Value → World → Prop} {w : World} (h : S_istrconv_formatBits a0 a1 a2 a3 a4 K w) : Ret P n_istrconv_formatBits [a0, a1, a2, a3, a4] w K :=
  vcF_of mixed Tryz.func233 (show S_istrconv_formatBits a0 a1 a2 a3 a4 K w = vcF P Tryz.f233 [a0, a1, a2, a3, a4] w K from by kernel_rfl) h
/- (*spunyarn/small.Row[*spunyarn/node.Node]).Next -/
abbrev S_small_Row_Next (a0 : Value) (a1 : Value) (K : Value → World → Prop) (w0 : World) : Prop :=
/- 0 -/ XJ (fun J1000 =>
Ret P n_small_Row_ok [a0] w0 fun v1004 w1005 =>
xNot v1004 fun v1006 =>
xIf v1006 (J1000 [(.bool true)] w1005) (xGt a1 (.int .i64 255) fun v1007 =>
J1000 [v1007] w1005)) fun vs1001 g1002 w1003 =>
xIf (vs1001.getD 0 undef) (K (.tuple #[(.int .u8 0), (.pointer none), (.bool false)]) w1003) (xMax a1 (.int .i64 0) fun v1008 =>
xConv .u8 v1008 fun v1009 =>
Ret P n_small_Row_place [a0, v1009] w1003 fun v1010 w1011 =>
xTup v1010 0 fun v1012 =>
xTup v1010 1 fun v1013 =>
Ret P n_small_Row_at [a0, v1012] w1011 fun v1014 w1015 =>
xTup v1014 0 fun v1016 =>
xTup v1014 1 fun v1017 =>
xTup v1014 2 fun v1018 =>
K (.tuple #[v1016, v1017, v1018]) w1015)
theorem W_small_Row_Next {a0 a1 : Value} {K : Value → World → Prop} {w : World} (h : S_small_Row_Next a0 a1 K w) : Ret P n_small_Row_Next [a0, a1] w K :=
  vcF_of mixed Tryz.func234 (show S_small_Row_Next a0 a1 K w = vcF P Tryz.f234 [a0, a1] w K from by kernel_rfl) h
/- (*spunyarn/wide.Board[*spunyarn/node.Node]).Next -/
/- S_wide_Board_Next_l1: 0=slot 7 b 1=slot 8 x 2=slot 9 is 3=slot 4 4=slot 5 5=slot 6 -/
def S_wide_Board_Next_l1 (K : Value → World → Prop) (a0 : Value) (J1000 : List Value → World → Prop) (I1007 : Nat → List Value → World → Prop) (n1008 : Nat) (vs1009 : List Value) (g1010 : Nat → Value) (w1011 : World) : Prop :=
xLt (vs1009.getD 0 undef) (.int .i64 256) fun v1012 =>
xIf v1012 (xConv .u8 (vs1009.getD 0 undef) fun v1013 =>
Ret P n_wide_Board_Get [a0, v1013] w1011 fun v1014 w1015 =>
xTup v1014 0 fun v1016 =>
xTup v1014 1 fun v1017 =>
xIf v1017 (xConv .u8 (vs1009.getD 0 undef) fun v1018 =>
K (.tuple #[v1018, v1016, (.bool true)]) w1015) (xAdd (vs1009.getD 0 undef) (.int .i64 1) fun v1019 =>
XNext I1007 n1008 [v1019, v1016, v1017, (vs1009.getD 3 undef), (vs1009.getD 4 undef), (vs1009.getD 5 undef)] w1015)) (J1000 [(vs1009.getD 0 undef), (vs1009.getD 1 undef), (vs1009.getD 2 undef), (vs1009.getD 3 undef), (vs1009.getD 4 undef), (vs1009.getD 5 undef)] w1011)
abbrev S_wide_Board_Next (a0 : Value) (a1 : Value) (K : Value → World → Prop) (w0 : World) : Prop :=
/- 0 b 1 x 2 is 3 4 5 -/ XJ (fun J1000 =>
Ret P n_wide_Board_ok [a0] w0 fun v1004 w1005 =>
xIf v1004 (xMax a1 (.int .i64 0) fun v1006 =>
XLoop [v1006, undef, undef, (.int .u8 0), (.pointer none), (.bool false)] w1005 (S_wide_Board_Next_l1 K a0 J1000)) (J1000 [undef, undef, undef, (.int .u8 0), (.pointer none), (.bool false)] w1005)) fun vs1001 g1002 w1003 =>
K (.tuple #[(.int .u8 0), (.pointer none), (.bool false)]) w1003
theorem W_wide_Board_Next {a0 a1 : Value} {K : Value → World → Prop} {w : World} (h : S_wide_Board_Next a0 a1 K w) : Ret P n_wide_Board_Next [a0, a1] w K :=
  vcF_of mixed Tryz.func235 (show S_wide_Board_Next a0 a1 K w = vcF P Tryz.f235 [a0, a1] w K from by kernel_rfl) h
/- (*spunyarn/small.Row[*spunyarn/node.Node]).ok -/
abbrev S_small_Row_ok (a0 : Value) (K : Value → World → Prop) (w0 : World) : Prop :=
/- 0 -/ XJ (fun J1000 =>
xPNe P w0 a0 (.pointer none) fun v1004 =>
xIf v1004 (xAt a0 fun a1005 =>
XLd w0 (a1005.add 0) fun v1006 =>
xGt v1006 (.int .i64 0) fun v1007 =>
J1000 [v1007] w0) (J1000 [(.bool false)] w0)) fun vs1001 g1002 w1003 =>
K (vs1001.getD 0 undef) w1003
theorem W_small_Row_ok {a0 : Value} {K : Value → World → Prop} {w : World} (h : S_small_Row_ok a0 K w) : Ret P n_small_Row_ok [a0] w K :=
  vcF_of mixed Tryz.func236 (show S_small_Row_ok a0 K w = vcF P Tryz.f236 [a0] w K from by kernel_rfl) h
/- (*spunyarn/wide.Board[*spunyarn/node.Node]).ok -/
abbrev S_wide_Board_ok (a0 : Value) (K : Value → World → Prop) (w0 : World) : Prop :=
/- 0 -/ XJ (fun J1000 =>
xPNe P w0 a0 (.pointer none) fun v1004 =>
xIf v1004 (xAt a0 fun a1005 =>
XLd w0 (a1005.add 0) fun v1006 =>
xGt v1006 (.int .i64 0) fun v1007 =>
J1000 [v1007] w0) (J1000 [(.bool false)] w0)) fun vs1001 g1002 w1003 =>
K (vs1001.getD 0 undef) w1003
theorem W_wide_Board_ok {a0 : Value} {K : Value → World → Prop} {w : World} (h : S_wide_Board_ok a0 K w) : Ret P n_wide_Board_ok [a0] w K :=
  vcF_of mixed Tryz.func237 (show S_wide_Board_ok a0 K w = vcF P Tryz.f237 [a0] w K from by kernel_rfl) h
/- (spunyarn/del.taker).lift -/
abbrev S_del_taker_lift (a0 : Value) (a1 : Value) (a2 : Value) (a3 : Value) (K : Value → World → Prop) (w0 : World) : Prop :=
XNew w0 (cellsV a0) 240 fun a1000 w1001 =>
XLd w1001 (a1000.add 1) fun v1002 =>
XLd w1001 (a1000.add 0) fun v1003 =>
Ret P n_node_Node_Own [a3, v1002, v1003] w1001 fun v1004 w1005 =>
XLd w1005.drew (a1000.add 0) fun v1006 =>
(Ret P n_node_Node_Part [a1] w1005.drew fun v1007 w1008 =>
xKeep1 w1008 (.pointer (some (a1000.add 0))) v1006 ∧ ((xFill (repL [(.int .u8 0)] 1) [(0, 1, a2)] fun c1009 =>
XNew w1008 c1009 5 fun a1010 w1011 =>
xKeep1 w1011 (.pointer (some (a1000.add 0))) v1006 ∧ (Ret P n_node_Node_Part [a3] w1011 fun v1012 w1013 =>
xKeep1 w1013 (.pointer (some (a1000.add 0))) v1006 ∧ (xFill (repL [(.slice none 0 0)] 3) [(0, 1, v1007), (1, 1, (.slice (some a1010) 1 1)), (2, 1, v1012)] fun c1014 =>
XNew w1013 c1014 41 fun a1015 w1016 =>
xKeep1 w1016 (.pointer (some (a1000.add 0))) v1006 ∧ (Ret P n_del_join [(.slice (some a1015) 3 3)] w1016 fun v1017 w1018 =>
xKeep1 w1018 (.pointer (some (a1000.add 0))) v1006 ∧ (Ret P n_node_Node_SetPart [v1004, v1006, v1017] w1018 fun v1019 w1020 =>
K v1004 w1020))))) ∧ (Ret P n_node_Node_Part [a3] w1008 fun v1021 w1022 =>
xKeep1 w1022 (.pointer (some (a1000.add 0))) v1006 ∧ (xFill (repL [(.int .u8 0)] 1) [(0, 1, a2)] fun c1023 =>
XNew w1022 c1023 5 fun a1024 w1025 =>
xKeep1 w1025 (.pointer (some (a1000.add 0))) v1006 ∧ (xFill (repL [(.slice none 0 0)] 3) [(0, 1, v1007), (1, 1, (.slice (some a1024) 1 1)), (2, 1, v1021)] fun c1026 =>
XNew w1025 c1026 41 fun a1027 w1028 =>
xKeep1 w1028 (.pointer (some (a1000.add 0))) v1006 ∧ (Ret P n_del_join [(.slice (some a1027) 3 3)] w1028 fun v1029 w1030 =>
xKeep1 w1030 (.pointer (some (a1000.add 0))) v1006 ∧ (Ret P n_node_Node_SetPart [v1004, v1006, v1029] w1030 fun v1031 w1032 =>
K v1004 w1032))))))) ∧ (xFill (repL [(.int .u8 0)] 1) [(0, 1, a2)] fun c1033 =>
XNew w1005.drew c1033 5 fun a1034 w1035 =>
xKeep1 w1035 (.pointer (some (a1000.add 0))) v1006 ∧ (Ret P n_node_Node_Part [a1] w1035 fun v1036 w1037 =>
xKeep1 w1037 (.pointer (some (a1000.add 0))) v1006 ∧ (Ret P n_node_Node_Part [a3] w1037 fun v1038 w1039 =>
xKeep1 w1039 (.pointer (some (a1000.add 0))) v1006 ∧ (xFill (repL [(.slice none 0 0)] 3) [(0, 1, v1036), (1, 1, (.slice (some a1034) 1 1)), (2, 1, v1038)] fun c1040 =>
XNew w1039 c1040 41 fun a1041 w1042 =>
xKeep1 w1042 (.pointer (some (a1000.add 0))) v1006 ∧ (Ret P n_del_join [(.slice (some a1041) 3 3)] w1042 fun v1043 w1044 =>
xKeep1 w1044 (.pointer (some (a1000.add 0))) v1006 ∧ (Ret P n_node_Node_SetPart [v1004, v1006, v1043] w1044 fun v1045 w1046 =>
K v1004 w1046))))))
theorem W_del_taker_lift {a0 a1 a2 a3 : Value} {K : Value → World → Prop} {w : World} (h : S_del_taker_lift a0 a1 a2 a3 K w) : Ret P n_del_taker_lift [a0, a1, a2, a3] w K :=
  vcF_of mixed Tryz.func238 (show S_del_taker_lift a0 a1 a2 a3 K w = vcF P Tryz.f238 [a0, a1, a2, a3] w K from by kernel_rfl) h
/- (*spunyarn/node.Node).DropVal -/
abbrev S_node_Node_DropVal (a0 : Value) (a1 : Value) (K : Value → World → Prop) (w0 : World) : Prop :=
Ret P n_node_Node_inner [a0, a1] w0 fun v1000 w1001 =>
xNe v1000 (.int .i64 0) fun v1002 =>
xIf v1002 (K v1000 w1001) (xAt a0 fun a1003 =>
XLd w1001 (a1003.add 3) fun v1004 =>
xNot v1004 fun v1005 =>
xIf v1005 (K (.int .i64 6) w1001) (xAt a0 fun a1006 =>
XSt w1001 (a1006.add 2) (.int .u64 0) fun w1007 =>
xAt a0 fun a1008 =>
XSt w1007 (a1008.add 3) (.bool false) fun w1009 =>
K (.int .i64 0) w1009))
theorem W_node_Node_DropVal {a0 a1 : Value} {K : Value → World → Prop} {w : World} (h : S_node_Node_DropVal a0 a1 K w) : Ret P n_node_Node_DropVal [a0, a1] w K :=
  vcF_of mixed Tryz.func239 (show S_node_Node_DropVal a0 a1 K w = vcF P Tryz.f239 [a0, a1] w K from by kernel_rfl) h
/- (*spunyarn/node.Node).DropKid -/
abbrev S_node_Node_DropKid (a0 : Value) (a1 : Value) (a2 : Value) (K : Value → World → Prop) (w0 : World) : Prop :=
Ret P n_node_Node_inner [a0, a1] w0 fun v1000 w1001 =>
xNe v1000 (.int .i64 0) fun v1002 =>
xIf v1002 (K v1000 w1001) (xAt a0 fun a1003 =>
XLd w1001 (a1003.add 4) fun v1004 =>
Ret P n_kids_Kids_Drop [v1004, a2] w1001 fun v1005 w1006 =>
K v1005 w1006)
theorem W_node_Node_DropKid {a0 a1 a2 : Value} {K : Value → World → Prop} {w : World} (h : S_node_Node_DropKid a0 a1 a2 K w) : Ret P n_node_Node_DropKid [a0, a1, a2] w K :=
  vcF_of mixed Tryz.func240 (show S_node_Node_DropKid a0 a1 a2 K w = vcF P Tryz.f240 [a0, a1, a2] w K from by kernel_rfl) h
end Go.Proofs.YthnegkjhciakpaaGreatDoor
