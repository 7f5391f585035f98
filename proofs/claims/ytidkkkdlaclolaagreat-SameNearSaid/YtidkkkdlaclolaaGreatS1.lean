/-  Written by gen.py for this claim: of each function a form without frames, the same as the engine's condition by reckoning.  -/
import Derived.Test.YtidkkkdlaclolaaGreatSN
import Derived.Test.YtidkkkdlaclolaaGreatProg
namespace Go.Proofs.YtidkkkdlaclolaaGreat
open Go X
set_option linter.unusedVariables false
set_option maxRecDepth 100000
/- (*spunyarn/node.Node).Occupants -/
abbrev S_node_Node_Occupants (a0 : Value) (K : Value → World → Prop) (w0 : World) : Prop :=
/- 0 -/ XJ (fun J1000 =>
xPNe P w0 a0 (.pointer none) fun v1004 =>
xIf v1004 (xAt a0 fun a1005 =>
XLd w0 (a1005.add 3) fun v1006 =>
J1000 [v1006] w0) (J1000 [(.bool false)] w0)) fun vs1001 g1002 w1003 =>
xIf (vs1001.getD 0 undef) (xAt a0 fun a1007 =>
XLd w1003 (a1007.add 4) fun v1008 =>
Ret P n_kids_Kids_Len [v1008] w1003 fun v1009 w1010 =>
xAdd v1009 (.int .i64 1) fun v1011 =>
K v1011 w1010) (Ret P n_node_Node_Len [a0] w1003 fun v1012 w1013 =>
K v1012 w1013)
theorem W_node_Node_Occupants {a0 : Value} {K : Value → World → Prop} {w : World} (h : S_node_Node_Occupants a0 K w) : Ret P n_node_Node_Occupants [a0] w K :=
  vcF_of mixed Tryz.func62 (show S_node_Node_Occupants a0 K w = vcF P Tryz.f62 [a0] w K from by kernel_rfl) h
/- (*spunyarn/node.Node).DropKid -/
abbrev S_node_Node_DropKid (a0 : Value) (a1 : Value) (a2 : Value) (K : Value → World → Prop) (w0 : World) : Prop :=
Ret P n_node_Node_inner [a0, a1] w0 fun v1000 w1001 =>
xNe v1000 (.int .i64 0) fun v1002 =>
xIf v1002 (K v1000 w1001) (xAt a0 fun a1003 =>
XLd w1001 (a1003.add 4) fun v1004 =>
Ret P n_kids_Kids_Drop [v1004, a2] w1001 fun v1005 w1006 =>
K v1005 w1006)
theorem W_node_Node_DropKid {a0 a1 a2 : Value} {K : Value → World → Prop} {w : World} (h : S_node_Node_DropKid a0 a1 a2 K w) : Ret P n_node_Node_DropKid [a0, a1, a2] w K :=
  vcF_of mixed Tryz.func63 (show S_node_Node_DropKid a0 a1 a2 K w = vcF P Tryz.f63 [a0, a1, a2] w K from by kernel_rfl) h
/- bytes.Equal -/
abbrev S_bytes_Equal (a0 : Value) (a1 : Value) (K : Value → World → Prop) (w0 : World) : Prop :=
XRun P (convert 23 9 a0) w0 fun v1000 w1001 =>
XRun P (convert 23 9 a1) w1001 fun v1002 w1003 =>
xSEq v1000 v1002 fun v1004 =>
K v1004 w1003
theorem W_bytes_Equal {a0 a1 : Value} {K : Value → World → Prop} {w : World} (h : S_bytes_Equal a0 a1 K w) : Ret P n_bytes_Equal [a0, a1] w K :=
  vcF_of mixed Tryz.func64 (show S_bytes_Equal a0 a1 K w = vcF P Tryz.f64 [a0, a1] w K from by kernel_rfl) h
/- spunyarn/keys.Same -/
abbrev S_keys_Same (a0 : Value) (a1 : Value) (K : Value → World → Prop) (w0 : World) : Prop :=
Ret P n_bytes_Equal [a0, a1] w0 fun v1000 w1001 =>
K v1000 w1001
theorem W_keys_Same {a0 a1 : Value} {K : Value → World → Prop} {w : World} (h : S_keys_Same a0 a1 K w) : Ret P n_keys_Same [a0, a1] w K :=
  vcF_of mixed Tryz.func65 (show S_keys_Same a0 a1 K w = vcF P Tryz.f65 [a0, a1] w K from by kernel_rfl) h
/- (*spunyarn/kids.Kids[*spunyarn/node.Node]).Next -/
abbrev S_kids_Kids_Next (a0 : Value) (a1 : Value) (K : Value → World → Prop) (w0 : World) : Prop :=
Ret P n_kids_Kids_ok [a0] w0 fun v1000 w1001 =>
xNot v1000 fun v1002 =>
xIf v1002 (K (.tuple #[(.int .u8 0), (.pointer none), (.bool false)]) w1001) (xAt a0 fun a1003 =>
XLd w1001 (a1003.add 0) fun v1004 =>
xPNe P w1001 v1004 (.pointer none) fun v1005 =>
xIf v1005 (xAt a0 fun a1006 =>
XLd w1001 (a1006.add 0) fun v1007 =>
Ret P n_small_Row_Next [v1007, a1] w1001 fun v1008 w1009 =>
xTup v1008 0 fun v1010 =>
xTup v1008 1 fun v1011 =>
xTup v1008 2 fun v1012 =>
K (.tuple #[v1010, v1011, v1012]) w1009) (xAt a0 fun a1013 =>
XLd w1001 (a1013.add 1) fun v1014 =>
Ret P n_wide_Board_Next [v1014, a1] w1001 fun v1015 w1016 =>
xTup v1015 0 fun v1017 =>
xTup v1015 1 fun v1018 =>
xTup v1015 2 fun v1019 =>
K (.tuple #[v1017, v1018, v1019]) w1016))
theorem W_kids_Kids_Next {a0 a1 : Value} {K : Value → World → Prop} {w : World} (h : S_kids_Kids_Next a0 a1 K w) : Ret P n_kids_Kids_Next [a0, a1] w K :=
  vcF_of mixed Tryz.func66 (show S_kids_Kids_Next a0 a1 K w = vcF P Tryz.f66 [a0, a1] w K from by kernel_rfl) h
/- spunyarn/keys.Cmp -/
abbrev S_keys_Cmp (a0 : Value) (a1 : Value) (K : Value → World → Prop) (w0 : World) : Prop :=
Ret P n_bytes_Compare [a0, a1] w0 fun v1000 w1001 =>
K v1000 w1001
theorem W_keys_Cmp {a0 a1 : Value} {K : Value → World → Prop} {w : World} (h : S_keys_Cmp a0 a1 K w) : Ret P n_keys_Cmp [a0, a1] w K :=
  vcF_of mixed Tryz.func67 (show S_keys_Cmp a0 a1 K w = vcF P Tryz.f67 [a0, a1] w K from by kernel_rfl) h
/- spunyarn/kids.New[*spunyarn/node.Node] -/
abbrev S_kids_New_Node  (K : Value → World → Prop) (w0 : World) : Prop :=
Ret P n_kids_room_Node [(.int .i64 4)] w0 fun v1000 w1001 =>
K v1000 w1001
theorem W_kids_New_Node {K : Value → World → Prop} {w : World} (h : S_kids_New_Node  K w) : Ret P n_kids_New_Node [] w K :=
  vcF_of mixed Tryz.func68 (show S_kids_New_Node  K w = vcF P Tryz.f68 [] w K from by kernel_rfl) h
/- (*sync/atomic.Int64).Add -/
abbrev S_atomic_Int64_Add (a0 : Value) (a1 : Value) (K : Value → World → Prop) (w0 : World) : Prop :=
xAt a0 fun a1000 =>
xCall P 86 [(.pointer (some (a1000.add 0))), a1] w0 fun v1001 w1002 =>
K v1001 w1002
theorem W_atomic_Int64_Add {a0 a1 : Value} {K : Value → World → Prop} {w : World} (h : S_atomic_Int64_Add a0 a1 K w) : Ret P n_atomic_Int64_Add [a0, a1] w K :=
  vcF_of mixed Tryz.func69 (show S_atomic_Int64_Add a0 a1 K w = vcF P Tryz.f69 [a0, a1] w K from by kernel_rfl) h
/- (*spunyarn/kids.Kids[*spunyarn/node.Node]).ok -/
abbrev S_kids_Kids_ok (a0 : Value) (K : Value → World → Prop) (w0 : World) : Prop :=
/- 0 -/ XJ (fun J1000 =>
xPNe P w0 a0 (.pointer none) fun v1004 =>
xIf v1004 (xAt a0 fun a1005 =>
XLd w0 (a1005.add 0) fun v1006 =>
xPNe P w0 v1006 (.pointer none) fun v1007 =>
xIf v1007 (J1000 [(.bool true)] w0) (xAt a0 fun a1008 =>
XLd w0 (a1008.add 1) fun v1009 =>
xPNe P w0 v1009 (.pointer none) fun v1010 =>
J1000 [v1010] w0)) (J1000 [(.bool false)] w0)) fun vs1001 g1002 w1003 =>
K (vs1001.getD 0 undef) w1003
theorem W_kids_Kids_ok {a0 : Value} {K : Value → World → Prop} {w : World} (h : S_kids_Kids_ok a0 K w) : Ret P n_kids_Kids_ok [a0] w K :=
  vcF_of mixed Tryz.func70 (show S_kids_Kids_ok a0 K w = vcF P Tryz.f70 [a0] w K from by kernel_rfl) h
/- (*spunyarn/small.Row[*spunyarn/node.Node]).Room -/
abbrev S_small_Row_Room (a0 : Value) (K : Value → World → Prop) (w0 : World) : Prop :=
Ret P n_small_Row_ok [a0] w0 fun v1000 w1001 =>
xNot v1000 fun v1002 =>
xIf v1002 (K (.int .i64 0) w1001) (xAt a0 fun a1003 =>
XLd w1001 (a1003.add 0) fun v1004 =>
K v1004 w1001)
theorem W_small_Row_Room {a0 : Value} {K : Value → World → Prop} {w : World} (h : S_small_Row_Room a0 K w) : Ret P n_small_Row_Room [a0] w K :=
  vcF_of mixed Tryz.func71 (show S_small_Row_Room a0 K w = vcF P Tryz.f71 [a0] w K from by kernel_rfl) h
/- (*spunyarn/wide.Board[*spunyarn/node.Node]).Room -/
abbrev S_wide_Board_Room (a0 : Value) (K : Value → World → Prop) (w0 : World) : Prop :=
Ret P n_wide_Board_ok [a0] w0 fun v1000 w1001 =>
xNot v1000 fun v1002 =>
xIf v1002 (K (.int .i64 0) w1001) (xAt a0 fun a1003 =>
XLd w1001 (a1003.add 0) fun v1004 =>
K v1004 w1001)
theorem W_wide_Board_Room {a0 : Value} {K : Value → World → Prop} {w : World} (h : S_wide_Board_Room a0 K w) : Ret P n_wide_Board_Room [a0] w K :=
  vcF_of mixed Tryz.func72 (show S_wide_Board_Room a0 K w = vcF P Tryz.f72 [a0] w K from by kernel_rfl) h
/- (*spunyarn/kids.Kids[*spunyarn/node.Node]).Len -/
abbrev S_kids_Kids_Len (a0 : Value) (K : Value → World → Prop) (w0 : World) : Prop :=
Ret P n_kids_Kids_ok [a0] w0 fun v1000 w1001 =>
xNot v1000 fun v1002 =>
xIf v1002 (K (.int .i64 0) w1001) (xAt a0 fun a1003 =>
XLd w1001 (a1003.add 0) fun v1004 =>
xPNe P w1001 v1004 (.pointer none) fun v1005 =>
xIf v1005 (xAt a0 fun a1006 =>
XLd w1001 (a1006.add 0) fun v1007 =>
Ret P n_small_Row_Len [v1007] w1001 fun v1008 w1009 =>
K v1008 w1009) (xAt a0 fun a1010 =>
XLd w1001 (a1010.add 1) fun v1011 =>
Ret P n_wide_Board_Len [v1011] w1001 fun v1012 w1013 =>
K v1012 w1013))
theorem W_kids_Kids_Len {a0 : Value} {K : Value → World → Prop} {w : World} (h : S_kids_Kids_Len a0 K w) : Ret P n_kids_Kids_Len [a0] w K :=
  vcF_of mixed Tryz.func73 (show S_kids_Kids_Len a0 K w = vcF P Tryz.f73 [a0] w K from by kernel_rfl) h
/- spunyarn/del.join -/
abbrev S_del_join (a0 : Value) (K : Value → World → Prop) (w0 : World) : Prop :=
Ret P n_slices_Concat_byte [a0] w0 fun v1000 w1001 =>
K v1000 w1001
theorem W_del_join {a0 : Value} {K : Value → World → Prop} {w : World} (h : S_del_join a0 K w) : Ret P n_del_join [a0] w K :=
  vcF_of mixed Tryz.func74 (show S_del_join a0 K w = vcF P Tryz.f74 [a0] w K from by kernel_rfl) h
/- (*spunyarn/small.Row[*spunyarn/node.Node]).Get -/
abbrev S_small_Row_Get (a0 : Value) (a1 : Value) (K : Value → World → Prop) (w0 : World) : Prop :=
Ret P n_small_Row_ok [a0] w0 fun v1000 w1001 =>
xNot v1000 fun v1002 =>
xIf v1002 (K (.tuple #[(.pointer none), (.bool false)]) w1001) (Ret P n_small_Row_place [a0, a1] w1001 fun v1003 w1004 =>
xTup v1003 0 fun v1005 =>
xTup v1003 1 fun v1006 =>
xNot v1006 fun v1007 =>
xIf v1007 (K (.tuple #[(.pointer none), (.bool false)]) w1004) (xAt a0 fun a1008 =>
xIxA (.pointer (some (a1008.add 18))) v1005 16 1 fun v1009 =>
xAt v1009 fun a1010 =>
XLd w1004 a1010 fun v1011 =>
K (.tuple #[v1011, (.bool true)]) w1004))
theorem W_small_Row_Get {a0 a1 : Value} {K : Value → World → Prop} {w : World} (h : S_small_Row_Get a0 a1 K w) : Ret P n_small_Row_Get [a0, a1] w K :=
  vcF_of mixed Tryz.func75 (show S_small_Row_Get a0 a1 K w = vcF P Tryz.f75 [a0, a1] w K from by kernel_rfl) h
/- (*spunyarn/wide.Board[*spunyarn/node.Node]).Get -/
abbrev S_wide_Board_Get (a0 : Value) (a1 : Value) (K : Value → World → Prop) (w0 : World) : Prop :=
/- 0 -/ XJ (fun J1000 =>
Ret P n_wide_Board_ok [a0] w0 fun v1004 w1005 =>
xNot v1004 fun v1006 =>
xIf v1006 (J1000 [(.bool true)] w1005) (xAt a0 fun a1007 =>
xIxA (.pointer (some (a1007.add 2))) a1 256 1 fun v1008 =>
xAt v1008 fun a1009 =>
XLd w1005 a1009 fun v1010 =>
xEq v1010 (.int .u16 0) fun v1011 =>
J1000 [v1011] w1005)) fun vs1001 g1002 w1003 =>
xIf (vs1001.getD 0 undef) (K (.tuple #[(.pointer none), (.bool false)]) w1003) (xAt a0 fun a1012 =>
XLd w1003.drew (a1012.add 258) fun v1013 =>
xAt a0 fun a1014 =>
xIxA (.pointer (some (a1014.add 2))) a1 256 1 fun v1015 =>
xAt v1015 fun a1016 =>
XLd w1003.drew a1016 fun v1017 =>
xSub v1017 (.int .u16 1) fun v1018 =>
xIxS v1013 v1018 1 fun v1019 =>
xAt v1019 fun a1020 =>
XLd w1003.drew a1020 fun v1021 =>
K (.tuple #[v1021, (.bool true)]) (w1003.drew))
theorem W_wide_Board_Get {a0 a1 : Value} {K : Value → World → Prop} {w : World} (h : S_wide_Board_Get a0 a1 K w) : Ret P n_wide_Board_Get [a0, a1] w K :=
  vcF_of mixed Tryz.func76 (show S_wide_Board_Get a0 a1 K w = vcF P Tryz.f76 [a0, a1] w K from by kernel_rfl) h
/- (*spunyarn/kids.Kids[*spunyarn/node.Node]).Copy -/
abbrev S_kids_Kids_Copy (a0 : Value) (K : Value → World → Prop) (w0 : World) : Prop :=
Ret P n_kids_Kids_ok [a0] w0 fun v1000 w1001 =>
xNot v1000 fun v1002 =>
xIf v1002 (K (.pointer none) w1001) (xAt a0 fun a1003 =>
XLd w1001.drew (a1003.add 0) fun v1004 =>
xAt a0 fun a1005 =>
XLd w1001.drew (a1005.add 1) fun v1006 =>
Ret P n_small_Row_Copy [v1004] w1001.drew fun v1007 w1008 =>
xKeep1 w1008 (.pointer (some (a1005.add 1))) v1006 ∧ (Ret P n_wide_Board_Copy [v1006] w1008 fun v1009 w1010 =>
xFill [(.pointer none), (.pointer none)] [(0, 1, v1007), (1, 1, v1009)] fun c1011 =>
XNew w1010 (cellsV (.agg c1011.toArray)) 109 fun a1012 w1013 =>
K (.pointer (some a1012)) w1013))
theorem W_kids_Kids_Copy {a0 : Value} {K : Value → World → Prop} {w : World} (h : S_kids_Kids_Copy a0 K w) : Ret P n_kids_Kids_Copy [a0] w K :=
  vcF_of mixed Tryz.func77 (show S_kids_Kids_Copy a0 K w = vcF P Tryz.f77 [a0] w K from by kernel_rfl) h
/- spunyarn/kids.move[*spunyarn/node.Node] -/
/- S_kids_move_Node_l1: 0=slot 5 at 1=slot 6 b 2=slot 7 x 3=slot 8 is -/
def S_kids_move_Node_l1 (a0 : Value) (v1000 : Value) (J1002 : List Value → World → Prop) (I1006 : Nat → List Value → World → Prop) (n1007 : Nat) (vs1008 : List Value) (g1009 : Nat → Value) (w1010 : World) : Prop :=
xLt (vs1008.getD 0 undef) (.int .i64 256) fun v1011 =>
xIf v1011 (Ret P n_kids_Kids_Next [a0, (vs1008.getD 0 undef)] w1010 fun v1012 w1013 =>
xTup v1012 0 fun v1014 =>
xTup v1012 1 fun v1015 =>
xTup v1012 2 fun v1016 =>
xNot v1016 fun v1017 =>
xIf v1017 (J1002 [(vs1008.getD 0 undef), v1014, v1015, v1016] w1013) (Ret P n_kids_Kids_put [v1000, v1014, v1015] w1013 fun v1018 w1019 =>
xConv .i64 v1014 fun v1020 =>
xAdd v1020 (.int .i64 1) fun v1021 =>
XNext I1006 n1007 [v1021, v1014, v1015, v1016] w1019)) (J1002 [(vs1008.getD 0 undef), (vs1008.getD 1 undef), (vs1008.getD 2 undef), (vs1008.getD 3 undef)] w1010)
abbrev S_kids_move_Node (a0 : Value) (a1 : Value) (K : Value → World → Prop) (w0 : World) : Prop :=
Ret P n_kids_room_Node [a1] w0 fun v1000 w1001 =>
/- 0 at 1 b 2 x 3 is -/ XJ (fun J1002 =>
XLoop [(.int .i64 0), undef, undef, undef] w1001 (S_kids_move_Node_l1 a0 v1000 J1002)) fun vs1003 g1004 w1005 =>
xAt v1000 fun a1022 =>
XLdN w1005 a1022 2 fun v1023 =>
xAt a0 fun a1024 =>
XDo P (storeVar 109 a1024 v1023) w1005 fun w1025 =>
K (.tuple #[]) w1025
theorem W_kids_move_Node {a0 a1 : Value} {K : Value → World → Prop} {w : World} (h : S_kids_move_Node a0 a1 K w) : Ret P n_kids_move_Node [a0, a1] w K :=
  vcF_of mixed Tryz.func78 (show S_kids_move_Node a0 a1 K w = vcF P Tryz.f78 [a0, a1] w K from by kernel_rfl) h
/- spunyarn/kids.KindOf -/
/- S_kids_KindOf_l1: 0=slot 8 1=slot 4 kind 2=slot 2 -/
def S_kids_KindOf_l1 (K : Value → World → Prop) (a0 : Value) (c1001 : List Value) (I1002 : Nat → List Value → World → Prop) (n1003 : Nat) (vs1004 : List Value) (g1005 : Nat → Value) (w1006 : World) : Prop :=
xLt (vs1004.getD 0 undef) (.int .i64 4) fun v1007 =>
xIf v1007 (XRun P (Instr.index 134 (.agg c1001.toArray) (vs1004.getD 0 undef)) w1006 fun v1008 w1009 =>
xLe a0 v1008 fun v1010 =>
xIf v1010 (K v1008 w1009) (xAdd (vs1004.getD 0 undef) (.int .i64 1) fun v1011 =>
XNext I1002 n1003 [v1011, v1008, (vs1004.getD 2 undef)] w1009)) (K (.int .i64 0) w1006)
abbrev S_kids_KindOf (a0 : Value) (K : Value → World → Prop) (w0 : World) : Prop :=
xLt a0 (.int .i64 0) fun v1000 =>
xIf v1000 (K (.int .i64 0) w0) (xFill [(.int .i64 0), (.int .i64 0), (.int .i64 0), (.int .i64 0)] [(0, 1, (.int .i64 4)), (1, 1, (.int .i64 16)), (2, 1, (.int .i64 48)), (3, 1, (.int .i64 256))] fun c1001 =>
XLoop [(.int .i64 0), undef, (.int .i64 0)] w0 (S_kids_KindOf_l1 K a0 c1001))
theorem W_kids_KindOf {a0 : Value} {K : Value → World → Prop} {w : World} (h : S_kids_KindOf a0 K w) : Ret P n_kids_KindOf [a0] w K :=
  vcF_of mixed Tryz.func79 (show S_kids_KindOf a0 K w = vcF P Tryz.f79 [a0] w K from by kernel_rfl) h
/- (*spunyarn/kids.Kids[*spunyarn/node.Node]).put -/
abbrev S_kids_Kids_put (a0 : Value) (a1 : Value) (a2 : Value) (K : Value → World → Prop) (w0 : World) : Prop :=
xAt a0 fun a1000 =>
XLd w0 (a1000.add 0) fun v1001 =>
xPNe P w0 v1001 (.pointer none) fun v1002 =>
xIf v1002 (xAt a0 fun a1003 =>
XLd w0 (a1003.add 0) fun v1004 =>
Ret P n_small_Row_Set [v1004, a1, a2] w0 fun v1005 w1006 =>
K (.tuple #[]) w1006) (xAt a0 fun a1007 =>
XLd w0 (a1007.add 1) fun v1008 =>
Ret P n_wide_Board_Set [v1008, a1, a2] w0 fun v1009 w1010 =>
K (.tuple #[]) w1010)
theorem W_kids_Kids_put {a0 a1 a2 : Value} {K : Value → World → Prop} {w : World} (h : S_kids_Kids_put a0 a1 a2 K w) : Ret P n_kids_Kids_put [a0, a1, a2] w K :=
  vcF_of mixed Tryz.func80 (show S_kids_Kids_put a0 a1 a2 K w = vcF P Tryz.f80 [a0, a1, a2] w K from by kernel_rfl) h
/- (*spunyarn/kids.Kids[*spunyarn/node.Node]).Drop -/
abbrev S_kids_Kids_Drop (a0 : Value) (a1 : Value) (K : Value → World → Prop) (w0 : World) : Prop :=
Ret P n_kids_Kids_ok [a0] w0 fun v1000 w1001 =>
xNot v1000 fun v1002 =>
xIf v1002 (K (.int .i64 2) w1001) (/- 0 e -/ XJ (fun J1003 =>
xAt a0 fun a1007 =>
XLd w1001 (a1007.add 0) fun v1008 =>
xPNe P w1001 v1008 (.pointer none) fun v1009 =>
xIf v1009 (xAt a0 fun a1010 =>
XLd w1001 (a1010.add 0) fun v1011 =>
Ret P n_small_Row_Drop [v1011, a1] w1001 fun v1012 w1013 =>
J1003 [v1012] w1013) (xAt a0 fun a1014 =>
XLd w1001 (a1014.add 1) fun v1015 =>
Ret P n_wide_Board_Drop [v1015, a1] w1001 fun v1016 w1017 =>
J1003 [v1016] w1017)) fun vs1004 g1005 w1006 =>
/- 0 kind -/ XJ (fun J1018 =>
Ret P n_kids_Kids_Len [a0] w1006 fun v1022 w1023 =>
Ret P n_kids_KindOf [v1022] w1023 fun v1024 w1025 =>
Ret P n_kids_Kids_Kind [a0] w1025 fun v1026 w1027 =>
xNe v1024 v1026 fun v1028 =>
xIf v1028 (Ret P n_kids_move_Node [a0, v1024] w1027 fun v1029 w1030 =>
J1018 [v1024] w1030) (J1018 [v1024] w1027)) fun vs1019 g1020 w1021 =>
K (vs1004.getD 0 undef) w1021)
theorem W_kids_Kids_Drop {a0 a1 : Value} {K : Value → World → Prop} {w : World} (h : S_kids_Kids_Drop a0 a1 K w) : Ret P n_kids_Kids_Drop [a0, a1] w K :=
  vcF_of mixed Tryz.func81 (show S_kids_Kids_Drop a0 a1 K w = vcF P Tryz.f81 [a0, a1] w K from by kernel_rfl) h
/- (*spunyarn/small.Row[*spunyarn/node.Node]).Next -/
abbrev S_small_Row_Next (a0 : Value) (a1 : Value) (K : Value → World → Prop) (w0 : World) : Prop :=
/- 0 -/ XJ (fun J1000 =>
Ret P n_small_Row_ok [a0] w0 fun v1004 w1005 =>
xNot v1004 fun v1006 =>
xIf v1006 (J1000 [(.bool true)] w1005) (xGt a1 (.int .i64 255) fun v1007 =>
J1000 [v1007] w1005)) fun vs1001 g1002 w1003 =>
xIf (vs1001.getD 0 undef) (K (.tuple #[(.int .u8 0), (.pointer none), (.bool false)]) w1003) (xMax a1 (.int .i64 0) fun v1008 =>
xConv .u8 v1008 fun v1009 =>
Ret P n_small_Row_place [a0, v1009] w1003 fun v1010 w1011 =>
xTup v1010 0 fun v1012 =>
xTup v1010 1 fun v1013 =>
Ret P n_small_Row_at [a0, v1012] w1011 fun v1014 w1015 =>
xTup v1014 0 fun v1016 =>
xTup v1014 1 fun v1017 =>
xTup v1014 2 fun v1018 =>
K (.tuple #[v1016, v1017, v1018]) w1015)
theorem W_small_Row_Next {a0 a1 : Value} {K : Value → World → Prop} {w : World} (h : S_small_Row_Next a0 a1 K w) : Ret P n_small_Row_Next [a0, a1] w K :=
  vcF_of mixed Tryz.func82 (show S_small_Row_Next a0 a1 K w = vcF P Tryz.f82 [a0, a1] w K from by kernel_rfl) h
/- (*spunyarn/wide.Board[*spunyarn/node.Node]).Next -/
/- S_wide_Board_Next_l1: 0=slot 7 b 1=slot 8 x 2=slot 9 is 3=slot 4 4=slot 5 5=slot 6 -/
def S_wide_Board_Next_l1 (K : Value → World → Prop) (a0 : Value) (J1000 : List Value → World → Prop) (I1007 : Nat → List Value → World → Prop) (n1008 : Nat) (vs1009 : List Value) (g1010 : Nat → Value) (w1011 : World) : Prop :=
xLt (vs1009.getD 0 undef) (.int .i64 256) fun v1012 =>
xIf v1012 (xConv .u8 (vs1009.getD 0 undef) fun v1013 =>
Ret P n_wide_Board_Get [a0, v1013] w1011 fun v1014 w1015 =>
xTup v1014 0 fun v1016 =>
xTup v1014 1 fun v1017 =>
xIf v1017 (xConv .u8 (vs1009.getD 0 undef) fun v1018 =>
K (.tuple #[v1018, v1016, (.bool true)]) w1015) (xAdd (vs1009.getD 0 undef) (.int .i64 1) fun v1019 =>
XNext I1007 n1008 [v1019, v1016, v1017, (vs1009.getD 3 undef), (vs1009.getD 4 undef), (vs1009.getD 5 undef)] w1015)) (J1000 [(vs1009.getD 0 undef), (vs1009.getD 1 undef), (vs1009.getD 2 undef), (vs1009.getD 3 undef), (vs1009.getD 4 undef), (vs1009.getD 5 undef)] w1011)
abbrev S_wide_Board_Next (a0 : Value) (a1 : Value) (K : Value → World → Prop) (w0 : World) : Prop :=
/- 0 b 1 x 2 is 3 4 5 -/ XJ (fun J1000 =>
Ret P n_wide_Board_ok [a0] w0 fun v1004 w1005 =>
xIf v1004 (xMax a1 (.int .i64 0) fun v1006 =>
XLoop [v1006, undef, undef, (.int .u8 0), (.pointer none), (.bool false)] w1005 (S_wide_Board_Next_l1 K a0 J1000)) (J1000 [undef, undef, undef, (.int .u8 0), (.pointer none), (.bool false)] w1005)) fun vs1001 g1002 w1003 =>
K (.tuple #[(.int .u8 0), (.pointer none), (.bool false)]) w1003
theorem W_wide_Board_Next {a0 a1 : Value} {K : Value → World → Prop} {w : World} (h : S_wide_Board_Next a0 a1 K w) : Ret P n_wide_Board_Next [a0, a1] w K :=
  vcF_of mixed Tryz.func83 (show S_wide_Board_Next a0 a1 K w = vcF P Tryz.f83 [a0, a1] w K from by kernel_rfl) h
/- bytes.Compare -/
abbrev S_bytes_Compare (a0 : Value) (a1 : Value) (K : Value → World → Prop) (w0 : World) : Prop :=
xCall P 100 [a0, a1] w0 fun v1000 w1001 =>
K v1000 w1001
theorem W_bytes_Compare {a0 a1 : Value} {K : Value → World → Prop} {w : World} (h : S_bytes_Compare a0 a1 K w) : Ret P n_bytes_Compare [a0, a1] w K :=
  vcF_of mixed Tryz.func84 (show S_bytes_Compare a0 a1 K w = vcF P Tryz.f84 [a0, a1] w K from by kernel_rfl) h
/- spunyarn/kids.room[*spunyarn/node.Node] -/
abbrev S_kids_room_Node (a0 : Value) (K : Value → World → Prop) (w0 : World) : Prop :=
xFill [(.pointer none), (.pointer none)] [] fun c1000 =>
XNew w0 (cellsV (.agg c1000.toArray)) 109 fun a1001 w1002 =>
/-  -/ XJ (fun J1003 =>
xLe a0 (.int .i64 16) fun v1007 =>
xIf v1007 (Ret P n_small_New_Node [a0] w1002 fun v1008 w1009 =>
xTup v1008 0 fun v1010 =>
xTup v1008 1 fun v1011 =>
XSt w1009 (a1001.add 0) v1010 fun w1012 =>
J1003 [] w1012) (Ret P n_wide_New_Node [a0] w1002 fun v1013 w1014 =>
xTup v1013 0 fun v1015 =>
xTup v1013 1 fun v1016 =>
XSt w1014 (a1001.add 1) v1015 fun w1017 =>
J1003 [] w1017)) fun vs1004 g1005 w1006 =>
K (.pointer (some a1001)) w1006
theorem W_kids_room_Node {a0 : Value} {K : Value → World → Prop} {w : World} (h : S_kids_room_Node a0 K w) : Ret P n_kids_room_Node [a0] w K :=
  vcF_of mixed Tryz.func85 (show S_kids_room_Node a0 K w = vcF P Tryz.f85 [a0] w K from by kernel_rfl) h
/- (*spunyarn/small.Row[*spunyarn/node.Node]).ok -/
abbrev S_small_Row_ok (a0 : Value) (K : Value → World → Prop) (w0 : World) : Prop :=
/- 0 -/ XJ (fun J1000 =>
xPNe P w0 a0 (.pointer none) fun v1004 =>
xIf v1004 (xAt a0 fun a1005 =>
XLd w0 (a1005.add 0) fun v1006 =>
xGt v1006 (.int .i64 0) fun v1007 =>
J1000 [v1007] w0) (J1000 [(.bool false)] w0)) fun vs1001 g1002 w1003 =>
K (vs1001.getD 0 undef) w1003
theorem W_small_Row_ok {a0 : Value} {K : Value → World → Prop} {w : World} (h : S_small_Row_ok a0 K w) : Ret P n_small_Row_ok [a0] w K :=
  vcF_of mixed Tryz.func87 (show S_small_Row_ok a0 K w = vcF P Tryz.f87 [a0] w K from by kernel_rfl) h
/- (*spunyarn/wide.Board[*spunyarn/node.Node]).ok -/
abbrev S_wide_Board_ok (a0 : Value) (K : Value → World → Prop) (w0 : World) : Prop :=
/- 0 -/ XJ (fun J1000 =>
xPNe P w0 a0 (.pointer none) fun v1004 =>
xIf v1004 (xAt a0 fun a1005 =>
XLd w0 (a1005.add 0) fun v1006 =>
xGt v1006 (.int .i64 0) fun v1007 =>
J1000 [v1007] w0) (J1000 [(.bool false)] w0)) fun vs1001 g1002 w1003 =>
K (vs1001.getD 0 undef) w1003
theorem W_wide_Board_ok {a0 : Value} {K : Value → World → Prop} {w : World} (h : S_wide_Board_ok a0 K w) : Ret P n_wide_Board_ok [a0] w K :=
  vcF_of mixed Tryz.func88 (show S_wide_Board_ok a0 K w = vcF P Tryz.f88 [a0] w K from by kernel_rfl) h
/- (*spunyarn/small.Row[*spunyarn/node.Node]).Len -/
abbrev S_small_Row_Len (a0 : Value) (K : Value → World → Prop) (w0 : World) : Prop :=
Ret P n_small_Row_ok [a0] w0 fun v1000 w1001 =>
xNot v1000 fun v1002 =>
xIf v1002 (K (.int .i64 0) w1001) (xAt a0 fun a1003 =>
XLd w1001 (a1003.add 1) fun v1004 =>
K v1004 w1001)
theorem W_small_Row_Len {a0 : Value} {K : Value → World → Prop} {w : World} (h : S_small_Row_Len a0 K w) : Ret P n_small_Row_Len [a0] w K :=
  vcF_of mixed Tryz.func89 (show S_small_Row_Len a0 K w = vcF P Tryz.f89 [a0] w K from by kernel_rfl) h
/- (*spunyarn/wide.Board[*spunyarn/node.Node]).Len -/
abbrev S_wide_Board_Len (a0 : Value) (K : Value → World → Prop) (w0 : World) : Prop :=
Ret P n_wide_Board_ok [a0] w0 fun v1000 w1001 =>
xNot v1000 fun v1002 =>
xIf v1002 (K (.int .i64 0) w1001) (xAt a0 fun a1003 =>
XLd w1001 (a1003.add 1) fun v1004 =>
K v1004 w1001)
theorem W_wide_Board_Len {a0 : Value} {K : Value → World → Prop} {w : World} (h : S_wide_Board_Len a0 K w) : Ret P n_wide_Board_Len [a0] w K :=
  vcF_of mixed Tryz.func90 (show S_wide_Board_Len a0 K w = vcF P Tryz.f90 [a0] w K from by kernel_rfl) h
/- slices.Concat[[]byte,byte] -/
/- S_slices_Concat_byte_l1: 0=slot 27 1=slot 8 s 2=slot 6 newslice -/
def S_slices_Concat_byte_l1 (K : Value → World → Prop) (a0 : Value) (v1020 : Value) (I1021 : Nat → List Value → World → Prop) (n1022 : Nat) (vs1023 : List Value) (g1024 : Nat → Value) (w1025 : World) : Prop :=
xLt (vs1023.getD 0 undef) v1020 fun v1026 =>
xIf v1026 (xIxS a0 (vs1023.getD 0 undef) 1 fun v1027 =>
xAt v1027 fun a1028 =>
XLd w1025 a1028 fun v1029 =>
XRun P (Builtin.append_ #[23, 23] 23 #[(vs1023.getD 2 undef), v1029]) w1025 fun v1030 w1031 =>
xAdd (vs1023.getD 0 undef) (.int .i64 1) fun v1032 =>
XNext I1021 n1022 [v1032, v1029, v1030] w1031) (K (vs1023.getD 2 undef) w1025)
/- S_slices_Concat_byte_l2: 0=slot 11 1=slot 5 s 2=slot 3 size -/
def S_slices_Concat_byte_l2 (K : Value → World → Prop) (a0 : Value) (v1000 : Value) (I1001 : Nat → List Value → World → Prop) (n1002 : Nat) (vs1003 : List Value) (g1004 : Nat → Value) (w1005 : World) : Prop :=
xLt (vs1003.getD 0 undef) v1000 fun v1006 =>
xIf v1006 (/- 0 s 1 size -/ XJ (fun J1007 =>
xIxS a0 (vs1003.getD 0 undef) 1 fun v1011 =>
xAt v1011 fun a1012 =>
XLd w1005 a1012 fun v1013 =>
xLen v1013 fun v1014 =>
xAdd (vs1003.getD 2 undef) v1014 fun v1015 =>
xLt v1015 (.int .i64 0) fun v1016 =>
xIf v1016 (False) (J1007 [v1013, v1015] w1005)) fun vs1008 g1009 w1010 =>
xAdd (vs1003.getD 0 undef) (.int .i64 1) fun v1017 =>
XNext I1001 n1002 [v1017, (vs1008.getD 0 undef), (vs1008.getD 1 undef)] w1010) (Ret P n_slices_Grow_byte [(.slice none 0 0), (vs1003.getD 2 undef)] w1005 fun v1018 w1019 =>
xLen a0 fun v1020 =>
XLoop [(.int .i64 0), undef, v1018] w1019 (S_slices_Concat_byte_l1 K a0 v1020))
abbrev S_slices_Concat_byte (a0 : Value) (K : Value → World → Prop) (w0 : World) : Prop :=
xLen a0 fun v1000 =>
XLoop [(.int .i64 0), undef, (.int .i64 0)] w0 (S_slices_Concat_byte_l2 K a0 v1000)
theorem W_slices_Concat_byte {a0 : Value} {K : Value → World → Prop} {w : World} (h : S_slices_Concat_byte a0 K w) : Ret P n_slices_Concat_byte [a0] w K :=
  vcF_of mixed Tryz.func91 (show S_slices_Concat_byte a0 K w = vcF P Tryz.f91 [a0] w K from by kernel_rfl) h
/- (*spunyarn/small.Row[*spunyarn/node.Node]).place -/
abbrev S_small_Row_place (a0 : Value) (a1 : Value) (K : Value → World → Prop) (w0 : World) : Prop :=
xAt a0 fun a1000 =>
xAt a0 fun a1001 =>
XLd w0.drew (a1001.add 1) fun v1002 =>
xCutA 16 1 (.pointer (some (a1000.add 2))) none (some v1002) none fun v1003 =>
Ret P n_slices_BinarySearch_byte [v1003, a1] w0.drew fun v1004 w1005 =>
xTup v1004 0 fun v1006 =>
xTup v1004 1 fun v1007 =>
K (.tuple #[v1006, v1007]) w1005
theorem W_small_Row_place {a0 a1 : Value} {K : Value → World → Prop} {w : World} (h : S_small_Row_place a0 a1 K w) : Ret P n_small_Row_place [a0, a1] w K :=
  vcF_of mixed Tryz.func92 (show S_small_Row_place a0 a1 K w = vcF P Tryz.f92 [a0, a1] w K from by kernel_rfl) h
/- (*spunyarn/small.Row[*spunyarn/node.Node]).Copy -/
abbrev S_small_Row_Copy (a0 : Value) (K : Value → World → Prop) (w0 : World) : Prop :=
Ret P n_small_Row_ok [a0] w0 fun v1000 w1001 =>
xNot v1000 fun v1002 =>
xIf v1002 (K (.pointer none) w1001) (xAt a0 fun a1003 =>
XLdN w1001 a1003 34 fun v1004 =>
XNew w1001 z_small_Row 122 fun a1005 w1006 =>
XDo P (storeVar 122 a1005 v1004) w1006 fun w1007 =>
K (.pointer (some a1005)) w1007)
theorem W_small_Row_Copy {a0 : Value} {K : Value → World → Prop} {w : World} (h : S_small_Row_Copy a0 K w) : Ret P n_small_Row_Copy [a0] w K :=
  vcF_of mixed Tryz.func93 (show S_small_Row_Copy a0 K w = vcF P Tryz.f93 [a0] w K from by kernel_rfl) h
/- (*spunyarn/wide.Board[*spunyarn/node.Node]).Copy -/
abbrev S_wide_Board_Copy (a0 : Value) (K : Value → World → Prop) (w0 : World) : Prop :=
Ret P n_wide_Board_ok [a0] w0 fun v1000 w1001 =>
xNot v1000 fun v1002 =>
xIf v1002 (K (.pointer none) w1001) (xAt a0 fun a1003 =>
XLdN w1001 a1003 260 fun v1004 =>
XNew w1001 z_wide_Board 128 fun a1005 w1006 =>
XDo P (storeVar 128 a1005 v1004) w1006 fun w1007 =>
xAt a0 fun a1008 =>
XLd w1007.drew (a1008.add 258) fun v1009 =>
xAt a0 fun a1010 =>
XLd w1007.drew (a1010.add 259) fun v1011 =>
Ret P n_slices_Clone_Node [v1009] w1007.drew fun v1012 w1013 =>
xKeep1 w1013 (.pointer (some (a1010.add 259))) v1011 ∧ (Ret P n_slices_Clone_uint16 [v1011] w1013 fun v1014 w1015 =>
XSt w1015 (a1005.add 258) v1012 fun w1016 =>
XSt w1016 (a1005.add 259) v1014 fun w1017 =>
K (.pointer (some a1005)) w1017))
theorem W_wide_Board_Copy {a0 : Value} {K : Value → World → Prop} {w : World} (h : S_wide_Board_Copy a0 K w) : Ret P n_wide_Board_Copy [a0] w K :=
  vcF_of mixed Tryz.func94 (show S_wide_Board_Copy a0 K w = vcF P Tryz.f94 [a0] w K from by kernel_rfl) h
/- (*spunyarn/small.Row[*spunyarn/node.Node]).Set -/
abbrev S_small_Row_Set (a0 : Value) (a1 : Value) (a2 : Value) (K : Value → World → Prop) (w0 : World) : Prop :=
Ret P n_small_Row_ok [a0] w0 fun v1000 w1001 =>
xNot v1000 fun v1002 =>
xIf v1002 (K (.int .i64 2) w1001) (Ret P n_small_Row_place [a0, a1] w1001 fun v1003 w1004 =>
xTup v1003 0 fun v1005 =>
xTup v1003 1 fun v1006 =>
xIf v1006 (xAt a0 fun a1007 =>
xIxA (.pointer (some (a1007.add 18))) v1005 16 1 fun v1008 =>
xAt v1008 fun a1010 =>
XSt w1004 a1010 a2 fun w1009 =>
K (.int .i64 0) w1009) (xAt a0 fun a1011 =>
XLd w1004.drew (a1011.add 1) fun v1012 =>
xAt a0 fun a1013 =>
XLd w1004.drew (a1013.add 0) fun v1014 =>
xEq v1012 v1014 fun v1015 =>
xIf v1015 (K (.int .i64 10) (w1004.drew)) (xAt a0 fun a1016 =>
xAdd v1005 (.int .i64 1) fun v1017 =>
xCutA 16 1 (.pointer (some (a1016.add 2))) (some v1017) none none fun v1018 =>
xAt a0 fun a1019 =>
xAt a0 fun a1020 =>
XLd w1004.drew.drew (a1020.add 1) fun v1021 =>
xCutA 16 1 (.pointer (some (a1019.add 2))) (some v1005) (some v1021) none fun v1022 =>
XRun P (Builtin.copy_ #[23, 23] 3 #[v1018, v1022]) w1004.drew.drew fun v1023 w1024 =>
xAt a0 fun a1025 =>
xAdd v1005 (.int .i64 1) fun v1026 =>
xCutA 16 1 (.pointer (some (a1025.add 18))) (some v1026) none none fun v1027 =>
xAt a0 fun a1028 =>
xAt a0 fun a1029 =>
XLd w1024.drew (a1029.add 1) fun v1030 =>
xCutA 16 1 (.pointer (some (a1028.add 18))) (some v1005) (some v1030) none fun v1031 =>
XRun P (Builtin.copy_ #[125, 125] 3 #[v1027, v1031]) w1024.drew fun v1032 w1033 =>
xAt a0 fun a1034 =>
xIxA (.pointer (some (a1034.add 2))) v1005 16 1 fun v1035 =>
xAt a0 fun a1036 =>
xAt v1035 fun a1038 =>
XSt w1033.drew a1038 a1 fun w1037 =>
xIxA (.pointer (some (a1036.add 18))) v1005 16 1 fun v1039 =>
xAt v1039 fun a1041 =>
XSt w1037 a1041 a2 fun w1040 =>
xAt a0 fun a1042 =>
XLd w1040 (a1042.add 1) fun v1043 =>
xAdd v1043 (.int .i64 1) fun v1044 =>
xAt a0 fun a1045 =>
XSt w1040 (a1045.add 1) v1044 fun w1046 =>
K (.int .i64 0) w1046)))
theorem W_small_Row_Set {a0 a1 a2 : Value} {K : Value → World → Prop} {w : World} (h : S_small_Row_Set a0 a1 a2 K w) : Ret P n_small_Row_Set [a0, a1, a2] w K :=
  vcF_of mixed Tryz.func95 (show S_small_Row_Set a0 a1 a2 K w = vcF P Tryz.f95 [a0, a1, a2] w K from by kernel_rfl) h
/- (*spunyarn/wide.Board[*spunyarn/node.Node]).Set -/
abbrev S_wide_Board_Set (a0 : Value) (a1 : Value) (a2 : Value) (K : Value → World → Prop) (w0 : World) : Prop :=
/- 0 1 2 3 -/ XJ (fun J1000 =>
Ret P n_wide_Board_ok [a0] w0 fun v1004 w1005 =>
xNot v1004 fun v1006 =>
xIf v1006 (K (.int .i64 2) w1005) (/- 0 -/ XJ (fun J1007 =>
xAt a0 fun a1011 =>
xIxA (.pointer (some (a1011.add 2))) a1 256 1 fun v1012 =>
xAt v1012 fun a1013 =>
XLd w1005.drew a1013 fun v1014 =>
xEq v1014 (.int .u16 0) fun v1015 =>
xIf v1015 (xAt a0 fun a1016 =>
XLd w1005.drew (a1016.add 1) fun v1017 =>
xAt a0 fun a1018 =>
XLd w1005.drew (a1018.add 0) fun v1019 =>
xEq v1017 v1019 fun v1020 =>
J1007 [v1020] (w1005.drew)) (J1007 [(.bool false)] (w1005.drew))) fun vs1008 g1009 w1010 =>
xIf (vs1008.getD 0 undef) (K (.int .i64 10) w1010) (xAt a0 fun a1021 =>
xIxA (.pointer (some (a1021.add 2))) a1 256 1 fun v1022 =>
xAt v1022 fun a1023 =>
XLd w1010 a1023 fun v1024 =>
xEq v1024 (.int .u16 0) fun v1025 =>
xIf v1025 (xAt a0 fun a1026 =>
Ret P n_wide_Board_place [a0] w1010.drew fun v1027 w1028 =>
xIxA (.pointer (some (a1026.add 2))) a1 256 1 fun v1029 =>
xAt v1029 fun a1031 =>
XSt w1028 a1031 v1027 fun w1030 =>
xAt a0 fun a1032 =>
XLd w1030 (a1032.add 1) fun v1033 =>
xAdd v1033 (.int .i64 1) fun v1034 =>
xAt a0 fun a1035 =>
XSt w1030 (a1035.add 1) v1034 fun w1036 =>
J1000 [v1006, (.int .i64 0), (vs1008.getD 0 undef), v1025] w1036) (J1000 [v1006, (.int .i64 0), (vs1008.getD 0 undef), v1025] w1010)))) fun vs1001 g1002 w1003 =>
xAt a0 fun a1037 =>
XLd w1003.drew (a1037.add 258) fun v1038 =>
xAt a0 fun a1039 =>
xIxA (.pointer (some (a1039.add 2))) a1 256 1 fun v1040 =>
xAt v1040 fun a1041 =>
XLd w1003.drew a1041 fun v1042 =>
xSub v1042 (.int .u16 1) fun v1043 =>
xIxS v1038 v1043 1 fun v1044 =>
xAt v1044 fun a1046 =>
XSt w1003.drew a1046 a2 fun w1045 =>
K (.int .i64 0) w1045
theorem W_wide_Board_Set {a0 a1 a2 : Value} {K : Value → World → Prop} {w : World} (h : S_wide_Board_Set a0 a1 a2 K w) : Ret P n_wide_Board_Set [a0, a1, a2] w K :=
  vcF_of mixed Tryz.func96 (show S_wide_Board_Set a0 a1 a2 K w = vcF P Tryz.f96 [a0, a1, a2] w K from by kernel_rfl) h
/- (*spunyarn/small.Row[*spunyarn/node.Node]).Drop -/
abbrev S_small_Row_Drop (a0 : Value) (a1 : Value) (K : Value → World → Prop) (w0 : World) : Prop :=
Ret P n_small_Row_ok [a0] w0 fun v1000 w1001 =>
xNot v1000 fun v1002 =>
xIf v1002 (K (.int .i64 2) w1001) (Ret P n_small_Row_place [a0, a1] w1001 fun v1003 w1004 =>
xTup v1003 0 fun v1005 =>
xTup v1003 1 fun v1006 =>
xNot v1006 fun v1007 =>
xIf v1007 (K (.int .i64 6) w1004) (xAt a0 fun a1008 =>
xCutA 16 1 (.pointer (some (a1008.add 2))) (some v1005) none none fun v1009 =>
xAt a0 fun a1010 =>
xAdd v1005 (.int .i64 1) fun v1011 =>
xAt a0 fun a1012 =>
XLd w1004.drew (a1012.add 1) fun v1013 =>
xCutA 16 1 (.pointer (some (a1010.add 2))) (some v1011) (some v1013) none fun v1014 =>
XRun P (Builtin.copy_ #[23, 23] 3 #[v1009, v1014]) w1004.drew fun v1015 w1016 =>
xAt a0 fun a1017 =>
xCutA 16 1 (.pointer (some (a1017.add 18))) (some v1005) none none fun v1018 =>
xAt a0 fun a1019 =>
xAdd v1005 (.int .i64 1) fun v1020 =>
xAt a0 fun a1021 =>
XLd w1016.drew (a1021.add 1) fun v1022 =>
xCutA 16 1 (.pointer (some (a1019.add 18))) (some v1020) (some v1022) none fun v1023 =>
XRun P (Builtin.copy_ #[125, 125] 3 #[v1018, v1023]) w1016.drew fun v1024 w1025 =>
xAt a0 fun a1026 =>
XLd w1025 (a1026.add 1) fun v1027 =>
xSub v1027 (.int .i64 1) fun v1028 =>
xAt a0 fun a1029 =>
XSt w1025 (a1029.add 1) v1028 fun w1030 =>
xAt a0 fun a1031 =>
XLd w1030.drew (a1031.add 1) fun v1032 =>
xAt a0 fun a1033 =>
XLd w1030.drew (a1033.add 1) fun v1034 =>
xAt a0 fun a1035 =>
xIxA (.pointer (some (a1035.add 2))) v1032 16 1 fun v1036 =>
xAt a0 fun a1037 =>
xAt v1036 fun a1039 =>
XSt w1030.drew a1039 (.int .u8 0) fun w1038 =>
xIxA (.pointer (some (a1037.add 18))) v1034 16 1 fun v1040 =>
xAt v1040 fun a1042 =>
XSt w1038 a1042 (.pointer none) fun w1041 =>
K (.int .i64 0) w1041))
theorem W_small_Row_Drop {a0 a1 : Value} {K : Value → World → Prop} {w : World} (h : S_small_Row_Drop a0 a1 K w) : Ret P n_small_Row_Drop [a0, a1] w K :=
  vcF_of mixed Tryz.func97 (show S_small_Row_Drop a0 a1 K w = vcF P Tryz.f97 [a0, a1] w K from by kernel_rfl) h
/- (*spunyarn/wide.Board[*spunyarn/node.Node]).Drop -/
abbrev S_wide_Board_Drop (a0 : Value) (a1 : Value) (K : Value → World → Prop) (w0 : World) : Prop :=
Ret P n_wide_Board_ok [a0] w0 fun v1000 w1001 =>
xNot v1000 fun v1002 =>
xIf v1002 (K (.int .i64 2) w1001) (xAt a0 fun a1003 =>
xIxA (.pointer (some (a1003.add 2))) a1 256 1 fun v1004 =>
xAt v1004 fun a1005 =>
XLd w1001 a1005 fun v1006 =>
xEq v1006 (.int .u16 0) fun v1007 =>
xIf v1007 (K (.int .i64 6) w1001) (xAt a0 fun a1008 =>
XLd w1001.drew (a1008.add 258) fun v1009 =>
xAt a0 fun a1010 =>
xIxA (.pointer (some (a1010.add 2))) a1 256 1 fun v1011 =>
xAt v1011 fun a1012 =>
XLd w1001.drew a1012 fun v1013 =>
xSub v1013 (.int .u16 1) fun v1014 =>
xIxS v1009 v1014 1 fun v1015 =>
xAt v1015 fun a1017 =>
XSt w1001.drew a1017 (.pointer none) fun w1016 =>
xAt a0 fun a1018 =>
XLd w1016.drew (a1018.add 259) fun v1019 =>
xAt a0 fun a1020 =>
xIxA (.pointer (some (a1020.add 2))) a1 256 1 fun v1021 =>
xAt v1021 fun a1022 =>
XLd w1016.drew a1022 fun v1023 =>
xFill (repL [(.int .u16 0)] 1) [(0, 1, v1023)] fun c1024 =>
XNew w1016.drew c1024 123 fun a1025 w1026 =>
xKeep1 w1026 (.pointer (some (a1018.add 259))) v1019 ∧ (XRun P (Builtin.append_ #[126, 126] 126 #[v1019, (.slice (some a1025) 1 1)]) w1026 fun v1027 w1028 =>
xAt a0 fun a1029 =>
XSt w1028 (a1029.add 259) v1027 fun w1030 =>
xAt a0 fun a1031 =>
xIxA (.pointer (some (a1031.add 2))) a1 256 1 fun v1032 =>
xAt v1032 fun a1034 =>
XSt w1030 a1034 (.int .u16 0) fun w1033 =>
xAt a0 fun a1035 =>
XLd w1033 (a1035.add 1) fun v1036 =>
xSub v1036 (.int .i64 1) fun v1037 =>
xAt a0 fun a1038 =>
XSt w1033 (a1038.add 1) v1037 fun w1039 =>
K (.int .i64 0) w1039)))
theorem W_wide_Board_Drop {a0 a1 : Value} {K : Value → World → Prop} {w : World} (h : S_wide_Board_Drop a0 a1 K w) : Ret P n_wide_Board_Drop [a0, a1] w K :=
  vcF_of mixed Tryz.func98 (show S_wide_Board_Drop a0 a1 K w = vcF P Tryz.f98 [a0, a1] w K from by kernel_rfl) h
/- (*spunyarn/small.Row[*spunyarn/node.Node]).at -/
abbrev S_small_Row_at (a0 : Value) (a1 : Value) (K : Value → World → Prop) (w0 : World) : Prop :=
/- 0 -/ XJ (fun J1000 =>
xLt a1 (.int .i64 0) fun v1004 =>
xIf v1004 (J1000 [(.bool true)] w0) (xAt a0 fun a1005 =>
XLd w0 (a1005.add 1) fun v1006 =>
xGe a1 v1006 fun v1007 =>
J1000 [v1007] w0)) fun vs1001 g1002 w1003 =>
xIf (vs1001.getD 0 undef) (K (.tuple #[(.int .u8 0), (.pointer none), (.bool false)]) w1003) (xAt a0 fun a1008 =>
xIxA (.pointer (some (a1008.add 2))) a1 16 1 fun v1009 =>
xAt v1009 fun a1010 =>
XLd w1003.drew a1010 fun v1011 =>
xAt a0 fun a1012 =>
xIxA (.pointer (some (a1012.add 18))) a1 16 1 fun v1013 =>
xAt v1013 fun a1014 =>
XLd w1003.drew a1014 fun v1015 =>
xKeep1 w1003.drew v1013 v1015 ∧ (K (.tuple #[v1011, v1015, (.bool true)]) (w1003.drew)))
theorem W_small_Row_at {a0 a1 : Value} {K : Value → World → Prop} {w : World} (h : S_small_Row_at a0 a1 K w) : Ret P n_small_Row_at [a0, a1] w K :=
  vcF_of mixed Tryz.func99 (show S_small_Row_at a0 a1 K w = vcF P Tryz.f99 [a0, a1] w K from by kernel_rfl) h
/- spunyarn/small.New[*spunyarn/node.Node] -/
abbrev S_small_New_Node (a0 : Value) (K : Value → World → Prop) (w0 : World) : Prop :=
/- 0 -/ XJ (fun J1000 =>
xLt a0 (.int .i64 1) fun v1004 =>
xIf v1004 (J1000 [(.bool true)] w0) (xGt a0 (.int .i64 16) fun v1005 =>
J1000 [v1005] w0)) fun vs1001 g1002 w1003 =>
xIf (vs1001.getD 0 undef) (K (.tuple #[(.pointer none), (.int .i64 1)]) w1003) (xFill z_small_Row [(0, 1, a0)] fun c1006 =>
XNew w1003 (cellsV (.agg c1006.toArray)) 122 fun a1007 w1008 =>
K (.tuple #[(.pointer (some a1007)), (.int .i64 0)]) w1008)
theorem W_small_New_Node {a0 : Value} {K : Value → World → Prop} {w : World} (h : S_small_New_Node a0 K w) : Ret P n_small_New_Node [a0] w K :=
  vcF_of mixed Tryz.func101 (show S_small_New_Node a0 K w = vcF P Tryz.f101 [a0] w K from by kernel_rfl) h
/- spunyarn/wide.New[*spunyarn/node.Node] -/
abbrev S_wide_New_Node (a0 : Value) (K : Value → World → Prop) (w0 : World) : Prop :=
/- 0 -/ XJ (fun J1000 =>
xNe a0 (.int .i64 48) fun v1004 =>
xIf v1004 (xNe a0 (.int .i64 256) fun v1005 =>
J1000 [v1005] w0) (J1000 [(.bool false)] w0)) fun vs1001 g1002 w1003 =>
xIf (vs1001.getD 0 undef) (K (.tuple #[(.pointer none), (.int .i64 1)]) w1003) (xFill z_wide_Board [(0, 1, a0)] fun c1006 =>
XNew w1003 (cellsV (.agg c1006.toArray)) 128 fun a1007 w1008 =>
K (.tuple #[(.pointer (some a1007)), (.int .i64 0)]) w1008)
theorem W_wide_New_Node {a0 : Value} {K : Value → World → Prop} {w : World} (h : S_wide_New_Node a0 K w) : Ret P n_wide_New_Node [a0] w K :=
  vcF_of mixed Tryz.func102 (show S_wide_New_Node a0 K w = vcF P Tryz.f102 [a0] w K from by kernel_rfl) h
/- slices.Grow[[]byte,byte] -/
abbrev S_slices_Grow_byte (a0 : Value) (a1 : Value) (K : Value → World → Prop) (w0 : World) : Prop :=
/-  -/ XJ (fun J1000 =>
xLt a1 (.int .i64 0) fun v1004 =>
xIf v1004 (False) (J1000 [] w0)) fun vs1001 g1002 w1003 =>
/- 0 n 1 s -/ XJ (fun J1005 =>
xCap a0 fun v1009 =>
xLen a0 fun v1010 =>
xSub v1009 v1010 fun v1011 =>
xSub a1 v1011 fun v1012 =>
xGt v1012 (.int .i64 0) fun v1013 =>
xIf v1013 (xCap a0 fun v1014 =>
xCutS 1 a0 none (some v1014) none fun v1015 =>
XRun P (Builtin.append_ #[23, 3] 23 #[v1015, v1012]) w1003 fun v1016 w1017 =>
xLen a0 fun v1018 =>
xCutS 1 v1016 none (some v1018) none fun v1019 =>
J1005 [v1012, v1019] w1017) (J1005 [v1012, a0] w1003)) fun vs1006 g1007 w1008 =>
K (vs1006.getD 1 undef) w1008
theorem W_slices_Grow_byte {a0 a1 : Value} {K : Value → World → Prop} {w : World} (h : S_slices_Grow_byte a0 a1 K w) : Ret P n_slices_Grow_byte [a0, a1] w K :=
  vcF_of mixed Tryz.func103 (show S_slices_Grow_byte a0 a1 K w = vcF P Tryz.f103 [a0, a1] w K from by kernel_rfl) h
/- slices.BinarySearch[[]byte,byte] -/
/- S_slices_BinarySearch_byte_l1: 0=slot 7 i 1=slot 8 j 2=slot 9 h -/
def S_slices_BinarySearch_byte_l1 (K : Value → World → Prop) (a0 : Value) (a1 : Value) (v1000 : Value) (I1001 : Nat → List Value → World → Prop) (n1002 : Nat) (vs1003 : List Value) (g1004 : Nat → Value) (w1005 : World) : Prop :=
xLt (vs1003.getD 0 undef) (vs1003.getD 1 undef) fun v1006 =>
xIf v1006 (xAdd (vs1003.getD 0 undef) (vs1003.getD 1 undef) fun v1007 =>
xConv .u64 v1007 fun v1008 =>
xShr v1008 (.int .u64 1) fun v1009 =>
xConv .i64 v1009 fun v1010 =>
xIxS a0 v1010 1 fun v1011 =>
xAt v1011 fun a1012 =>
XLd w1005 a1012 fun v1013 =>
Ret P n_cmp_Less_byte [v1013, a1] w1005 fun v1014 w1015 =>
xIf v1014 (xAdd v1010 (.int .i64 1) fun v1016 =>
XNext I1001 n1002 [v1016, (vs1003.getD 1 undef), v1010] w1015) (XNext I1001 n1002 [(vs1003.getD 0 undef), v1010, v1010] w1015)) (/- 0 1 -/ XJ (fun J1017 =>
xLt (vs1003.getD 0 undef) v1000 fun v1021 =>
xIf v1021 (xIxS a0 (vs1003.getD 0 undef) 1 fun v1022 =>
xAt v1022 fun a1023 =>
XLd w1005 a1023 fun v1024 =>
xEq v1024 a1 fun v1025 =>
xIf v1025 (J1017 [(vs1003.getD 0 undef), (.bool true)] w1005) (xIxS a0 (vs1003.getD 0 undef) 1 fun v1026 =>
xAt v1026 fun a1027 =>
XLd w1005 a1027 fun v1028 =>
Ret P n_slices_isNaN_byte [v1028] w1005 fun v1029 w1030 =>
xIf v1029 (Ret P n_slices_isNaN_byte [a1] w1030 fun v1031 w1032 =>
J1017 [(vs1003.getD 0 undef), v1031] w1032) (J1017 [(vs1003.getD 0 undef), (.bool false)] w1030))) (J1017 [(vs1003.getD 0 undef), (.bool false)] w1005)) fun vs1018 g1019 w1020 =>
K (.tuple #[(vs1018.getD 0 undef), (vs1018.getD 1 undef)]) w1020)
abbrev S_slices_BinarySearch_byte (a0 : Value) (a1 : Value) (K : Value → World → Prop) (w0 : World) : Prop :=
xLen a0 fun v1000 =>
XLoop [(.int .i64 0), v1000, undef] w0 (S_slices_BinarySearch_byte_l1 K a0 a1 v1000)
theorem W_slices_BinarySearch_byte {a0 a1 : Value} {K : Value → World → Prop} {w : World} (h : S_slices_BinarySearch_byte a0 a1 K w) : Ret P n_slices_BinarySearch_byte [a0, a1] w K :=
  vcF_of mixed Tryz.func104 (show S_slices_BinarySearch_byte a0 a1 K w = vcF P Tryz.f104 [a0, a1] w K from by kernel_rfl) h
/- slices.Clone[[]*spunyarn/node.Node,*spunyarn/node.Node] -/
abbrev S_slices_Clone_Node (a0 : Value) (K : Value → World → Prop) (w0 : World) : Prop :=
xLEq a0 (.slice none 0 0) fun v1000 =>
xIf v1000 (K (.slice none 0 0) w0) (xFill (repL [(.pointer none)] 0) [] fun c1001 =>
XNew w0 c1001 29 fun a1002 w1003 =>
XRun P (Builtin.append_ #[125, 125] 125 #[(.slice (some a1002) 0 0), a0]) w1003 fun v1004 w1005 =>
K v1004 w1005)
theorem W_slices_Clone_Node {a0 : Value} {K : Value → World → Prop} {w : World} (h : S_slices_Clone_Node a0 K w) : Ret P n_slices_Clone_Node [a0] w K :=
  vcF_of mixed Tryz.func105 (show S_slices_Clone_Node a0 K w = vcF P Tryz.f105 [a0] w K from by kernel_rfl) h
/- slices.Clone[[]uint16,uint16] -/
abbrev S_slices_Clone_uint16 (a0 : Value) (K : Value → World → Prop) (w0 : World) : Prop :=
xLEq a0 (.slice none 0 0) fun v1000 =>
xIf v1000 (K (.slice none 0 0) w0) (xFill (repL [(.int .u16 0)] 0) [] fun c1001 =>
XNew w0 c1001 123 fun a1002 w1003 =>
XRun P (Builtin.append_ #[126, 126] 126 #[(.slice (some a1002) 0 0), a0]) w1003 fun v1004 w1005 =>
K v1004 w1005)
theorem W_slices_Clone_uint16 {a0 : Value} {K : Value → World → Prop} {w : World} (h : S_slices_Clone_uint16 a0 K w) : Ret P n_slices_Clone_uint16 [a0] w K :=
  vcF_of mixed Tryz.func106 (show S_slices_Clone_uint16 a0 K w = vcF P Tryz.f106 [a0] w K from by kernel_rfl) h
/- (*spunyarn/wide.Board[*spunyarn/node.Node]).place -/
abbrev S_wide_Board_place (a0 : Value) (K : Value → World → Prop) (w0 : World) : Prop :=
xAt a0 fun a1000 =>
XLd w0 (a1000.add 259) fun v1001 =>
xLen v1001 fun v1002 =>
xGt v1002 (.int .i64 0) fun v1003 =>
xIf v1003 (xAt a0 fun a1004 =>
XLd w0 (a1004.add 259) fun v1005 =>
xSub v1002 (.int .i64 1) fun v1006 =>
xIxS v1005 v1006 1 fun v1007 =>
xAt v1007 fun a1008 =>
XLd w0 a1008 fun v1009 =>
xAt a0 fun a1010 =>
XLd w0 (a1010.add 259) fun v1011 =>
xSub v1002 (.int .i64 1) fun v1012 =>
xCutS 1 v1011 none (some v1012) none fun v1013 =>
xAt a0 fun a1014 =>
XSt w0 (a1014.add 259) v1013 fun w1015 =>
K v1009 w1015) (xAt a0 fun a1016 =>
XLd w0 (a1016.add 258) fun v1017 =>
xFill (repL [(.pointer none)] 1) [(0, 1, (.pointer none))] fun c1018 =>
XNew w0 c1018 29 fun a1019 w1020 =>
XRun P (Builtin.append_ #[125, 125] 125 #[v1017, (.slice (some a1019) 1 1)]) w1020 fun v1021 w1022 =>
xAt a0 fun a1023 =>
XSt w1022 (a1023.add 258) v1021 fun w1024 =>
xAt a0 fun a1025 =>
XLd w1024 (a1025.add 258) fun v1026 =>
xLen v1026 fun v1027 =>
xConv .u16 v1027 fun v1028 =>
K v1028 w1024)
theorem W_wide_Board_place {a0 : Value} {K : Value → World → Prop} {w : World} (h : S_wide_Board_place a0 K w) : Ret P n_wide_Board_place [a0] w K :=
  vcF_of mixed Tryz.func107 (show S_wide_Board_place a0 K w = vcF P Tryz.f107 [a0] w K from by kernel_rfl) h
/- cmp.Less[byte] -/
abbrev S_cmp_Less_byte (a0 : Value) (a1 : Value) (K : Value → World → Prop) (w0 : World) : Prop :=
/- 0 -/ XJ (fun J1000 =>
Ret P n_cmp_isNaN_byte [a0] w0 fun v1004 w1005 =>
xIf v1004 (Ret P n_cmp_isNaN_byte [a1] w1005 fun v1006 w1007 =>
xNot v1006 fun v1008 =>
xIf v1008 (J1000 [(.bool true)] w1007) (xLt a0 a1 fun v1009 =>
J1000 [v1009] w1007)) (xLt a0 a1 fun v1010 =>
J1000 [v1010] w1005)) fun vs1001 g1002 w1003 =>
K (vs1001.getD 0 undef) w1003
theorem W_cmp_Less_byte {a0 a1 : Value} {K : Value → World → Prop} {w : World} (h : S_cmp_Less_byte a0 a1 K w) : Ret P n_cmp_Less_byte [a0, a1] w K :=
  vcF_of mixed Tryz.func108 (show S_cmp_Less_byte a0 a1 K w = vcF P Tryz.f108 [a0, a1] w K from by kernel_rfl) h
/- slices.isNaN[byte] -/
abbrev S_slices_isNaN_byte (a0 : Value) (K : Value → World → Prop) (w0 : World) : Prop :=
xNe a0 a0 fun v1000 =>
K v1000 w0
theorem W_slices_isNaN_byte {a0 : Value} {K : Value → World → Prop} {w : World} (h : S_slices_isNaN_byte a0 K w) : Ret P n_slices_isNaN_byte [a0] w K :=
  vcF_of mixed Tryz.func109 (show S_slices_isNaN_byte a0 K w = vcF P Tryz.f109 [a0] w K from by kernel_rfl) h
/- cmp.isNaN[byte] -/
abbrev S_cmp_isNaN_byte (a0 : Value) (K : Value → World → Prop) (w0 : World) : Prop :=
xNe a0 a0 fun v1000 =>
K v1000 w0
theorem W_cmp_isNaN_byte {a0 : Value} {K : Value → World → Prop} {w : World} (h : S_cmp_isNaN_byte a0 K w) : Ret P n_cmp_isNaN_byte [a0] w K :=
  vcF_of mixed Tryz.func110 (show S_cmp_isNaN_byte a0 K w = vcF P Tryz.f110 [a0] w K from by kernel_rfl) h
end Go.Proofs.YtidkkkdlaclolaaGreat
