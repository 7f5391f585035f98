/-  Written by gen.py for this claim: of each function a form without frames, the same as the engine's condition by reckoning.  -/
import Derived.Test.YthnegkjhciakpaaGreatDoorSN
import Derived.Test.YthnegkjhciakpaaGreatDoorProg
namespace Go.Proofs.YthnegkjhciakpaaGreatDoor
open Go X
set_option linter.unusedVariables false
set_option maxRecDepth 100000
/- spunyarn/tree.New -/
abbrev S_tree_New  (K : Value → World → Prop) (w0 : World) : Prop :=
xFill [(.int .i64 0), (.int .u64 0)] [] fun c1000 =>
XNew w0 (cellsV (.agg c1000.toArray)) 195 fun a1001 w1002 =>
K (.pointer (some a1001)) w1002
theorem W_tree_New {K : Value → World → Prop} {w : World} (h : S_tree_New  K w) : Ret P n_tree_New [] w K :=
  vcF_of mixed Tryz.func39 (show S_tree_New  K w = vcF P Tryz.f39 [] w K from by kernel_rfl) h
/- (*spunyarn/tree.World).From -/
abbrev S_tree_World_From (a0 : Value) (a1 : Value) (K : Value → World → Prop) (w0 : World) : Prop :=
xPEq P w0 a0 (.pointer none) fun v1000 =>
xIf v1000 (K (.tuple #[(.pointer none), (.int .i64 2)]) w0) (Ret P n_tree_World_Meter [a0] w0 fun v1001 w1002 =>
Ret P n_tree_World_Owner [a0] w1002 fun v1003 w1004 =>
Ret P n_canon_Build [v1001, v1003, a1] w1004 fun v1005 w1006 =>
xTup v1005 0 fun v1007 =>
xTup v1005 1 fun v1008 =>
xNe v1008 (.int .i64 0) fun v1009 =>
xIf v1009 (K (.tuple #[(.pointer none), v1008]) w1006) (Ret P n_tree_World_Version [a0, v1007] w1006 fun v1010 w1011 =>
K (.tuple #[v1010, (.int .i64 0)]) w1011))
theorem W_tree_World_From {a0 a1 : Value} {K : Value → World → Prop} {w : World} (h : S_tree_World_From a0 a1 K w) : Ret P n_tree_World_From [a0, a1] w K :=
  vcF_of mixed Tryz.func40 (show S_tree_World_From a0 a1 K w = vcF P Tryz.f40 [a0, a1] w K from by kernel_rfl) h
/- (*spunyarn/tree.Version).Shape -/
abbrev S_tree_Version_Shape (a0 : Value) (K : Value → World → Prop) (w0 : World) : Prop :=
Ret P n_tree_Version_Root [a0] w0 fun v1000 w1001 =>
Ret P n_canon_Shape [v1000] w1001 fun v1002 w1003 =>
K v1002 w1003
theorem W_tree_Version_Shape {a0 : Value} {K : Value → World → Prop} {w : World} (h : S_tree_Version_Shape a0 K w) : Ret P n_tree_Version_Shape [a0] w K :=
  vcF_of mixed Tryz.func42 (show S_tree_Version_Shape a0 K w = vcF P Tryz.f42 [a0] w K from by kernel_rfl) h
/- spunyarn/trans.Edit -/
abbrev S_trans_Edit (a0 : Value) (K : Value → World → Prop) (w0 : World) : Prop :=
Ret P n_tree_Version_World [a0] w0 fun v1000 w1001 =>
xPEq P w1001 v1000 (.pointer none) fun v1002 =>
xIf v1002 (K (.tuple #[(.pointer none), (.int .i64 2)]) w1001) (Ret P n_tree_Version_World [a0] w1001 fun v1003 w1004 =>
Ret P n_tree_World_Owner [v1003] w1004 fun v1005 w1006 =>
xFill [(.pointer none), (.int .u64 0)] [(0, 1, a0), (1, 1, v1005)] fun c1007 =>
Ret P n_tree_Version_Root [a0] w1006 fun v1008 w1009 =>
Ret P n_tree_Version_Len [a0] w1009 fun v1010 w1011 =>
xFill [(.pointer none), (.int .u64 0), (.pointer none), (.int .i64 0), (.bool false)] [(0, 2, (.agg c1007.toArray)), (2, 1, v1008), (3, 1, v1010)] fun c1012 =>
XNew w1011 (cellsV (.agg c1012.toArray)) 119 fun a1013 w1014 =>
K (.tuple #[(.pointer (some a1013)), (.int .i64 0)]) w1014)
theorem W_trans_Edit {a0 : Value} {K : Value → World → Prop} {w : World} (h : S_trans_Edit a0 K w) : Ret P n_trans_Edit [a0] w K :=
  vcF_of mixed Tryz.func43 (show S_trans_Edit a0 K w = vcF P Tryz.f43 [a0] w K from by kernel_rfl) h
/- (*spunyarn/trans.Trans).Owner -/
abbrev S_trans_Trans_Owner (a0 : Value) (K : Value → World → Prop) (w0 : World) : Prop :=
xPEq P w0 a0 (.pointer none) fun v1000 =>
xIf v1000 (K (.int .u64 0) w0) (xAt a0 fun a1001 =>
XLdN w0 (a1001.add 0) 2 fun v1002 =>
Ret P n_trans_base_mine [v1002] w0 fun v1003 w1004 =>
K v1003 w1004)
theorem W_trans_Trans_Owner {a0 : Value} {K : Value → World → Prop} {w : World} (h : S_trans_Trans_Owner a0 K w) : Ret P n_trans_Trans_Owner [a0] w K :=
  vcF_of mixed Tryz.func44 (show S_trans_Trans_Owner a0 K w = vcF P Tryz.f44 [a0] w K from by kernel_rfl) h
/- (*spunyarn/trans.Trans).Put -/
abbrev S_trans_Trans_Put (a0 : Value) (a1 : Value) (a2 : Value) (K : Value → World → Prop) (w0 : World) : Prop :=
Ret P n_trans_Trans_may [a0] w0 fun v1000 w1001 =>
xNe v1000 (.int .i64 0) fun v1002 =>
xIf v1002 (K v1000 w1001) (xAt a0 fun a1003 =>
XLd w1001 (a1003.add 2) fun v1004 =>
Ret P n_find_Has [v1004, a1] w1001 fun v1005 w1006 =>
xAt a0 fun a1007 =>
XLd w1006.drew (a1007.add 2) fun v1008 =>
xAt a0 fun a1009 =>
XLdN w1006.drew (a1009.add 0) 2 fun v1010 =>
xAt a0 fun a1011 =>
XLdN w1006.drew (a1011.add 0) 2 fun v1012 =>
Ret P n_trans_base_mine [v1010] w1006.drew fun v1013 w1014 =>
xKeepN w1014 (.pointer (some (a1011.add 0))) v1012 ∧ (xKeep1 w1014 (.pointer (some (a1007.add 2))) v1008 ∧ (Ret P n_trans_base_world [v1012] w1014 fun v1015 w1016 =>
xKeep1 w1016 (.pointer (some (a1007.add 2))) v1008 ∧ (Ret P n_tree_World_Meter [v1015] w1016 fun v1017 w1018 =>
xKeep1 w1018 (.pointer (some (a1007.add 2))) v1008 ∧ (Ret P n_put_Put [v1008, a1, a2, v1013, v1017] w1018 fun v1019 w1020 =>
xTup v1019 0 fun v1021 =>
xTup v1019 1 fun v1022 =>
xNe v1022 (.int .i64 0) fun v1023 =>
xIf v1023 (K v1022 w1020) (xAt a0 fun a1024 =>
XSt w1020 (a1024.add 2) v1021 fun w1025 =>
/-  -/ XJ (fun J1026 =>
xNot v1005 fun v1030 =>
xIf v1030 (xAt a0 fun a1031 =>
XLd w1025 (a1031.add 3) fun v1032 =>
xAdd v1032 (.int .i64 1) fun v1033 =>
xAt a0 fun a1034 =>
XSt w1025 (a1034.add 3) v1033 fun w1035 =>
J1026 [] w1035) (J1026 [] w1025)) fun vs1027 g1028 w1029 =>
K (.int .i64 0) w1029))))))
theorem W_trans_Trans_Put {a0 a1 a2 : Value} {K : Value → World → Prop} {w : World} (h : S_trans_Trans_Put a0 a1 a2 K w) : Ret P n_trans_Trans_Put [a0, a1, a2] w K :=
  vcF_of mixed Tryz.func45 (show S_trans_Trans_Put a0 a1 a2 K w = vcF P Tryz.f45 [a0, a1, a2] w K from by kernel_rfl) h
/- (*spunyarn/trans.Trans).Del -/
abbrev S_trans_Trans_Del (a0 : Value) (a1 : Value) (K : Value → World → Prop) (w0 : World) : Prop :=
Ret P n_trans_Trans_may [a0] w0 fun v1000 w1001 =>
xNe v1000 (.int .i64 0) fun v1002 =>
xIf v1002 (K (.tuple #[(.bool false), v1000]) w1001) (xAt a0 fun a1003 =>
XLd w1001.drew (a1003.add 2) fun v1004 =>
xAt a0 fun a1005 =>
XLdN w1001.drew (a1005.add 0) 2 fun v1006 =>
xAt a0 fun a1007 =>
XLdN w1001.drew (a1007.add 0) 2 fun v1008 =>
Ret P n_trans_base_mine [v1006] w1001.drew fun v1009 w1010 =>
xKeepN w1010 (.pointer (some (a1007.add 0))) v1008 ∧ (xKeep1 w1010 (.pointer (some (a1003.add 2))) v1004 ∧ (Ret P n_trans_base_world [v1008] w1010 fun v1011 w1012 =>
xKeep1 w1012 (.pointer (some (a1003.add 2))) v1004 ∧ (Ret P n_tree_World_Meter [v1011] w1012 fun v1013 w1014 =>
xKeep1 w1014 (.pointer (some (a1003.add 2))) v1004 ∧ (Ret P n_del_Del [v1004, a1, v1009, v1013] w1014 fun v1015 w1016 =>
xTup v1015 0 fun v1017 =>
xTup v1015 1 fun v1018 =>
xTup v1015 2 fun v1019 =>
xNe v1019 (.int .i64 0) fun v1020 =>
xIf v1020 (K (.tuple #[(.bool false), v1019]) w1016) (xAt a0 fun a1021 =>
XSt w1016 (a1021.add 2) v1017 fun w1022 =>
/-  -/ XJ (fun J1023 =>
xIf v1018 (xAt a0 fun a1027 =>
XLd w1022 (a1027.add 3) fun v1028 =>
xSub v1028 (.int .i64 1) fun v1029 =>
xAt a0 fun a1030 =>
XSt w1022 (a1030.add 3) v1029 fun w1031 =>
J1023 [] w1031) (J1023 [] w1022)) fun vs1024 g1025 w1026 =>
K (.tuple #[v1018, (.int .i64 0)]) w1026))))))
theorem W_trans_Trans_Del {a0 a1 : Value} {K : Value → World → Prop} {w : World} (h : S_trans_Trans_Del a0 a1 K w) : Ret P n_trans_Trans_Del [a0, a1] w K :=
  vcF_of mixed Tryz.func46 (show S_trans_Trans_Del a0 a1 K w = vcF P Tryz.f46 [a0, a1] w K from by kernel_rfl) h
/- (*spunyarn/trans.Trans).Freeze -/
abbrev S_trans_Trans_Freeze (a0 : Value) (K : Value → World → Prop) (w0 : World) : Prop :=
Ret P n_trans_Trans_may [a0] w0 fun v1000 w1001 =>
xNe v1000 (.int .i64 0) fun v1002 =>
xIf v1002 (K (.tuple #[(.pointer none), v1000]) w1001) (xAt a0 fun a1003 =>
XSt w1001 (a1003.add 4) (.bool true) fun w1004 =>
xAt a0 fun a1005 =>
XLd w1004.drew (a1005.add 2) fun v1006 =>
xAt a0 fun a1007 =>
XLd w1004.drew ((a1007.add 0).add 0) fun v1008 =>
Ret P n_tree_Version_Root [v1008] w1004.drew fun v1009 w1010 =>
xKeep1 w1010 (.pointer (some (a1005.add 2))) v1006 ∧ (xPEq P w1010 v1006 v1009 fun v1011 =>
xIf v1011 (xAt a0 fun a1012 =>
XLd w1010 ((a1012.add 0).add 0) fun v1013 =>
K (.tuple #[v1013, (.int .i64 0)]) w1010) (xAt a0 fun a1014 =>
XLdN w1010.drew (a1014.add 0) 2 fun v1015 =>
xAt a0 fun a1016 =>
XLd w1010.drew (a1016.add 2) fun v1017 =>
Ret P n_trans_base_world [v1015] w1010.drew fun v1018 w1019 =>
xKeep1 w1019 (.pointer (some (a1016.add 2))) v1017 ∧ (Ret P n_tree_World_Version [v1018, v1017] w1019 fun v1020 w1021 =>
K (.tuple #[v1020, (.int .i64 0)]) w1021))))
theorem W_trans_Trans_Freeze {a0 : Value} {K : Value → World → Prop} {w : World} (h : S_trans_Trans_Freeze a0 K w) : Ret P n_trans_Trans_Freeze [a0] w K :=
  vcF_of mixed Tryz.func47 (show S_trans_Trans_Freeze a0 K w = vcF P Tryz.f47 [a0] w K from by kernel_rfl) h
/- (*spunyarn/tree.World).Made -/
abbrev S_tree_World_Made (a0 : Value) (K : Value → World → Prop) (w0 : World) : Prop :=
Ret P n_tree_World_Meter [a0] w0 fun v1000 w1001 =>
Ret P n_meter_Meter_Count [v1000] w1001 fun v1002 w1003 =>
K v1002 w1003
theorem W_tree_World_Made {a0 : Value} {K : Value → World → Prop} {w : World} (h : S_tree_World_Made a0 K w) : Ret P n_tree_World_Made [a0] w K :=
  vcF_of mixed Tryz.func48 (show S_tree_World_Made a0 K w = vcF P Tryz.f48 [a0] w K from by kernel_rfl) h
/- (*spunyarn/tree.Version).Root -/
abbrev S_tree_Version_Root (a0 : Value) (K : Value → World → Prop) (w0 : World) : Prop :=
xPEq P w0 a0 (.pointer none) fun v1000 =>
xIf v1000 (K (.pointer none) w0) (xAt a0 fun a1001 =>
XLd w0 (a1001.add 1) fun v1002 =>
K v1002 w0)
theorem W_tree_Version_Root {a0 : Value} {K : Value → World → Prop} {w : World} (h : S_tree_Version_Root a0 K w) : Ret P n_tree_Version_Root [a0] w K :=
  vcF_of mixed Tryz.func51 (show S_tree_Version_Root a0 K w = vcF P Tryz.f51 [a0] w K from by kernel_rfl) h
/- (*spunyarn/tree.Version).Put -/
abbrev S_tree_Version_Put (a0 : Value) (a1 : Value) (a2 : Value) (K : Value → World → Prop) (w0 : World) : Prop :=
Ret P n_tree_Version_ok [a0] w0 fun v1000 w1001 =>
xNot v1000 fun v1002 =>
xIf v1002 (K (.tuple #[(.pointer none), (.int .i64 2)]) w1001) (xAt a0 fun a1003 =>
XLd w1001.drew (a1003.add 1) fun v1004 =>
xAt a0 fun a1005 =>
XLd w1001.drew (a1005.add 0) fun v1006 =>
xAt a0 fun a1007 =>
XLd w1001.drew (a1007.add 0) fun v1008 =>
Ret P n_tree_World_Owner [v1006] w1001.drew fun v1009 w1010 =>
xKeep1 w1010 (.pointer (some (a1007.add 0))) v1008 ∧ (xKeep1 w1010 (.pointer (some (a1003.add 1))) v1004 ∧ (Ret P n_tree_World_Meter [v1008] w1010 fun v1011 w1012 =>
xKeep1 w1012 (.pointer (some (a1003.add 1))) v1004 ∧ (Ret P n_put_Put [v1004, a1, a2, v1009, v1011] w1012 fun v1013 w1014 =>
xTup v1013 0 fun v1015 =>
xTup v1013 1 fun v1016 =>
Ret P n_tree_Version_now [a0, v1015, v1016] w1014 fun v1017 w1018 =>
xTup v1017 0 fun v1019 =>
xTup v1017 1 fun v1020 =>
K (.tuple #[v1019, v1020]) w1018))))
theorem W_tree_Version_Put {a0 a1 a2 : Value} {K : Value → World → Prop} {w : World} (h : S_tree_Version_Put a0 a1 a2 K w) : Ret P n_tree_Version_Put [a0, a1, a2] w K :=
  vcF_of mixed Tryz.func52 (show S_tree_Version_Put a0 a1 a2 K w = vcF P Tryz.f52 [a0, a1, a2] w K from by kernel_rfl) h
/- (*spunyarn/trans.Trans).Get -/
abbrev S_trans_Trans_Get (a0 : Value) (a1 : Value) (K : Value → World → Prop) (w0 : World) : Prop :=
Ret P n_trans_Trans_may [a0] w0 fun v1000 w1001 =>
xNe v1000 (.int .i64 0) fun v1002 =>
xIf v1002 (K (.tuple #[(.int .u64 0), (.bool false), v1000]) w1001) (xAt a0 fun a1003 =>
XLd w1001 (a1003.add 2) fun v1004 =>
Ret P n_find_Get [v1004, a1] w1001 fun v1005 w1006 =>
xTup v1005 0 fun v1007 =>
xTup v1005 1 fun v1008 =>
K (.tuple #[v1007, v1008, (.int .i64 0)]) w1006)
theorem W_trans_Trans_Get {a0 a1 : Value} {K : Value → World → Prop} {w : World} (h : S_trans_Trans_Get a0 a1 K w) : Ret P n_trans_Trans_Get [a0, a1] w K :=
  vcF_of mixed Tryz.func53 (show S_trans_Trans_Get a0 a1 K w = vcF P Tryz.f53 [a0, a1] w K from by kernel_rfl) h
/- (*spunyarn/tree.Version).Len -/
abbrev S_tree_Version_Len (a0 : Value) (K : Value → World → Prop) (w0 : World) : Prop :=
XNew w0 (cellsV a0) 71 fun a1000 w1001 =>
XLd w1001 a1000 fun v1002 =>
Ret P n_tree_Version_ok [v1002] w1001 fun v1003 w1004 =>
xNot v1003 fun v1005 =>
xIf v1005 (K (.int .i64 0) w1004) (XLd w1004 a1000 fun v1006 =>
xAt v1006 fun a1007 =>
Ret P n_meter_Once_Get [(.pointer (some (a1007.add 2))), (.func (.func 111) #[] #[(.pointer (some a1000))])] w1004 fun v1008 w1009 =>
K v1008 w1009)
theorem W_tree_Version_Len {a0 : Value} {K : Value → World → Prop} {w : World} (h : S_tree_Version_Len a0 K w) : Ret P n_tree_Version_Len [a0] w K :=
  vcF_of mixed Tryz.func54 (show S_tree_Version_Len a0 K w = vcF P Tryz.f54 [a0] w K from by kernel_rfl) h
/- (*spunyarn/trans.Trans).Len -/
abbrev S_trans_Trans_Len (a0 : Value) (K : Value → World → Prop) (w0 : World) : Prop :=
Ret P n_trans_Trans_may [a0] w0 fun v1000 w1001 =>
xNe v1000 (.int .i64 0) fun v1002 =>
xIf v1002 (K (.tuple #[(.int .i64 0), v1000]) w1001) (xAt a0 fun a1003 =>
XLd w1001 (a1003.add 3) fun v1004 =>
K (.tuple #[v1004, (.int .i64 0)]) w1001)
theorem W_trans_Trans_Len {a0 : Value} {K : Value → World → Prop} {w : World} (h : S_trans_Trans_Len a0 K w) : Ret P n_trans_Trans_Len [a0] w K :=
  vcF_of mixed Tryz.func55 (show S_trans_Trans_Len a0 K w = vcF P Tryz.f55 [a0] w K from by kernel_rfl) h
/- (*spunyarn/trans.Trans).List -/
abbrev S_trans_Trans_List (a0 : Value) (K : Value → World → Prop) (w0 : World) : Prop :=
Ret P n_trans_Trans_may [a0] w0 fun v1000 w1001 =>
xNe v1000 (.int .i64 0) fun v1002 =>
xIf v1002 (K (.tuple #[(.slice none 0 0), v1000]) w1001) (xAt a0 fun a1003 =>
XLd w1001 (a1003.add 2) fun v1004 =>
Ret P n_canon_List [v1004] w1001 fun v1005 w1006 =>
K (.tuple #[v1005, (.int .i64 0)]) w1006)
theorem W_trans_Trans_List {a0 : Value} {K : Value → World → Prop} {w : World} (h : S_trans_Trans_List a0 K w) : Ret P n_trans_Trans_List [a0] w K :=
  vcF_of mixed Tryz.func56 (show S_trans_Trans_List a0 K w = vcF P Tryz.f56 [a0] w K from by kernel_rfl) h
/- (*spunyarn/trans.Trans).Frozen -/
abbrev S_trans_Trans_Frozen (a0 : Value) (K : Value → World → Prop) (w0 : World) : Prop :=
/- 0 -/ XJ (fun J1000 =>
xPNe P w0 a0 (.pointer none) fun v1004 =>
xIf v1004 (xAt a0 fun a1005 =>
XLd w0 (a1005.add 4) fun v1006 =>
J1000 [v1006] w0) (J1000 [(.bool false)] w0)) fun vs1001 g1002 w1003 =>
K (vs1001.getD 0 undef) w1003
theorem W_trans_Trans_Frozen {a0 : Value} {K : Value → World → Prop} {w : World} (h : S_trans_Trans_Frozen a0 K w) : Ret P n_trans_Trans_Frozen [a0] w K :=
  vcF_of mixed Tryz.func57 (show S_trans_Trans_Frozen a0 K w = vcF P Tryz.f57 [a0] w K from by kernel_rfl) h
/- (*spunyarn/tree.Version).List -/
abbrev S_tree_Version_List (a0 : Value) (K : Value → World → Prop) (w0 : World) : Prop :=
Ret P n_tree_Version_Root [a0] w0 fun v1000 w1001 =>
Ret P n_canon_List [v1000] w1001 fun v1002 w1003 =>
K v1002 w1003
theorem W_tree_Version_List {a0 : Value} {K : Value → World → Prop} {w : World} (h : S_tree_Version_List a0 K w) : Ret P n_tree_Version_List [a0] w K :=
  vcF_of mixed Tryz.func61 (show S_tree_Version_List a0 K w = vcF P Tryz.f61 [a0] w K from by kernel_rfl) h
/- (*spunyarn/tree.Version).World -/
abbrev S_tree_Version_World (a0 : Value) (K : Value → World → Prop) (w0 : World) : Prop :=
xPEq P w0 a0 (.pointer none) fun v1000 =>
xIf v1000 (K (.pointer none) w0) (xAt a0 fun a1001 =>
XLd w0 (a1001.add 0) fun v1002 =>
K v1002 w0)
theorem W_tree_Version_World {a0 : Value} {K : Value → World → Prop} {w : World} (h : S_tree_Version_World a0 K w) : Ret P n_tree_Version_World [a0] w K :=
  vcF_of mixed Tryz.func63 (show S_tree_Version_World a0 K w = vcF P Tryz.f63 [a0] w K from by kernel_rfl) h
/- (*spunyarn/tree.World).Meter -/
abbrev S_tree_World_Meter (a0 : Value) (K : Value → World → Prop) (w0 : World) : Prop :=
xPEq P w0 a0 (.pointer none) fun v1000 =>
xIf v1000 (K (.pointer none) w0) (xAt a0 fun a1001 =>
K (.pointer (some (a1001.add 0))) w0)
theorem W_tree_World_Meter {a0 : Value} {K : Value → World → Prop} {w : World} (h : S_tree_World_Meter a0 K w) : Ret P n_tree_World_Meter [a0] w K :=
  vcF_of mixed Tryz.func99 (show S_tree_World_Meter a0 K w = vcF P Tryz.f99 [a0] w K from by kernel_rfl) h
/- (*spunyarn/tree.World).Owner -/
abbrev S_tree_World_Owner (a0 : Value) (K : Value → World → Prop) (w0 : World) : Prop :=
xPEq P w0 a0 (.pointer none) fun v1000 =>
xIf v1000 (K (.int .u64 0) w0) (xAt a0 fun a1001 =>
Ret P n_meter_Owners_Next [(.pointer (some (a1001.add 1)))] w0 fun v1002 w1003 =>
K v1002 w1003)
theorem W_tree_World_Owner {a0 : Value} {K : Value → World → Prop} {w : World} (h : S_tree_World_Owner a0 K w) : Ret P n_tree_World_Owner [a0] w K :=
  vcF_of mixed Tryz.func100 (show S_tree_World_Owner a0 K w = vcF P Tryz.f100 [a0] w K from by kernel_rfl) h
/- (*spunyarn/tree.World).Version -/
abbrev S_tree_World_Version (a0 : Value) (a1 : Value) (K : Value → World → Prop) (w0 : World) : Prop :=
xPEq P w0 a0 (.pointer none) fun v1000 =>
xIf v1000 (K (.pointer none) w0) (xFill [(.pointer none), (.pointer none), (.int .u32 0), (.int .i32 0), (.int .u32 0), (.int .i64 0), (.bool false)] [(0, 1, a0), (1, 1, a1)] fun c1001 =>
XNew w0 (cellsV (.agg c1001.toArray)) 114 fun a1002 w1003 =>
K (.pointer (some a1002)) w1003)
theorem W_tree_World_Version {a0 a1 : Value} {K : Value → World → Prop} {w : World} (h : S_tree_World_Version a0 a1 K w) : Ret P n_tree_World_Version [a0, a1] w K :=
  vcF_of mixed Tryz.func101 (show S_tree_World_Version a0 a1 K w = vcF P Tryz.f101 [a0, a1] w K from by kernel_rfl) h
/- (spunyarn/trans.base).mine -/
abbrev S_trans_base_mine (a0 : Value) (K : Value → World → Prop) (w0 : World) : Prop :=
XNew w0 (cellsV a0) 117 fun a1000 w1001 =>
XLd w1001 (a1000.add 1) fun v1002 =>
K v1002 w1001
theorem W_trans_base_mine {a0 : Value} {K : Value → World → Prop} {w : World} (h : S_trans_base_mine a0 K w) : Ret P n_trans_base_mine [a0] w K :=
  vcF_of mixed Tryz.func102 (show S_trans_base_mine a0 K w = vcF P Tryz.f102 [a0] w K from by kernel_rfl) h
/- (*spunyarn/trans.Trans).may -/
abbrev S_trans_Trans_may (a0 : Value) (K : Value → World → Prop) (w0 : World) : Prop :=
/- 0 -/ XJ (fun J1000 =>
xPEq P w0 a0 (.pointer none) fun v1004 =>
xIf v1004 (J1000 [(.bool true)] w0) (xAt a0 fun a1005 =>
XLd w0 ((a1005.add 0).add 0) fun v1006 =>
xPEq P w0 v1006 (.pointer none) fun v1007 =>
J1000 [v1007] w0)) fun vs1001 g1002 w1003 =>
xIf (vs1001.getD 0 undef) (K (.int .i64 2) w1003) (xAt a0 fun a1008 =>
XLd w1003 (a1008.add 4) fun v1009 =>
xIf v1009 (K (.int .i64 11) w1003) (K (.int .i64 0) w1003))
theorem W_trans_Trans_may {a0 : Value} {K : Value → World → Prop} {w : World} (h : S_trans_Trans_may a0 K w) : Ret P n_trans_Trans_may [a0] w K :=
  vcF_of mixed Tryz.func103 (show S_trans_Trans_may a0 K w = vcF P Tryz.f103 [a0] w K from by kernel_rfl) h
/- (spunyarn/trans.base).world -/
abbrev S_trans_base_world (a0 : Value) (K : Value → World → Prop) (w0 : World) : Prop :=
XNew w0 (cellsV a0) 117 fun a1000 w1001 =>
XLd w1001 (a1000.add 0) fun v1002 =>
Ret P n_tree_Version_World [v1002] w1001 fun v1003 w1004 =>
K v1003 w1004
theorem W_trans_base_world {a0 : Value} {K : Value → World → Prop} {w : World} (h : S_trans_base_world a0 K w) : Ret P n_trans_base_world [a0] w K :=
  vcF_of mixed Tryz.func105 (show S_trans_base_world a0 K w = vcF P Tryz.f105 [a0] w K from by kernel_rfl) h
/- (*spunyarn/tree.Version).ok -/
abbrev S_tree_Version_ok (a0 : Value) (K : Value → World → Prop) (w0 : World) : Prop :=
/- 0 -/ XJ (fun J1000 =>
xPNe P w0 a0 (.pointer none) fun v1004 =>
xIf v1004 (xAt a0 fun a1005 =>
XLd w0 (a1005.add 0) fun v1006 =>
xPNe P w0 v1006 (.pointer none) fun v1007 =>
J1000 [v1007] w0) (J1000 [(.bool false)] w0)) fun vs1001 g1002 w1003 =>
K (vs1001.getD 0 undef) w1003
theorem W_tree_Version_ok {a0 : Value} {K : Value → World → Prop} {w : World} (h : S_tree_Version_ok a0 K w) : Ret P n_tree_Version_ok [a0] w K :=
  vcF_of mixed Tryz.func107 (show S_tree_Version_ok a0 K w = vcF P Tryz.f107 [a0] w K from by kernel_rfl) h
/- (*spunyarn/tree.Version).now -/
abbrev S_tree_Version_now (a0 : Value) (a1 : Value) (a2 : Value) (K : Value → World → Prop) (w0 : World) : Prop :=
xNe a2 (.int .i64 0) fun v1000 =>
xIf v1000 (K (.tuple #[(.pointer none), a2]) w0) (xAt a0 fun a1001 =>
XLd w0 (a1001.add 1) fun v1002 =>
xPEq P w0 a1 v1002 fun v1003 =>
xIf v1003 (K (.tuple #[a0, (.int .i64 0)]) w0) (xAt a0 fun a1004 =>
XLd w0 (a1004.add 0) fun v1005 =>
Ret P n_tree_World_Version [v1005, a1] w0 fun v1006 w1007 =>
K (.tuple #[v1006, (.int .i64 0)]) w1007))
theorem W_tree_Version_now {a0 a1 a2 : Value} {K : Value → World → Prop} {w : World} (h : S_tree_Version_now a0 a1 a2 K w) : Ret P n_tree_Version_now [a0, a1, a2] w K :=
  vcF_of mixed Tryz.func108 (show S_tree_Version_now a0 a1 a2 K w = vcF P Tryz.f108 [a0, a1, a2] w K from by kernel_rfl) h
/- (*spunyarn/meter.Once).Get -/
abbrev S_meter_Once_Get (a0 : Value) (a1 : Value) (K : Value → World → Prop) (w0 : World) : Prop :=
XNew w0 (cellsV a0) 259 fun a1000 w1001 =>
XNew w1001 (cellsV a1) 58 fun a1002 w1003 =>
XLd w1003 a1000 fun v1004 =>
xPEq P w1003 v1004 (.pointer none) fun v1005 =>
xIf v1005 (K (.int .i64 0) w1003) (XLd w1003 a1000 fun v1006 =>
xAt v1006 fun a1007 =>
Ret P n_sync_Once_Do [(.pointer (some (a1007.add 0))), (.func (.func 175) #[] #[(.pointer (some a1002)), (.pointer (some a1000))])] w1003 fun v1008 w1009 =>
XLd w1009 a1000 fun v1010 =>
xAt v1010 fun a1011 =>
XLd w1009 (a1011.add 3) fun v1012 =>
K v1012 w1009)
theorem W_meter_Once_Get {a0 a1 : Value} {K : Value → World → Prop} {w : World} (h : S_meter_Once_Get a0 a1 K w) : Ret P n_meter_Once_Get [a0, a1] w K :=
  vcF_of mixed Tryz.func110 (show S_meter_Once_Get a0 a1 K w = vcF P Tryz.f110 [a0, a1] w K from by kernel_rfl) h
/- (*spunyarn/tree.Version).Len$1 -/
abbrev S_tree_Version_Len_1 (a0 : Value) (K : Value → World → Prop) (w0 : World) : Prop :=
xAt a0 fun a1000 =>
XLd w0 a1000 fun v1001 =>
xAt v1001 fun a1002 =>
XLd w0 (a1002.add 1) fun v1003 =>
Ret P n_canon_Count [v1003] w0 fun v1004 w1005 =>
K v1004 w1005
theorem W_tree_Version_Len_1 {a0 : Value} {K : Value → World → Prop} {w : World} (h : S_tree_Version_Len_1 a0 K w) : Ret P n_tree_Version_Len_1 [a0] w K :=
  vcF_of mixed Tryz.func111 (show S_tree_Version_Len_1 a0 K w = vcF P Tryz.f111 [a0] w K from by kernel_rfl) h
/- (*spunyarn/tree.Version).Get -/
abbrev S_tree_Version_Get (a0 : Value) (a1 : Value) (K : Value → World → Prop) (w0 : World) : Prop :=
Ret P n_tree_Version_Root [a0] w0 fun v1000 w1001 =>
Ret P n_find_Get [v1000, a1] w1001 fun v1002 w1003 =>
xTup v1002 0 fun v1004 =>
xTup v1002 1 fun v1005 =>
K (.tuple #[v1004, v1005]) w1003
theorem W_tree_Version_Get {a0 a1 : Value} {K : Value → World → Prop} {w : World} (h : S_tree_Version_Get a0 a1 K w) : Ret P n_tree_Version_Get [a0, a1] w K :=
  vcF_of mixed Tryz.func120 (show S_tree_Version_Get a0 a1 K w = vcF P Tryz.f120 [a0, a1] w K from by kernel_rfl) h
/- (*spunyarn/tree.Version).Del -/
abbrev S_tree_Version_Del (a0 : Value) (a1 : Value) (K : Value → World → Prop) (w0 : World) : Prop :=
Ret P n_tree_Version_ok [a0] w0 fun v1000 w1001 =>
xNot v1000 fun v1002 =>
xIf v1002 (K (.tuple #[(.pointer none), (.bool false), (.int .i64 2)]) w1001) (xAt a0 fun a1003 =>
XLd w1001.drew (a1003.add 1) fun v1004 =>
xAt a0 fun a1005 =>
XLd w1001.drew (a1005.add 0) fun v1006 =>
xAt a0 fun a1007 =>
XLd w1001.drew (a1007.add 0) fun v1008 =>
Ret P n_tree_World_Owner [v1006] w1001.drew fun v1009 w1010 =>
xKeep1 w1010 (.pointer (some (a1007.add 0))) v1008 ∧ (xKeep1 w1010 (.pointer (some (a1003.add 1))) v1004 ∧ (Ret P n_tree_World_Meter [v1008] w1010 fun v1011 w1012 =>
xKeep1 w1012 (.pointer (some (a1003.add 1))) v1004 ∧ (Ret P n_del_Del [v1004, a1, v1009, v1011] w1012 fun v1013 w1014 =>
xTup v1013 0 fun v1015 =>
xTup v1013 1 fun v1016 =>
xTup v1013 2 fun v1017 =>
Ret P n_tree_Version_now [a0, v1015, v1017] w1014 fun v1018 w1019 =>
xTup v1018 0 fun v1020 =>
xTup v1018 1 fun v1021 =>
K (.tuple #[v1020, v1016, v1021]) w1019))))
theorem W_tree_Version_Del {a0 a1 : Value} {K : Value → World → Prop} {w : World} (h : S_tree_Version_Del a0 a1 K w) : Ret P n_tree_Version_Del [a0, a1] w K :=
  vcF_of mixed Tryz.func121 (show S_tree_Version_Del a0 a1 K w = vcF P Tryz.f121 [a0, a1] w K from by kernel_rfl) h
/- (*spunyarn/tree.Version).Sub -/
abbrev S_tree_Version_Sub (a0 : Value) (a1 : Value) (K : Value → World → Prop) (w0 : World) : Prop :=
Ret P n_tree_Version_ok [a0] w0 fun v1000 w1001 =>
xNot v1000 fun v1002 =>
xIf v1002 (K (.tuple #[(.pointer none), (.int .i64 2)]) w1001) (xAt a0 fun a1003 =>
XLd w1001.drew (a1003.add 1) fun v1004 =>
xAt a0 fun a1005 =>
XLd w1001.drew (a1005.add 0) fun v1006 =>
xAt a0 fun a1007 =>
XLd w1001.drew (a1007.add 0) fun v1008 =>
Ret P n_tree_World_Owner [v1006] w1001.drew fun v1009 w1010 =>
xKeep1 w1010 (.pointer (some (a1007.add 0))) v1008 ∧ (xKeep1 w1010 (.pointer (some (a1003.add 1))) v1004 ∧ (Ret P n_tree_World_Meter [v1008] w1010 fun v1011 w1012 =>
xKeep1 w1012 (.pointer (some (a1003.add 1))) v1004 ∧ (Ret P n_sub_Sub [v1004, a1, v1009, v1011] w1012 fun v1013 w1014 =>
xTup v1013 0 fun v1015 =>
xTup v1013 1 fun v1016 =>
Ret P n_tree_Version_now [a0, v1015, v1016] w1014 fun v1017 w1018 =>
xTup v1017 0 fun v1019 =>
xTup v1017 1 fun v1020 =>
K (.tuple #[v1019, v1020]) w1018))))
theorem W_tree_Version_Sub {a0 a1 : Value} {K : Value → World → Prop} {w : World} (h : S_tree_Version_Sub a0 a1 K w) : Ret P n_tree_Version_Sub [a0, a1] w K :=
  vcF_of mixed Tryz.func123 (show S_tree_Version_Sub a0 a1 K w = vcF P Tryz.f123 [a0, a1] w K from by kernel_rfl) h
/- (*spunyarn/tree.Version).Strip -/
abbrev S_tree_Version_Strip (a0 : Value) (a1 : Value) (K : Value → World → Prop) (w0 : World) : Prop :=
Ret P n_tree_Version_ok [a0] w0 fun v1000 w1001 =>
xNot v1000 fun v1002 =>
xIf v1002 (K (.tuple #[(.pointer none), (.int .i64 2)]) w1001) (xAt a0 fun a1003 =>
XLd w1001.drew (a1003.add 1) fun v1004 =>
xAt a0 fun a1005 =>
XLd w1001.drew (a1005.add 0) fun v1006 =>
xAt a0 fun a1007 =>
XLd w1001.drew (a1007.add 0) fun v1008 =>
Ret P n_tree_World_Owner [v1006] w1001.drew fun v1009 w1010 =>
xKeep1 w1010 (.pointer (some (a1007.add 0))) v1008 ∧ (xKeep1 w1010 (.pointer (some (a1003.add 1))) v1004 ∧ (Ret P n_tree_World_Meter [v1008] w1010 fun v1011 w1012 =>
xKeep1 w1012 (.pointer (some (a1003.add 1))) v1004 ∧ (Ret P n_sub_Strip [v1004, a1, v1009, v1011] w1012 fun v1013 w1014 =>
xTup v1013 0 fun v1015 =>
xTup v1013 1 fun v1016 =>
Ret P n_tree_Version_now [a0, v1015, v1016] w1014 fun v1017 w1018 =>
xTup v1017 0 fun v1019 =>
xTup v1017 1 fun v1020 =>
K (.tuple #[v1019, v1020]) w1018))))
theorem W_tree_Version_Strip {a0 a1 : Value} {K : Value → World → Prop} {w : World} (h : S_tree_Version_Strip a0 a1 K w) : Ret P n_tree_Version_Strip [a0, a1] w K :=
  vcF_of mixed Tryz.func124 (show S_tree_Version_Strip a0 a1 K w = vcF P Tryz.f124 [a0, a1] w K from by kernel_rfl) h
/- (*spunyarn/tree.Version).Under -/
abbrev S_tree_Version_Under (a0 : Value) (a1 : Value) (K : Value → World → Prop) (w0 : World) : Prop :=
Ret P n_tree_Version_ok [a0] w0 fun v1000 w1001 =>
xNot v1000 fun v1002 =>
xIf v1002 (K (.tuple #[(.pointer none), (.int .i64 2)]) w1001) (xAt a0 fun a1003 =>
XLd w1001.drew (a1003.add 1) fun v1004 =>
xAt a0 fun a1005 =>
XLd w1001.drew (a1005.add 0) fun v1006 =>
xAt a0 fun a1007 =>
XLd w1001.drew (a1007.add 0) fun v1008 =>
Ret P n_tree_World_Owner [v1006] w1001.drew fun v1009 w1010 =>
xKeep1 w1010 (.pointer (some (a1007.add 0))) v1008 ∧ (xKeep1 w1010 (.pointer (some (a1003.add 1))) v1004 ∧ (Ret P n_tree_World_Meter [v1008] w1010 fun v1011 w1012 =>
xKeep1 w1012 (.pointer (some (a1003.add 1))) v1004 ∧ (Ret P n_sub_Under [v1004, a1, v1009, v1011] w1012 fun v1013 w1014 =>
xTup v1013 0 fun v1015 =>
xTup v1013 1 fun v1016 =>
Ret P n_tree_Version_now [a0, v1015, v1016] w1014 fun v1017 w1018 =>
xTup v1017 0 fun v1019 =>
xTup v1017 1 fun v1020 =>
K (.tuple #[v1019, v1020]) w1018))))
theorem W_tree_Version_Under {a0 a1 : Value} {K : Value → World → Prop} {w : World} (h : S_tree_Version_Under a0 a1 K w) : Ret P n_tree_Version_Under [a0, a1] w K :=
  vcF_of mixed Tryz.func125 (show S_tree_Version_Under a0 a1 K w = vcF P Tryz.f125 [a0, a1] w K from by kernel_rfl) h
/- (*spunyarn/meter.Owners).Next -/
abbrev S_meter_Owners_Next (a0 : Value) (K : Value → World → Prop) (w0 : World) : Prop :=
xPEq P w0 a0 (.pointer none) fun v1000 =>
xIf v1000 (K (.int .u64 0) w0) (xAt a0 fun a1001 =>
Ret P n_atomic_Uint64_Add [(.pointer (some (a1001.add 0))), (.int .u64 1)] w0 fun v1002 w1003 =>
K v1002 w1003)
theorem W_meter_Owners_Next {a0 : Value} {K : Value → World → Prop} {w : World} (h : S_meter_Owners_Next a0 K w) : Ret P n_meter_Owners_Next [a0] w K :=
  vcF_of mixed Tryz.func168 (show S_meter_Owners_Next a0 K w = vcF P Tryz.f168 [a0] w K from by kernel_rfl) h
/- (*sync.Once).Do -/
abbrev S_sync_Once_Do (a0 : Value) (a1 : Value) (K : Value → World → Prop) (w0 : World) : Prop :=
xAt a0 fun a1000 =>
Ret P n_atomic_Bool_Load [(.pointer (some (a1000.add 0)))] w0 fun v1001 w1002 =>
xNot v1001 fun v1003 =>
xIf v1003 (Ret P n_sync_Once_doSlow [a0, a1] w1002 fun v1004 w1005 =>
K (.tuple #[]) w1005) (K (.tuple #[]) w1002)
theorem W_sync_Once_Do {a0 a1 : Value} {K : Value → World → Prop} {w : World} (h : S_sync_Once_Do a0 a1 K w) : Ret P n_sync_Once_Do [a0, a1] w K :=
  vcF_of mixed Tryz.func174 (show S_sync_Once_Do a0 a1 K w = vcF P Tryz.f174 [a0, a1] w K from by kernel_rfl) h
/- (*spunyarn/meter.Once).Get$1 -/
abbrev S_meter_Once_Get_1 (a0 : Value) (a1 : Value) (K : Value → World → Prop) (w0 : World) : Prop :=
xAt a1 fun a1000 =>
XLd w0.drew a1000 fun v1001 =>
xAt a1 fun a1002 =>
XLd w0.drew a1002 fun v1003 =>
xAt a0 fun a1004 =>
XLd w0.drew a1004 fun v1005 =>
xFunc v1005 [] fun f1006 xs1007 =>
xCall P f1006 xs1007 w0.drew fun v1008 w1009 =>
xKeep1 w1009 a1 v1003 ∧ (xKeep1 w1009 a1 v1001 ∧ (xAt v1001 fun a1010 =>
XSt w1009 (a1010.add 3) v1008 fun w1011 =>
xKeep1 w1011 a1 v1003 ∧ (xAt v1003 fun a1012 =>
XSt w1011 (a1012.add 4) (.bool true) fun w1013 =>
K (.tuple #[]) w1013)))
theorem W_meter_Once_Get_1 {a0 a1 : Value} {K : Value → World → Prop} {w : World} (h : S_meter_Once_Get_1 a0 a1 K w) : Ret P n_meter_Once_Get_1 [a0, a1] w K :=
  vcF_of mixed Tryz.func175 (show S_meter_Once_Get_1 a0 a1 K w = vcF P Tryz.f175 [a0, a1] w K from by kernel_rfl) h
/- spunyarn/spunyarnref20.Freeze -/
abbrev S_ref20_Freeze (a0 : Value) (K : Value → World → Prop) (w0 : World) : Prop :=
XNew w0 (cellsV a0) 209 fun a1000 w1001 =>
XNew w1001 [(.slice none 0 0), (.bool false)] 209 fun a1002 w1003 =>
XLd w1003 (a1000.add 1) fun v1004 =>
xIf v1004 (XLdN w1003 a1000 2 fun v1005 =>
XDo P (storeVar 209 a1002 v1005) w1003 fun w1006 =>
XLdN w1006 a1002 2 fun v1007 =>
K (.tuple #[v1007, (.slice none 0 0), (.int .i64 11)]) w1006) (XSt w1003 (a1000.add 1) (.bool true) fun w1008 =>
XLdN w1008.drew a1000 2 fun v1009 =>
XLd w1008.drew (a1000.add 0) fun v1010 =>
XDo P (storeVar 209 a1002 v1009) w1008.drew fun w1011 =>
xKeep1 w1011 (.pointer (some (a1000.add 0))) v1010 ∧ (XLdN w1011 a1002 2 fun v1012 =>
K (.tuple #[v1012, v1010, (.int .i64 0)]) w1011))
theorem W_ref20_Freeze {a0 : Value} {K : Value → World → Prop} {w : World} (h : S_ref20_Freeze a0 K w) : Ret P n_ref20_Freeze [a0] w K :=
  vcF_of mixed Tryz.func178 (show S_ref20_Freeze a0 K w = vcF P Tryz.f178 [a0] w K from by kernel_rfl) h
/- spunyarn/spunyarnref20.Del -/
abbrev S_ref20_Del (a0 : Value) (a1 : Value) (K : Value → World → Prop) (w0 : World) : Prop :=
XNew w0 (cellsV a0) 209 fun a1000 w1001 =>
XNew w1001 [(.slice none 0 0), (.bool false)] 209 fun a1002 w1003 =>
XLd w1003 (a1000.add 1) fun v1004 =>
xIf v1004 (XLdN w1003 a1000 2 fun v1005 =>
XDo P (storeVar 209 a1002 v1005) w1003 fun w1006 =>
XLdN w1006 a1002 2 fun v1007 =>
K (.tuple #[v1007, (.bool false), (.int .i64 11)]) w1006) (XLd w1003 (a1000.add 0) fun v1008 =>
Ret P n_ref16_Del [v1008, a1] w1003 fun v1009 w1010 =>
xTup v1009 0 fun v1011 =>
xTup v1009 1 fun v1012 =>
XSt w1010 (a1000.add 0) v1011 fun w1013 =>
XLdN w1013 a1000 2 fun v1014 =>
XDo P (storeVar 209 a1002 v1014) w1013 fun w1015 =>
XLdN w1015 a1002 2 fun v1016 =>
K (.tuple #[v1016, v1012, (.int .i64 0)]) w1015)
theorem W_ref20_Del {a0 a1 : Value} {K : Value → World → Prop} {w : World} (h : S_ref20_Del a0 a1 K w) : Ret P n_ref20_Del [a0, a1] w K :=
  vcF_of mixed Tryz.func179 (show S_ref20_Del a0 a1 K w = vcF P Tryz.f179 [a0, a1] w K from by kernel_rfl) h
/- spunyarn/spunyarnref20.Put -/
abbrev S_ref20_Put (a0 : Value) (a1 : Value) (a2 : Value) (K : Value → World → Prop) (w0 : World) : Prop :=
XNew w0 (cellsV a0) 209 fun a1000 w1001 =>
XNew w1001 [(.slice none 0 0), (.bool false)] 209 fun a1002 w1003 =>
XLd w1003 (a1000.add 1) fun v1004 =>
xIf v1004 (XLdN w1003 a1000 2 fun v1005 =>
XDo P (storeVar 209 a1002 v1005) w1003 fun w1006 =>
XLdN w1006 a1002 2 fun v1007 =>
K (.tuple #[v1007, (.int .i64 11)]) w1006) (XLd w1003 (a1000.add 0) fun v1008 =>
Ret P n_ref15_Put [v1008, a1, a2] w1003 fun v1009 w1010 =>
XSt w1010 (a1000.add 0) v1009 fun w1011 =>
XLdN w1011 a1000 2 fun v1012 =>
XDo P (storeVar 209 a1002 v1012) w1011 fun w1013 =>
XLdN w1013 a1002 2 fun v1014 =>
K (.tuple #[v1014, (.int .i64 0)]) w1013)
theorem W_ref20_Put {a0 a1 a2 : Value} {K : Value → World → Prop} {w : World} (h : S_ref20_Put a0 a1 a2 K w) : Ret P n_ref20_Put [a0, a1, a2] w K :=
  vcF_of mixed Tryz.func180 (show S_ref20_Put a0 a1 a2 K w = vcF P Tryz.f180 [a0, a1, a2] w K from by kernel_rfl) h
/- (*sync.Mutex).Lock -/
abbrev S_sync_Mutex_Lock (a0 : Value) (K : Value → World → Prop) (w0 : World) : Prop :=
xAt a0 fun a1000 =>
Ret P n_sync_Mutex_Lock_266 [(.pointer (some (a1000.add 0)))] w0 fun v1001 w1002 =>
K (.tuple #[]) w1002
theorem W_sync_Mutex_Lock {a0 : Value} {K : Value → World → Prop} {w : World} (h : S_sync_Mutex_Lock a0 K w) : Ret P n_sync_Mutex_Lock [a0] w K :=
  vcF_of mixed Tryz.func252 (show S_sync_Mutex_Lock a0 K w = vcF P Tryz.f252 [a0] w K from by kernel_rfl) h
/- (*sync.Mutex).Unlock -/
abbrev S_sync_Mutex_Unlock (a0 : Value) (K : Value → World → Prop) (w0 : World) : Prop :=
xAt a0 fun a1000 =>
Ret P n_sync_Mutex_Unlock_267 [(.pointer (some (a1000.add 0)))] w0 fun v1001 w1002 =>
K (.tuple #[]) w1002
theorem W_sync_Mutex_Unlock {a0 : Value} {K : Value → World → Prop} {w : World} (h : S_sync_Mutex_Unlock a0 K w) : Ret P n_sync_Mutex_Unlock [a0] w K :=
  vcF_of mixed Tryz.func253 (show S_sync_Mutex_Unlock a0 K w = vcF P Tryz.f253 [a0] w K from by kernel_rfl) h
/- (*internal/sync.Mutex).Lock -/
abbrev S_sync_Mutex_Lock_266 (a0 : Value) (K : Value → World → Prop) (w0 : World) : Prop :=
xCall P 277 [] w0 fun v1000 w1001 =>
xAt a0 fun a1002 =>
xCall P 278 [(.pointer (some (a1002.add 0))), (.int .i32 0), (.int .i32 1)] w1001 fun v1003 w1004 =>
xIf v1003 (/-  -/ XJ (fun J1005 =>
xCall P 279 [] w1004 fun v1009 w1010 =>
XRun P (convert 347 298 a0) w1010 fun v1011 w1012 =>
xCall P 280 [v1011] w1012 fun v1013 w1014 =>
J1005 [] w1014) fun vs1006 g1007 w1008 =>
K (.tuple #[]) w1008) (Ret P n_sync_Mutex_lockSlow [a0] w1004 fun v1015 w1016 =>
K (.tuple #[]) w1016)
theorem W_sync_Mutex_Lock_266 {a0 : Value} {K : Value → World → Prop} {w : World} (h : S_sync_Mutex_Lock_266 a0 K w) : Ret P n_sync_Mutex_Lock_266 [a0] w K :=
  vcF_of mixed Tryz.func266 (show S_sync_Mutex_Lock_266 a0 K w = vcF P Tryz.f266 [a0] w K from by kernel_rfl) h
/- (*internal/sync.Mutex).Unlock -/
abbrev S_sync_Mutex_Unlock_267 (a0 : Value) (K : Value → World → Prop) (w0 : World) : Prop :=
/-  -/ XJ (fun J1000 =>
xAt a0 fun a1004 =>
XLd w0 (a1004.add 0) fun v1005 =>
XRun P (convert 347 298 a0) w0 fun v1006 w1007 =>
xCall P 282 [v1006] w1007 fun v1008 w1009 =>
xCall P 277 [] w1009 fun v1010 w1011 =>
J1000 [] w1011) fun vs1001 g1002 w1003 =>
xAt a0 fun a1012 =>
xCall P 283 [(.pointer (some (a1012.add 0))), (.int .i32 (-1))] w1003 fun v1013 w1014 =>
/-  -/ XJ (fun J1015 =>
xNe v1013 (.int .i32 0) fun v1019 =>
xIf v1019 (Ret P n_sync_Mutex_unlockSlow [a0, v1013] w1014 fun v1020 w1021 =>
J1015 [] w1021) (J1015 [] w1014)) fun vs1016 g1017 w1018 =>
xCall P 279 [] w1018 fun v1022 w1023 =>
K (.tuple #[]) w1023
theorem W_sync_Mutex_Unlock_267 {a0 : Value} {K : Value → World → Prop} {w : World} (h : S_sync_Mutex_Unlock_267 a0 K w) : Ret P n_sync_Mutex_Unlock_267 [a0] w K :=
  vcF_of mixed Tryz.func267 (show S_sync_Mutex_Unlock_267 a0 K w = vcF P Tryz.f267 [a0] w K from by kernel_rfl) h
/- (*internal/sync.Mutex).unlockSlow -/
/- S_sync_Mutex_unlockSlow_l1: 0=slot 4 old 1=slot 1 new -/
def S_sync_Mutex_unlockSlow_l1 (K : Value → World → Prop) (a0 : Value) (I1011 : Nat → List Value → World → Prop) (n1012 : Nat) (vs1013 : List Value) (g1014 : Nat → Value) (w1015 : World) : Prop :=
/- 0 -/ XJ (fun J1016 =>
xShr (vs1013.getD 0 undef) (.int .u64 3) fun v1020 =>
xEq v1020 (.int .i32 0) fun v1021 =>
xIf v1021 (J1016 [(.bool true)] w1015) (xAnd (vs1013.getD 0 undef) (.int .i32 7) fun v1022 =>
xNe v1022 (.int .i32 0) fun v1023 =>
J1016 [v1023] w1015)) fun vs1017 g1018 w1019 =>
xIf (vs1017.getD 0 undef) (K (.tuple #[]) w1019) (xSub (vs1013.getD 0 undef) (.int .i32 8) fun v1024 =>
xOr v1024 (.int .i32 2) fun v1025 =>
xAt a0 fun a1026 =>
xCall P 278 [(.pointer (some (a1026.add 0))), (vs1013.getD 0 undef), v1025] w1019 fun v1027 w1028 =>
xIf v1027 (xAt a0 fun a1029 =>
xCall P 292 [(.pointer (some (a1029.add 1))), (.bool false), (.int .i64 2)] w1028 fun v1030 w1031 =>
K (.tuple #[]) w1031) (xAt a0 fun a1032 =>
XLd w1028 (a1032.add 0) fun v1033 =>
XNext I1011 n1012 [v1033, v1025] w1028))
abbrev S_sync_Mutex_unlockSlow (a0 : Value) (a1 : Value) (K : Value → World → Prop) (w0 : World) : Prop :=
/-  -/ XJ (fun J1000 =>
xAdd a1 (.int .i32 1) fun v1004 =>
xAnd v1004 (.int .i32 1) fun v1005 =>
xEq v1005 (.int .i32 0) fun v1006 =>
xIf v1006 (xCall P 291 [(.string ⟨#[115, 121, 110, 99, 58, 32, 117, 110, 108, 111, 99, 107, 32, 111, 102, 32, 117, 110, 108, 111, 99, 107, 101, 100, 32, 109, 117, 116, 101, 120]⟩)] w0 fun v1007 w1008 =>
J1000 [] w1008) (J1000 [] w0)) fun vs1001 g1002 w1003 =>
xAnd a1 (.int .i32 4) fun v1009 =>
xEq v1009 (.int .i32 0) fun v1010 =>
xIf v1010 (XLoop [a1, a1] w1003 (S_sync_Mutex_unlockSlow_l1 K a0)) (xAt a0 fun a1034 =>
xCall P 292 [(.pointer (some (a1034.add 1))), (.bool true), (.int .i64 2)] w1003 fun v1035 w1036 =>
K (.tuple #[]) w1036)
theorem W_sync_Mutex_unlockSlow {a0 a1 : Value} {K : Value → World → Prop} {w : World} (h : S_sync_Mutex_unlockSlow a0 a1 K w) : Ret P n_sync_Mutex_unlockSlow [a0, a1] w K :=
  vcF_of mixed Tryz.func284 (show S_sync_Mutex_unlockSlow a0 a1 K w = vcF P Tryz.f284 [a0, a1] w K from by kernel_rfl) h
end Go.Proofs.YthnegkjhciakpaaGreatDoor
