/-  Written by gen.py for this claim: of each function a form without frames, the same as the engine's condition by reckoning.  -/
import Derived.Test.YtlhjfenpmnejoaaGreatSN
import Derived.Test.YtlhjfenpmnejoaaGreatProg
namespace Go.Proofs.YtlhjfenpmnejoaaGreat
open Go X
set_option linter.unusedVariables false
set_option maxRecDepth 100000
/- spunyarn/tree.New -/
abbrev S_tree_New  (K : Value → World → Prop) (w0 : World) : Prop :=
xFill [(.int .i64 0), (.int .u64 0)] [] fun c1000 =>
XNew w0 (cellsV (.agg c1000.toArray)) 73 fun a1001 w1002 =>
K (.pointer (some a1001)) w1002
theorem W_tree_New {K : Value → World → Prop} {w : World} (h : S_tree_New  K w) : Ret P n_tree_New [] w K :=
  vcF_of mixed Tryz.func7 (show S_tree_New  K w = vcF P Tryz.f7 [] w K from by kernel_rfl) h
/- (*spunyarn/tree.World).From -/
abbrev S_tree_World_From (a0 : Value) (a1 : Value) (K : Value → World → Prop) (w0 : World) : Prop :=
xPEq P w0 a0 (.pointer none) fun v1000 =>
xIf v1000 (K (.tuple #[(.pointer none), (.int .i64 2)]) w0) (Ret P n_tree_World_Meter [a0] w0 fun v1001 w1002 =>
Ret P n_tree_World_Owner [a0] w1002 fun v1003 w1004 =>
Ret P n_canon_Build [v1001, v1003, a1] w1004 fun v1005 w1006 =>
xTup v1005 0 fun v1007 =>
xTup v1005 1 fun v1008 =>
xNe v1008 (.int .i64 0) fun v1009 =>
xIf v1009 (K (.tuple #[(.pointer none), v1008]) w1006) (Ret P n_tree_World_Version [a0, v1007] w1006 fun v1010 w1011 =>
K (.tuple #[v1010, (.int .i64 0)]) w1011))
theorem W_tree_World_From {a0 a1 : Value} {K : Value → World → Prop} {w : World} (h : S_tree_World_From a0 a1 K w) : Ret P n_tree_World_From [a0, a1] w K :=
  vcF_of mixed Tryz.func8 (show S_tree_World_From a0 a1 K w = vcF P Tryz.f8 [a0, a1] w K from by kernel_rfl) h
/- spunyarn/trans.Edit -/
abbrev S_trans_Edit (a0 : Value) (K : Value → World → Prop) (w0 : World) : Prop :=
Ret P n_tree_Version_World [a0] w0 fun v1000 w1001 =>
xPEq P w1001 v1000 (.pointer none) fun v1002 =>
xIf v1002 (K (.tuple #[(.pointer none), (.int .i64 2)]) w1001) (Ret P n_tree_Version_World [a0] w1001 fun v1003 w1004 =>
Ret P n_tree_World_Owner [v1003] w1004 fun v1005 w1006 =>
xFill [(.pointer none), (.int .u64 0)] [(0, 1, a0), (1, 1, v1005)] fun c1007 =>
Ret P n_tree_Version_Root [a0] w1006 fun v1008 w1009 =>
Ret P n_tree_Version_Len [a0] w1009 fun v1010 w1011 =>
xFill [(.pointer none), (.int .u64 0), (.pointer none), (.int .i64 0), (.bool false)] [(0, 2, (.agg c1007.toArray)), (2, 1, v1008), (3, 1, v1010)] fun c1012 =>
XNew w1011 (cellsV (.agg c1012.toArray)) 85 fun a1013 w1014 =>
K (.tuple #[(.pointer (some a1013)), (.int .i64 0)]) w1014)
theorem W_trans_Edit {a0 : Value} {K : Value → World → Prop} {w : World} (h : S_trans_Edit a0 K w) : Ret P n_trans_Edit [a0] w K :=
  vcF_of mixed Tryz.func10 (show S_trans_Edit a0 K w = vcF P Tryz.f10 [a0] w K from by kernel_rfl) h
/- spunyarn/load.Load -/
/- S_load_Load_l1: 0=slot 21 -/
def S_load_Load_l1 (K : Value → World → Prop) (a0 : Value) (a1 : Value) (v1006 : Value) (I1007 : Nat → List Value → World → Prop) (n1008 : Nat) (vs1009 : List Value) (g1010 : Nat → Value) (w1011 : World) : Prop :=
xLt (vs1009.getD 0 undef) v1006 fun v1012 =>
xIf v1012 (xIxS a1 (vs1009.getD 0 undef) 2 fun v1013 =>
xAt v1013 fun a1014 =>
XLdN w1011 a1014 2 fun v1015 =>
XNew w1011 [(.slice none 0 0), (.int .u64 0)] 47 fun a1016 w1017 =>
XDo P (storeVar 47 a1016 v1015) w1017 fun w1018 =>
XLd w1018 (a1016.add 0) fun v1019 =>
XLd w1018 (a1016.add 1) fun v1020 =>
Ret P n_trans_Trans_Put [a0, v1019, v1020] w1018 fun v1021 w1022 =>
xAdd (vs1009.getD 0 undef) (.int .i64 1) fun v1023 =>
XNext I1007 n1008 [v1023] w1022) (K (.int .i64 0) w1011)
abbrev S_load_Load (a0 : Value) (a1 : Value) (K : Value → World → Prop) (w0 : World) : Prop :=
Ret P n_load_ready [a0] w0 fun v1000 w1001 =>
xNe v1000 (.int .i64 0) fun v1002 =>
xIf v1002 (K v1000 w1001) (Ret P n_load_may [a1] w1001 fun v1003 w1004 =>
xNe v1003 (.int .i64 0) fun v1005 =>
xIf v1005 (K v1003 w1004) (xLen a1 fun v1006 =>
XLoop [(.int .i64 0)] w1004 (S_load_Load_l1 K a0 a1 v1006)))
theorem W_load_Load {a0 a1 : Value} {K : Value → World → Prop} {w : World} (h : S_load_Load a0 a1 K w) : Ret P n_load_Load [a0, a1] w K :=
  vcF_of mixed Tryz.func11 (show S_load_Load a0 a1 K w = vcF P Tryz.f11 [a0, a1] w K from by kernel_rfl) h
/- spunyarn/spunyarnref21.Load -/
/- S_ref21_Load_l1: 0=slot 5 i 1=slot 0 all -/
def S_ref21_Load_l1 (K : Value → World → Prop) (a1 : Value) (I1000 : Nat → List Value → World → Prop) (n1001 : Nat) (vs1002 : List Value) (g1003 : Nat → Value) (w1004 : World) : Prop :=
xLen a1 fun v1005 =>
xLt (vs1002.getD 0 undef) v1005 fun v1006 =>
xIf v1006 (xIxS a1 (vs1002.getD 0 undef) 2 fun v1007 =>
xFld v1007 0 fun v1008 =>
xAt v1008 fun a1009 =>
XLd w1004.drew a1009 fun v1010 =>
xIxS a1 (vs1002.getD 0 undef) 2 fun v1011 =>
xFld v1011 1 fun v1012 =>
xAt v1012 fun a1013 =>
XLd w1004.drew a1013 fun v1014 =>
Ret P n_ref15_Put [(vs1002.getD 1 undef), v1010, v1014] w1004.drew fun v1015 w1016 =>
xAdd (vs1002.getD 0 undef) (.int .i64 1) fun v1017 =>
XNext I1000 n1001 [v1017, v1015] w1016) (K (vs1002.getD 1 undef) w1004)
abbrev S_ref21_Load (a0 : Value) (a1 : Value) (K : Value → World → Prop) (w0 : World) : Prop :=
XLoop [(.int .i64 0), a0] w0 (S_ref21_Load_l1 K a1)
theorem W_ref21_Load {a0 a1 : Value} {K : Value → World → Prop} {w : World} (h : S_ref21_Load a0 a1 K w) : Ret P n_ref21_Load [a0, a1] w K :=
  vcF_of mixed Tryz.func12 (show S_ref21_Load a0 a1 K w = vcF P Tryz.f12 [a0, a1] w K from by kernel_rfl) h
/- spunyarn/load.Drop -/
/- S_load_Drop_l1: 0=slot 34 1=slot 12 k 2=slot 13 was 3=slot 14 _ 4=slot 10 many -/
def S_load_Drop_l1 (K : Value → World → Prop) (a0 : Value) (a1 : Value) (v1017 : Value) (I1018 : Nat → List Value → World → Prop) (n1019 : Nat) (vs1020 : List Value) (g1021 : Nat → Value) (w1022 : World) : Prop :=
xLt (vs1020.getD 0 undef) v1017 fun v1023 =>
xIf v1023 (/- 0 k 1 was 2 _ 3 many -/ XJ (fun J1024 =>
xIxS a1 (vs1020.getD 0 undef) 1 fun v1028 =>
xAt v1028 fun a1029 =>
XLd w1022 a1029 fun v1030 =>
Ret P n_trans_Trans_Del [a0, v1030] w1022 fun v1031 w1032 =>
xTup v1031 0 fun v1033 =>
xTup v1031 1 fun v1034 =>
xIf v1033 (xAdd (vs1020.getD 4 undef) (.int .i64 1) fun v1035 =>
J1024 [v1030, v1033, v1034, v1035] w1032) (J1024 [v1030, v1033, v1034, (vs1020.getD 4 undef)] w1032)) fun vs1025 g1026 w1027 =>
xAdd (vs1020.getD 0 undef) (.int .i64 1) fun v1036 =>
XNext I1018 n1019 [v1036, (vs1025.getD 0 undef), (vs1025.getD 1 undef), (vs1025.getD 2 undef), (vs1025.getD 3 undef)] w1027) (K (.tuple #[(vs1020.getD 4 undef), (.int .i64 0)]) w1022)
/- S_load_Drop_l2: 0=slot 22 1=slot 8 k 2=slot 9 e 3=slot 4 4=slot 5 -/
def S_load_Drop_l2 (K : Value → World → Prop) (a0 : Value) (a1 : Value) (v1003 : Value) (I1004 : Nat → List Value → World → Prop) (n1005 : Nat) (vs1006 : List Value) (g1007 : Nat → Value) (w1008 : World) : Prop :=
xLt (vs1006.getD 0 undef) v1003 fun v1009 =>
xIf v1009 (xIxS a1 (vs1006.getD 0 undef) 1 fun v1010 =>
xAt v1010 fun a1011 =>
XLd w1008 a1011 fun v1012 =>
Ret P n_keys_May [v1012] w1008 fun v1013 w1014 =>
xNe v1013 (.int .i64 0) fun v1015 =>
xIf v1015 (K (.tuple #[(.int .i64 0), v1013]) w1014) (xAdd (vs1006.getD 0 undef) (.int .i64 1) fun v1016 =>
XNext I1004 n1005 [v1016, v1012, v1013, (vs1006.getD 3 undef), (vs1006.getD 4 undef)] w1014)) (xLen a1 fun v1017 =>
XLoop [(.int .i64 0), undef, undef, undef, (.int .i64 0)] w1008 (S_load_Drop_l1 K a0 a1 v1017))
abbrev S_load_Drop (a0 : Value) (a1 : Value) (K : Value → World → Prop) (w0 : World) : Prop :=
Ret P n_load_ready [a0] w0 fun v1000 w1001 =>
xNe v1000 (.int .i64 0) fun v1002 =>
xIf v1002 (K (.tuple #[(.int .i64 0), v1000]) w1001) (xLen a1 fun v1003 =>
XLoop [(.int .i64 0), undef, undef, (.int .i64 0), (.int .i64 0)] w1001 (S_load_Drop_l2 K a0 a1 v1003))
theorem W_load_Drop {a0 a1 : Value} {K : Value → World → Prop} {w : World} (h : S_load_Drop a0 a1 K w) : Ret P n_load_Drop [a0, a1] w K :=
  vcF_of mixed Tryz.func13 (show S_load_Drop a0 a1 K w = vcF P Tryz.f13 [a0, a1] w K from by kernel_rfl) h
/- spunyarn/spunyarnref21.Drop -/
/- S_ref21_Drop_l1: 0=slot 7 i 1=slot 0 all 2=slot 8 left 3=slot 9 was 4=slot 6 many -/
def S_ref21_Drop_l1 (K : Value → World → Prop) (a1 : Value) (I1000 : Nat → List Value → World → Prop) (n1001 : Nat) (vs1002 : List Value) (g1003 : Nat → Value) (w1004 : World) : Prop :=
xLen a1 fun v1005 =>
xLt (vs1002.getD 0 undef) v1005 fun v1006 =>
xIf v1006 (xIxS a1 (vs1002.getD 0 undef) 1 fun v1007 =>
xAt v1007 fun a1008 =>
XLd w1004 a1008 fun v1009 =>
Ret P n_ref16_Del [(vs1002.getD 1 undef), v1009] w1004 fun v1010 w1011 =>
xTup v1010 0 fun v1012 =>
xTup v1010 1 fun v1013 =>
/- 0 many -/ XJ (fun J1014 =>
xIf v1013 (xAdd (vs1002.getD 4 undef) (.int .i64 1) fun v1018 =>
J1014 [v1018] w1011) (J1014 [(vs1002.getD 4 undef)] w1011)) fun vs1015 g1016 w1017 =>
xAdd (vs1002.getD 0 undef) (.int .i64 1) fun v1019 =>
XNext I1000 n1001 [v1019, v1012, v1012, v1013, (vs1015.getD 0 undef)] w1017) (K (.tuple #[(vs1002.getD 1 undef), (vs1002.getD 4 undef)]) w1004)
abbrev S_ref21_Drop (a0 : Value) (a1 : Value) (K : Value → World → Prop) (w0 : World) : Prop :=
XLoop [(.int .i64 0), a0, undef, undef, (.int .i64 0)] w0 (S_ref21_Drop_l1 K a1)
theorem W_ref21_Drop {a0 a1 : Value} {K : Value → World → Prop} {w : World} (h : S_ref21_Drop a0 a1 K w) : Ret P n_ref21_Drop [a0, a1] w K :=
  vcF_of mixed Tryz.func14 (show S_ref21_Drop a0 a1 K w = vcF P Tryz.f14 [a0, a1] w K from by kernel_rfl) h
/- (*spunyarn/trans.Trans).List -/
abbrev S_trans_Trans_List (a0 : Value) (K : Value → World → Prop) (w0 : World) : Prop :=
Ret P n_trans_Trans_may [a0] w0 fun v1000 w1001 =>
xNe v1000 (.int .i64 0) fun v1002 =>
xIf v1002 (K (.tuple #[(.slice none 0 0), v1000]) w1001) (xAt a0 fun a1003 =>
XLd w1001 (a1003.add 2) fun v1004 =>
Ret P n_canon_List [v1004] w1001 fun v1005 w1006 =>
K (.tuple #[v1005, (.int .i64 0)]) w1006)
theorem W_trans_Trans_List {a0 : Value} {K : Value → World → Prop} {w : World} (h : S_trans_Trans_List a0 K w) : Ret P n_trans_Trans_List [a0] w K :=
  vcF_of mixed Tryz.func15 (show S_trans_Trans_List a0 K w = vcF P Tryz.f15 [a0] w K from by kernel_rfl) h
/- (*spunyarn/trans.Trans).Freeze -/
abbrev S_trans_Trans_Freeze (a0 : Value) (K : Value → World → Prop) (w0 : World) : Prop :=
Ret P n_trans_Trans_may [a0] w0 fun v1000 w1001 =>
xNe v1000 (.int .i64 0) fun v1002 =>
xIf v1002 (K (.tuple #[(.pointer none), v1000]) w1001) (xAt a0 fun a1003 =>
XSt w1001 (a1003.add 4) (.bool true) fun w1004 =>
xAt a0 fun a1005 =>
XLd w1004.drew (a1005.add 2) fun v1006 =>
xAt a0 fun a1007 =>
XLd w1004.drew ((a1007.add 0).add 0) fun v1008 =>
Ret P n_tree_Version_Root [v1008] w1004.drew fun v1009 w1010 =>
xKeep1 w1010 (.pointer (some (a1005.add 2))) v1006 ∧ (xPEq P w1010 v1006 v1009 fun v1011 =>
xIf v1011 (xAt a0 fun a1012 =>
XLd w1010 ((a1012.add 0).add 0) fun v1013 =>
K (.tuple #[v1013, (.int .i64 0)]) w1010) (xAt a0 fun a1014 =>
XLdN w1010.drew (a1014.add 0) 2 fun v1015 =>
xAt a0 fun a1016 =>
XLd w1010.drew (a1016.add 2) fun v1017 =>
Ret P n_trans_base_world [v1015] w1010.drew fun v1018 w1019 =>
xKeep1 w1019 (.pointer (some (a1016.add 2))) v1017 ∧ (Ret P n_tree_World_Version [v1018, v1017] w1019 fun v1020 w1021 =>
K (.tuple #[v1020, (.int .i64 0)]) w1021))))
theorem W_trans_Trans_Freeze {a0 : Value} {K : Value → World → Prop} {w : World} (h : S_trans_Trans_Freeze a0 K w) : Ret P n_trans_Trans_Freeze [a0] w K :=
  vcF_of mixed Tryz.func16 (show S_trans_Trans_Freeze a0 K w = vcF P Tryz.f16 [a0] w K from by kernel_rfl) h
/- (*spunyarn/tree.Version).List -/
abbrev S_tree_Version_List (a0 : Value) (K : Value → World → Prop) (w0 : World) : Prop :=
Ret P n_tree_Version_Root [a0] w0 fun v1000 w1001 =>
Ret P n_canon_List [v1000] w1001 fun v1002 w1003 =>
K v1002 w1003
theorem W_tree_Version_List {a0 : Value} {K : Value → World → Prop} {w : World} (h : S_tree_Version_List a0 K w) : Ret P n_tree_Version_List [a0] w K :=
  vcF_of mixed Tryz.func18 (show S_tree_Version_List a0 K w = vcF P Tryz.f18 [a0] w K from by kernel_rfl) h
/- spunyarn/load.Sort -/
/- S_load_Sort_l1: 0=slot 13 1=slot 5 i 2=slot 4 out -/
def S_load_Sort_l1 (K : Value → World → Prop) (v1000 : Value) (v1004 : Value) (I1005 : Nat → List Value → World → Prop) (n1006 : Nat) (vs1007 : List Value) (g1008 : Nat → Value) (w1009 : World) : Prop :=
xLt (vs1007.getD 0 undef) v1004 fun v1010 =>
xIf v1010 (/- 0 i 1 out -/ XJ (fun J1011 =>
xIxS v1000 (vs1007.getD 0 undef) 2 fun v1015 =>
xAt v1015 fun a1016 =>
XLdN w1009 a1016 2 fun v1017 =>
XNew w1009 [(.slice none 0 0), (.int .u64 0)] 47 fun a1018 w1019 =>
XDo P (storeVar 47 a1018 v1017) w1019 fun w1020 =>
/- 0 -/ XJ (fun J1021 =>
xAdd (vs1007.getD 0 undef) (.int .i64 1) fun v1025 =>
xLen v1000 fun v1026 =>
xLt v1025 v1026 fun v1027 =>
xIf v1027 (XLd w1020.drew (a1018.add 0) fun v1028 =>
xAdd (vs1007.getD 0 undef) (.int .i64 1) fun v1029 =>
xIxS v1000 v1029 2 fun v1030 =>
xFld v1030 0 fun v1031 =>
xAt v1031 fun a1032 =>
XLd w1020.drew a1032 fun v1033 =>
Ret P n_keys_Same [v1028, v1033] w1020.drew fun v1034 w1035 =>
J1021 [v1034] w1035) (J1021 [(.bool false)] (w1020.drew))) fun vs1022 g1023 w1024 =>
xIf (vs1022.getD 0 undef) (J1011 [(vs1007.getD 0 undef), (vs1007.getD 2 undef)] w1024) (XLd w1024.drew (a1018.add 0) fun v1036 =>
XLd w1024.drew (a1018.add 1) fun v1037 =>
Ret P n_bytes_Clone [v1036] w1024.drew fun v1038 w1039 =>
xKeep1 w1039 (.pointer (some (a1018.add 1))) v1037 ∧ (xFill [(.slice none 0 0), (.int .u64 0)] [(0, 1, v1038), (1, 1, v1037)] fun c1040 =>
xFill (repL [(.slice none 0 0), (.int .u64 0)] 1) [(0, 2, (.agg c1040.toArray))] fun c1041 =>
XNew w1039 c1041 47 fun a1042 w1043 =>
XRun P (Builtin.append_ #[34, 34] 34 #[(vs1007.getD 2 undef), (.slice (some a1042) 1 1)]) w1043 fun v1044 w1045 =>
J1011 [(vs1007.getD 0 undef), v1044] w1045))) fun vs1012 g1013 w1014 =>
xAdd (vs1007.getD 0 undef) (.int .i64 1) fun v1046 =>
XNext I1005 n1006 [v1046, (vs1012.getD 0 undef), (vs1012.getD 1 undef)] w1014) (K (vs1007.getD 2 undef) w1009)
abbrev S_load_Sort (a0 : Value) (K : Value → World → Prop) (w0 : World) : Prop :=
Ret P n_slices_Clone_Pair [a0] w0 fun v1000 w1001 =>
Ret P n_slices_SortStableFunc_Pair [v1000, (.func (.func 44) #[] #[])] w1001 fun v1002 w1003 =>
xLen v1000 fun v1004 =>
XLoop [(.int .i64 0), undef, (.slice none 0 0)] w1003 (S_load_Sort_l1 K v1000 v1004)
theorem W_load_Sort {a0 : Value} {K : Value → World → Prop} {w : World} (h : S_load_Sort a0 K w) : Ret P n_load_Sort [a0] w K :=
  vcF_of mixed Tryz.func19 (show S_load_Sort a0 K w = vcF P Tryz.f19 [a0] w K from by kernel_rfl) h
/- spunyarn/load.Fresh -/
abbrev S_load_Fresh (a0 : Value) (a1 : Value) (K : Value → World → Prop) (w0 : World) : Prop :=
Ret P n_load_Sort [a1] w0 fun v1000 w1001 =>
Ret P n_tree_World_From [a0, v1000] w1001 fun v1002 w1003 =>
xTup v1002 0 fun v1004 =>
xTup v1002 1 fun v1005 =>
K (.tuple #[v1004, v1005]) w1003
theorem W_load_Fresh {a0 a1 : Value} {K : Value → World → Prop} {w : World} (h : S_load_Fresh a0 a1 K w) : Ret P n_load_Fresh [a0, a1] w K :=
  vcF_of mixed Tryz.func20 (show S_load_Fresh a0 a1 K w = vcF P Tryz.f20 [a0, a1] w K from by kernel_rfl) h
/- spunyarn/load.Merge -/
abbrev S_load_Merge (a0 : Value) (a1 : Value) (K : Value → World → Prop) (w0 : World) : Prop :=
Ret P n_trans_Edit [a0] w0 fun v1000 w1001 =>
xTup v1000 0 fun v1002 =>
xTup v1000 1 fun v1003 =>
xNe v1003 (.int .i64 0) fun v1004 =>
xIf v1004 (K (.tuple #[(.pointer none), v1003]) w1001) (Ret P n_load_Load [v1002, a1] w1001 fun v1005 w1006 =>
xNe v1005 (.int .i64 0) fun v1007 =>
xIf v1007 (K (.tuple #[(.pointer none), v1005]) w1006) (Ret P n_trans_Trans_Freeze [v1002] w1006 fun v1008 w1009 =>
xTup v1008 0 fun v1010 =>
xTup v1008 1 fun v1011 =>
K (.tuple #[v1010, v1011]) w1009))
theorem W_load_Merge {a0 a1 : Value} {K : Value → World → Prop} {w : World} (h : S_load_Merge a0 a1 K w) : Ret P n_load_Merge [a0, a1] w K :=
  vcF_of mixed Tryz.func21 (show S_load_Merge a0 a1 K w = vcF P Tryz.f21 [a0, a1] w K from by kernel_rfl) h
/- (*spunyarn/tree.Version).Len -/
abbrev S_tree_Version_Len (a0 : Value) (K : Value → World → Prop) (w0 : World) : Prop :=
XNew w0 (cellsV a0) 28 fun a1000 w1001 =>
XLd w1001 a1000 fun v1002 =>
Ret P n_tree_Version_ok [v1002] w1001 fun v1003 w1004 =>
xNot v1003 fun v1005 =>
xIf v1005 (K (.int .i64 0) w1004) (XLd w1004 a1000 fun v1006 =>
xAt v1006 fun a1007 =>
Ret P n_meter_Once_Get [(.pointer (some (a1007.add 2))), (.func (.func 50) #[] #[(.pointer (some a1000))])] w1004 fun v1008 w1009 =>
K v1008 w1009)
theorem W_tree_Version_Len {a0 : Value} {K : Value → World → Prop} {w : World} (h : S_tree_Version_Len a0 K w) : Ret P n_tree_Version_Len [a0] w K :=
  vcF_of mixed Tryz.func22 (show S_tree_Version_Len a0 K w = vcF P Tryz.f22 [a0] w K from by kernel_rfl) h
/- (*spunyarn/tree.World).Meter -/
abbrev S_tree_World_Meter (a0 : Value) (K : Value → World → Prop) (w0 : World) : Prop :=
xPEq P w0 a0 (.pointer none) fun v1000 =>
xIf v1000 (K (.pointer none) w0) (xAt a0 fun a1001 =>
K (.pointer (some (a1001.add 0))) w0)
theorem W_tree_World_Meter {a0 : Value} {K : Value → World → Prop} {w : World} (h : S_tree_World_Meter a0 K w) : Ret P n_tree_World_Meter [a0] w K :=
  vcF_of mixed Tryz.func26 (show S_tree_World_Meter a0 K w = vcF P Tryz.f26 [a0] w K from by kernel_rfl) h
/- (*spunyarn/tree.World).Owner -/
abbrev S_tree_World_Owner (a0 : Value) (K : Value → World → Prop) (w0 : World) : Prop :=
xPEq P w0 a0 (.pointer none) fun v1000 =>
xIf v1000 (K (.int .u64 0) w0) (xAt a0 fun a1001 =>
Ret P n_meter_Owners_Next [(.pointer (some (a1001.add 1)))] w0 fun v1002 w1003 =>
K v1002 w1003)
theorem W_tree_World_Owner {a0 : Value} {K : Value → World → Prop} {w : World} (h : S_tree_World_Owner a0 K w) : Ret P n_tree_World_Owner [a0] w K :=
  vcF_of mixed Tryz.func27 (show S_tree_World_Owner a0 K w = vcF P Tryz.f27 [a0] w K from by kernel_rfl) h
/- (*spunyarn/tree.World).Version -/
abbrev S_tree_World_Version (a0 : Value) (a1 : Value) (K : Value → World → Prop) (w0 : World) : Prop :=
xPEq P w0 a0 (.pointer none) fun v1000 =>
xIf v1000 (K (.pointer none) w0) (xFill [(.pointer none), (.pointer none), (.int .u32 0), (.int .i32 0), (.int .u32 0), (.int .i64 0), (.bool false)] [(0, 1, a0), (1, 1, a1)] fun c1001 =>
XNew w0 (cellsV (.agg c1001.toArray)) 114 fun a1002 w1003 =>
K (.pointer (some a1002)) w1003)
theorem W_tree_World_Version {a0 a1 : Value} {K : Value → World → Prop} {w : World} (h : S_tree_World_Version a0 a1 K w) : Ret P n_tree_World_Version [a0, a1] w K :=
  vcF_of mixed Tryz.func28 (show S_tree_World_Version a0 a1 K w = vcF P Tryz.f28 [a0, a1] w K from by kernel_rfl) h
/- (*spunyarn/tree.Version).World -/
abbrev S_tree_Version_World (a0 : Value) (K : Value → World → Prop) (w0 : World) : Prop :=
xPEq P w0 a0 (.pointer none) fun v1000 =>
xIf v1000 (K (.pointer none) w0) (xAt a0 fun a1001 =>
XLd w0 (a1001.add 0) fun v1002 =>
K v1002 w0)
theorem W_tree_Version_World {a0 : Value} {K : Value → World → Prop} {w : World} (h : S_tree_Version_World a0 K w) : Ret P n_tree_Version_World [a0] w K :=
  vcF_of mixed Tryz.func29 (show S_tree_Version_World a0 K w = vcF P Tryz.f29 [a0] w K from by kernel_rfl) h
/- (*spunyarn/tree.Version).Root -/
abbrev S_tree_Version_Root (a0 : Value) (K : Value → World → Prop) (w0 : World) : Prop :=
xPEq P w0 a0 (.pointer none) fun v1000 =>
xIf v1000 (K (.pointer none) w0) (xAt a0 fun a1001 =>
XLd w0 (a1001.add 1) fun v1002 =>
K v1002 w0)
theorem W_tree_Version_Root {a0 : Value} {K : Value → World → Prop} {w : World} (h : S_tree_Version_Root a0 K w) : Ret P n_tree_Version_Root [a0] w K :=
  vcF_of mixed Tryz.func30 (show S_tree_Version_Root a0 K w = vcF P Tryz.f30 [a0] w K from by kernel_rfl) h
/- spunyarn/load.ready -/
abbrev S_load_ready (a0 : Value) (K : Value → World → Prop) (w0 : World) : Prop :=
Ret P n_trans_Trans_Len [a0] w0 fun v1000 w1001 =>
xTup v1000 0 fun v1002 =>
xTup v1000 1 fun v1003 =>
K v1003 w1001
theorem W_load_ready {a0 : Value} {K : Value → World → Prop} {w : World} (h : S_load_ready a0 K w) : Ret P n_load_ready [a0] w K :=
  vcF_of mixed Tryz.func31 (show S_load_ready a0 K w = vcF P Tryz.f31 [a0] w K from by kernel_rfl) h
/- spunyarn/load.may -/
/- S_load_may_l1: 0=slot 8 1=slot 5 e 2=slot 2 -/
def S_load_may_l1 (K : Value → World → Prop) (a0 : Value) (v1000 : Value) (I1001 : Nat → List Value → World → Prop) (n1002 : Nat) (vs1003 : List Value) (g1004 : Nat → Value) (w1005 : World) : Prop :=
xLt (vs1003.getD 0 undef) v1000 fun v1006 =>
xIf v1006 (xIxS a0 (vs1003.getD 0 undef) 2 fun v1007 =>
xAt v1007 fun a1008 =>
XLdN w1005 a1008 2 fun v1009 =>
XNew w1005 [(.slice none 0 0), (.int .u64 0)] 47 fun a1010 w1011 =>
XDo P (storeVar 47 a1010 v1009) w1011 fun w1012 =>
XLd w1012 (a1010.add 0) fun v1013 =>
Ret P n_keys_May [v1013] w1012 fun v1014 w1015 =>
xNe v1014 (.int .i64 0) fun v1016 =>
xIf v1016 (K v1014 w1015) (xAdd (vs1003.getD 0 undef) (.int .i64 1) fun v1017 =>
XNext I1001 n1002 [v1017, v1014, (vs1003.getD 2 undef)] w1015)) (K (.int .i64 0) w1005)
abbrev S_load_may (a0 : Value) (K : Value → World → Prop) (w0 : World) : Prop :=
xLen a0 fun v1000 =>
XLoop [(.int .i64 0), undef, (.int .i64 0)] w0 (S_load_may_l1 K a0 v1000)
theorem W_load_may {a0 : Value} {K : Value → World → Prop} {w : World} (h : S_load_may a0 K w) : Ret P n_load_may [a0] w K :=
  vcF_of mixed Tryz.func32 (show S_load_may a0 K w = vcF P Tryz.f32 [a0] w K from by kernel_rfl) h
/- (*spunyarn/trans.Trans).Put -/
abbrev S_trans_Trans_Put (a0 : Value) (a1 : Value) (a2 : Value) (K : Value → World → Prop) (w0 : World) : Prop :=
Ret P n_trans_Trans_may [a0] w0 fun v1000 w1001 =>
xNe v1000 (.int .i64 0) fun v1002 =>
xIf v1002 (K v1000 w1001) (xAt a0 fun a1003 =>
XLd w1001 (a1003.add 2) fun v1004 =>
Ret P n_find_Has [v1004, a1] w1001 fun v1005 w1006 =>
xAt a0 fun a1007 =>
XLd w1006.drew (a1007.add 2) fun v1008 =>
xAt a0 fun a1009 =>
XLdN w1006.drew (a1009.add 0) 2 fun v1010 =>
xAt a0 fun a1011 =>
XLdN w1006.drew (a1011.add 0) 2 fun v1012 =>
Ret P n_trans_base_mine [v1010] w1006.drew fun v1013 w1014 =>
xKeepN w1014 (.pointer (some (a1011.add 0))) v1012 ∧ (xKeep1 w1014 (.pointer (some (a1007.add 2))) v1008 ∧ (Ret P n_trans_base_world [v1012] w1014 fun v1015 w1016 =>
xKeep1 w1016 (.pointer (some (a1007.add 2))) v1008 ∧ (Ret P n_tree_World_Meter [v1015] w1016 fun v1017 w1018 =>
xKeep1 w1018 (.pointer (some (a1007.add 2))) v1008 ∧ (Ret P n_put_Put [v1008, a1, a2, v1013, v1017] w1018 fun v1019 w1020 =>
xTup v1019 0 fun v1021 =>
xTup v1019 1 fun v1022 =>
xNe v1022 (.int .i64 0) fun v1023 =>
xIf v1023 (K v1022 w1020) (xAt a0 fun a1024 =>
XSt w1020 (a1024.add 2) v1021 fun w1025 =>
/-  -/ XJ (fun J1026 =>
xNot v1005 fun v1030 =>
xIf v1030 (xAt a0 fun a1031 =>
XLd w1025 (a1031.add 3) fun v1032 =>
xAdd v1032 (.int .i64 1) fun v1033 =>
xAt a0 fun a1034 =>
XSt w1025 (a1034.add 3) v1033 fun w1035 =>
J1026 [] w1035) (J1026 [] w1025)) fun vs1027 g1028 w1029 =>
K (.int .i64 0) w1029))))))
theorem W_trans_Trans_Put {a0 a1 a2 : Value} {K : Value → World → Prop} {w : World} (h : S_trans_Trans_Put a0 a1 a2 K w) : Ret P n_trans_Trans_Put [a0, a1, a2] w K :=
  vcF_of mixed Tryz.func33 (show S_trans_Trans_Put a0 a1 a2 K w = vcF P Tryz.f33 [a0, a1, a2] w K from by kernel_rfl) h
/- (*spunyarn/trans.Trans).Del -/
abbrev S_trans_Trans_Del (a0 : Value) (a1 : Value) (K : Value → World → Prop) (w0 : World) : Prop :=
Ret P n_trans_Trans_may [a0] w0 fun v1000 w1001 =>
xNe v1000 (.int .i64 0) fun v1002 =>
xIf v1002 (K (.tuple #[(.bool false), v1000]) w1001) (xAt a0 fun a1003 =>
XLd w1001.drew (a1003.add 2) fun v1004 =>
xAt a0 fun a1005 =>
XLdN w1001.drew (a1005.add 0) 2 fun v1006 =>
xAt a0 fun a1007 =>
XLdN w1001.drew (a1007.add 0) 2 fun v1008 =>
Ret P n_trans_base_mine [v1006] w1001.drew fun v1009 w1010 =>
xKeepN w1010 (.pointer (some (a1007.add 0))) v1008 ∧ (xKeep1 w1010 (.pointer (some (a1003.add 2))) v1004 ∧ (Ret P n_trans_base_world [v1008] w1010 fun v1011 w1012 =>
xKeep1 w1012 (.pointer (some (a1003.add 2))) v1004 ∧ (Ret P n_tree_World_Meter [v1011] w1012 fun v1013 w1014 =>
xKeep1 w1014 (.pointer (some (a1003.add 2))) v1004 ∧ (Ret P n_del_Del [v1004, a1, v1009, v1013] w1014 fun v1015 w1016 =>
xTup v1015 0 fun v1017 =>
xTup v1015 1 fun v1018 =>
xTup v1015 2 fun v1019 =>
xNe v1019 (.int .i64 0) fun v1020 =>
xIf v1020 (K (.tuple #[(.bool false), v1019]) w1016) (xAt a0 fun a1021 =>
XSt w1016 (a1021.add 2) v1017 fun w1022 =>
/-  -/ XJ (fun J1023 =>
xIf v1018 (xAt a0 fun a1027 =>
XLd w1022 (a1027.add 3) fun v1028 =>
xSub v1028 (.int .i64 1) fun v1029 =>
xAt a0 fun a1030 =>
XSt w1022 (a1030.add 3) v1029 fun w1031 =>
J1023 [] w1031) (J1023 [] w1022)) fun vs1024 g1025 w1026 =>
K (.tuple #[v1018, (.int .i64 0)]) w1026))))))
theorem W_trans_Trans_Del {a0 a1 : Value} {K : Value → World → Prop} {w : World} (h : S_trans_Trans_Del a0 a1 K w) : Ret P n_trans_Trans_Del [a0, a1] w K :=
  vcF_of mixed Tryz.func36 (show S_trans_Trans_Del a0 a1 K w = vcF P Tryz.f36 [a0, a1] w K from by kernel_rfl) h
/- (*spunyarn/trans.Trans).may -/
abbrev S_trans_Trans_may (a0 : Value) (K : Value → World → Prop) (w0 : World) : Prop :=
/- 0 -/ XJ (fun J1000 =>
xPEq P w0 a0 (.pointer none) fun v1004 =>
xIf v1004 (J1000 [(.bool true)] w0) (xAt a0 fun a1005 =>
XLd w0 ((a1005.add 0).add 0) fun v1006 =>
xPEq P w0 v1006 (.pointer none) fun v1007 =>
J1000 [v1007] w0)) fun vs1001 g1002 w1003 =>
xIf (vs1001.getD 0 undef) (K (.int .i64 2) w1003) (xAt a0 fun a1008 =>
XLd w1003 (a1008.add 4) fun v1009 =>
xIf v1009 (K (.int .i64 11) w1003) (K (.int .i64 0) w1003))
theorem W_trans_Trans_may {a0 : Value} {K : Value → World → Prop} {w : World} (h : S_trans_Trans_may a0 K w) : Ret P n_trans_Trans_may [a0] w K :=
  vcF_of mixed Tryz.func38 (show S_trans_Trans_may a0 K w = vcF P Tryz.f38 [a0] w K from by kernel_rfl) h
/- (spunyarn/trans.base).world -/
abbrev S_trans_base_world (a0 : Value) (K : Value → World → Prop) (w0 : World) : Prop :=
XNew w0 (cellsV a0) 82 fun a1000 w1001 =>
XLd w1001 (a1000.add 0) fun v1002 =>
Ret P n_tree_Version_World [v1002] w1001 fun v1003 w1004 =>
K v1003 w1004
theorem W_trans_base_world {a0 : Value} {K : Value → World → Prop} {w : World} (h : S_trans_base_world a0 K w) : Ret P n_trans_base_world [a0] w K :=
  vcF_of mixed Tryz.func40 (show S_trans_base_world a0 K w = vcF P Tryz.f40 [a0] w K from by kernel_rfl) h
/- slices.Clone[[]spunyarn/api.Pair,spunyarn/api.Pair] -/
abbrev S_slices_Clone_Pair (a0 : Value) (K : Value → World → Prop) (w0 : World) : Prop :=
xLEq a0 (.slice none 0 0) fun v1000 =>
xIf v1000 (K (.slice none 0 0) w0) (xFill (repL [(.slice none 0 0), (.int .u64 0)] 0) [] fun c1001 =>
XNew w0 c1001 47 fun a1002 w1003 =>
XRun P (Builtin.append_ #[34, 34] 34 #[(.slice (some a1002) 0 0), a0]) w1003 fun v1004 w1005 =>
K v1004 w1005)
theorem W_slices_Clone_Pair {a0 : Value} {K : Value → World → Prop} {w : World} (h : S_slices_Clone_Pair a0 K w) : Ret P n_slices_Clone_Pair [a0] w K :=
  vcF_of mixed Tryz.func42 (show S_slices_Clone_Pair a0 K w = vcF P Tryz.f42 [a0] w K from by kernel_rfl) h
/- slices.SortStableFunc[[]spunyarn/api.Pair,spunyarn/api.Pair] -/
abbrev S_slices_SortStableFunc_Pair (a0 : Value) (a1 : Value) (K : Value → World → Prop) (w0 : World) : Prop :=
xLen a0 fun v1000 =>
Ret P n_slices_stableCmpFunc_Pair [a0, v1000, a1] w0 fun v1001 w1002 =>
K (.tuple #[]) w1002
theorem W_slices_SortStableFunc_Pair {a0 a1 : Value} {K : Value → World → Prop} {w : World} (h : S_slices_SortStableFunc_Pair a0 a1 K w) : Ret P n_slices_SortStableFunc_Pair [a0, a1] w K :=
  vcF_of mixed Tryz.func43 (show S_slices_SortStableFunc_Pair a0 a1 K w = vcF P Tryz.f43 [a0, a1] w K from by kernel_rfl) h
/- spunyarn/load.Sort$1 -/
abbrev S_load_Sort_1 (a0 : Value) (a1 : Value) (K : Value → World → Prop) (w0 : World) : Prop :=
XNew w0 (cellsV a0) 47 fun a1000 w1001 =>
XNew w1001 (cellsV a1) 47 fun a1002 w1003 =>
XLd w1003 (a1000.add 0) fun v1004 =>
XLd w1003 (a1002.add 0) fun v1005 =>
Ret P n_keys_Cmp [v1004, v1005] w1003 fun v1006 w1007 =>
K v1006 w1007
theorem W_load_Sort_1 {a0 a1 : Value} {K : Value → World → Prop} {w : World} (h : S_load_Sort_1 a0 a1 K w) : Ret P n_load_Sort_1 [a0, a1] w K :=
  vcF_of mixed Tryz.func44 (show S_load_Sort_1 a0 a1 K w = vcF P Tryz.f44 [a0, a1] w K from by kernel_rfl) h
/- (*spunyarn/tree.Version).ok -/
abbrev S_tree_Version_ok (a0 : Value) (K : Value → World → Prop) (w0 : World) : Prop :=
/- 0 -/ XJ (fun J1000 =>
xPNe P w0 a0 (.pointer none) fun v1004 =>
xIf v1004 (xAt a0 fun a1005 =>
XLd w0 (a1005.add 0) fun v1006 =>
xPNe P w0 v1006 (.pointer none) fun v1007 =>
J1000 [v1007] w0) (J1000 [(.bool false)] w0)) fun vs1001 g1002 w1003 =>
K (vs1001.getD 0 undef) w1003
theorem W_tree_Version_ok {a0 : Value} {K : Value → World → Prop} {w : World} (h : S_tree_Version_ok a0 K w) : Ret P n_tree_Version_ok [a0] w K :=
  vcF_of mixed Tryz.func48 (show S_tree_Version_ok a0 K w = vcF P Tryz.f48 [a0] w K from by kernel_rfl) h
/- (*spunyarn/meter.Once).Get -/
abbrev S_meter_Once_Get (a0 : Value) (a1 : Value) (K : Value → World → Prop) (w0 : World) : Prop :=
XNew w0 (cellsV a0) 130 fun a1000 w1001 =>
XNew w1001 (cellsV a1) 58 fun a1002 w1003 =>
XLd w1003 a1000 fun v1004 =>
xPEq P w1003 v1004 (.pointer none) fun v1005 =>
xIf v1005 (K (.int .i64 0) w1003) (XLd w1003 a1000 fun v1006 =>
xAt v1006 fun a1007 =>
Ret P n_sync_Once_Do [(.pointer (some (a1007.add 0))), (.func (.func 68) #[] #[(.pointer (some a1002)), (.pointer (some a1000))])] w1003 fun v1008 w1009 =>
XLd w1009 a1000 fun v1010 =>
xAt v1010 fun a1011 =>
XLd w1009 (a1011.add 3) fun v1012 =>
K v1012 w1009)
theorem W_meter_Once_Get {a0 a1 : Value} {K : Value → World → Prop} {w : World} (h : S_meter_Once_Get a0 a1 K w) : Ret P n_meter_Once_Get [a0, a1] w K :=
  vcF_of mixed Tryz.func49 (show S_meter_Once_Get a0 a1 K w = vcF P Tryz.f49 [a0, a1] w K from by kernel_rfl) h
/- (*spunyarn/tree.Version).Len$1 -/
abbrev S_tree_Version_Len_1 (a0 : Value) (K : Value → World → Prop) (w0 : World) : Prop :=
xAt a0 fun a1000 =>
XLd w0 a1000 fun v1001 =>
xAt v1001 fun a1002 =>
XLd w0 (a1002.add 1) fun v1003 =>
Ret P n_canon_Count [v1003] w0 fun v1004 w1005 =>
K v1004 w1005
theorem W_tree_Version_Len_1 {a0 : Value} {K : Value → World → Prop} {w : World} (h : S_tree_Version_Len_1 a0 K w) : Ret P n_tree_Version_Len_1 [a0] w K :=
  vcF_of mixed Tryz.func50 (show S_tree_Version_Len_1 a0 K w = vcF P Tryz.f50 [a0] w K from by kernel_rfl) h
/- (*spunyarn/meter.Owners).Next -/
abbrev S_meter_Owners_Next (a0 : Value) (K : Value → World → Prop) (w0 : World) : Prop :=
xPEq P w0 a0 (.pointer none) fun v1000 =>
xIf v1000 (K (.int .u64 0) w0) (xAt a0 fun a1001 =>
Ret P n_atomic_Uint64_Add [(.pointer (some (a1001.add 0))), (.int .u64 1)] w0 fun v1002 w1003 =>
K v1002 w1003)
theorem W_meter_Owners_Next {a0 : Value} {K : Value → World → Prop} {w : World} (h : S_meter_Owners_Next a0 K w) : Ret P n_meter_Owners_Next [a0] w K :=
  vcF_of mixed Tryz.func55 (show S_meter_Owners_Next a0 K w = vcF P Tryz.f55 [a0] w K from by kernel_rfl) h
/- (*spunyarn/trans.Trans).Len -/
abbrev S_trans_Trans_Len (a0 : Value) (K : Value → World → Prop) (w0 : World) : Prop :=
Ret P n_trans_Trans_may [a0] w0 fun v1000 w1001 =>
xNe v1000 (.int .i64 0) fun v1002 =>
xIf v1002 (K (.tuple #[(.int .i64 0), v1000]) w1001) (xAt a0 fun a1003 =>
XLd w1001 (a1003.add 3) fun v1004 =>
K (.tuple #[v1004, (.int .i64 0)]) w1001)
theorem W_trans_Trans_Len {a0 : Value} {K : Value → World → Prop} {w : World} (h : S_trans_Trans_Len a0 K w) : Ret P n_trans_Trans_Len [a0] w K :=
  vcF_of mixed Tryz.func56 (show S_trans_Trans_Len a0 K w = vcF P Tryz.f56 [a0] w K from by kernel_rfl) h
/- (spunyarn/trans.base).mine -/
abbrev S_trans_base_mine (a0 : Value) (K : Value → World → Prop) (w0 : World) : Prop :=
XNew w0 (cellsV a0) 82 fun a1000 w1001 =>
XLd w1001 (a1000.add 1) fun v1002 =>
K v1002 w1001
theorem W_trans_base_mine {a0 : Value} {K : Value → World → Prop} {w : World} (h : S_trans_base_mine a0 K w) : Ret P n_trans_base_mine [a0] w K :=
  vcF_of mixed Tryz.func59 (show S_trans_base_mine a0 K w = vcF P Tryz.f59 [a0] w K from by kernel_rfl) h
/- slices.stableCmpFunc[spunyarn/api.Pair] -/
/- S_slices_stableCmpFunc_Pair_l1: 0=slot 8 b 1=slot 7 a -/
def S_slices_stableCmpFunc_Pair_l1 (a0 : Value) (a1 : Value) (a2 : Value) (I1011 : Nat → List Value → World → Prop) (n1012 : Nat) (vs1013 : List Value) (I1018 : Nat → List Value → World → Prop) (n1019 : Nat) (vs1020 : List Value) (g1021 : Nat → Value) (w1022 : World) : Prop :=
xLe (vs1020.getD 0 undef) a1 fun v1023 =>
xIf v1023 (xAdd (vs1020.getD 1 undef) (vs1013.getD 0 undef) fun v1024 =>
Ret P n_slices_symMergeCmpFunc_Pair [a0, (vs1020.getD 1 undef), v1024, (vs1020.getD 0 undef), a2] w1022 fun v1025 w1026 =>
xMul (.int .i64 2) (vs1013.getD 0 undef) fun v1027 =>
xAdd (vs1020.getD 0 undef) v1027 fun v1028 =>
XNext I1018 n1019 [v1028, (vs1020.getD 0 undef)] w1026) (/- 0 m -/ XJ (fun J1029 =>
xAdd (vs1020.getD 1 undef) (vs1013.getD 0 undef) fun v1033 =>
xLt v1033 a1 fun v1034 =>
xIf v1034 (Ret P n_slices_symMergeCmpFunc_Pair [a0, (vs1020.getD 1 undef), v1033, a1, a2] w1022 fun v1035 w1036 =>
J1029 [v1033] w1036) (J1029 [v1033] w1022)) fun vs1030 g1031 w1032 =>
xMul (vs1013.getD 0 undef) (.int .i64 2) fun v1037 =>
XNext I1011 n1012 [v1037, (vs1020.getD 1 undef), (vs1020.getD 0 undef), (vs1030.getD 0 undef)] w1032)
/- S_slices_stableCmpFunc_Pair_l2: 0=slot 6 blockSize 1=slot 7 a 2=slot 8 b 3=slot 9 m -/
def S_slices_stableCmpFunc_Pair_l2 (K : Value → World → Prop) (a0 : Value) (a1 : Value) (a2 : Value) (I1011 : Nat → List Value → World → Prop) (n1012 : Nat) (vs1013 : List Value) (g1014 : Nat → Value) (w1015 : World) : Prop :=
xLt (vs1013.getD 0 undef) a1 fun v1016 =>
xIf v1016 (xMul (.int .i64 2) (vs1013.getD 0 undef) fun v1017 =>
XLoop [v1017, (.int .i64 0)] w1015 (S_slices_stableCmpFunc_Pair_l1 a0 a1 a2 I1011 n1012 vs1013)) (K (.tuple #[]) w1015)
/- S_slices_stableCmpFunc_Pair_l3: 0=slot 8 b 1=slot 7 a -/
def S_slices_stableCmpFunc_Pair_l3 (K : Value → World → Prop) (a0 : Value) (a1 : Value) (a2 : Value) (I1000 : Nat → List Value → World → Prop) (n1001 : Nat) (vs1002 : List Value) (g1003 : Nat → Value) (w1004 : World) : Prop :=
xLe (vs1002.getD 0 undef) a1 fun v1005 =>
xIf v1005 (Ret P n_slices_insertionSortCmpFunc_Pair [a0, (vs1002.getD 1 undef), (vs1002.getD 0 undef), a2] w1004 fun v1006 w1007 =>
xAdd (vs1002.getD 0 undef) (.int .i64 20) fun v1008 =>
XNext I1000 n1001 [v1008, (vs1002.getD 0 undef)] w1007) (Ret P n_slices_insertionSortCmpFunc_Pair [a0, (vs1002.getD 1 undef), a1, a2] w1004 fun v1009 w1010 =>
XLoop [(.int .i64 20), (vs1002.getD 1 undef), (vs1002.getD 0 undef), undef] w1010 (S_slices_stableCmpFunc_Pair_l2 K a0 a1 a2))
abbrev S_slices_stableCmpFunc_Pair (a0 : Value) (a1 : Value) (a2 : Value) (K : Value → World → Prop) (w0 : World) : Prop :=
XLoop [(.int .i64 20), (.int .i64 0)] w0 (S_slices_stableCmpFunc_Pair_l3 K a0 a1 a2)
theorem W_slices_stableCmpFunc_Pair {a0 a1 a2 : Value} {K : Value → World → Prop} {w : World} (h : S_slices_stableCmpFunc_Pair a0 a1 a2 K w) : Ret P n_slices_stableCmpFunc_Pair [a0, a1, a2] w K :=
  vcF_of mixed Tryz.func64 (show S_slices_stableCmpFunc_Pair a0 a1 a2 K w = vcF P Tryz.f64 [a0, a1, a2] w K from by kernel_rfl) h
/- (*sync.Once).Do -/
abbrev S_sync_Once_Do (a0 : Value) (a1 : Value) (K : Value → World → Prop) (w0 : World) : Prop :=
xAt a0 fun a1000 =>
Ret P n_atomic_Bool_Load [(.pointer (some (a1000.add 0)))] w0 fun v1001 w1002 =>
xNot v1001 fun v1003 =>
xIf v1003 (Ret P n_sync_Once_doSlow [a0, a1] w1002 fun v1004 w1005 =>
K (.tuple #[]) w1005) (K (.tuple #[]) w1002)
theorem W_sync_Once_Do {a0 a1 : Value} {K : Value → World → Prop} {w : World} (h : S_sync_Once_Do a0 a1 K w) : Ret P n_sync_Once_Do [a0, a1] w K :=
  vcF_of mixed Tryz.func67 (show S_sync_Once_Do a0 a1 K w = vcF P Tryz.f67 [a0, a1] w K from by kernel_rfl) h
/- (*spunyarn/meter.Once).Get$1 -/
abbrev S_meter_Once_Get_1 (a0 : Value) (a1 : Value) (K : Value → World → Prop) (w0 : World) : Prop :=
xAt a1 fun a1000 =>
XLd w0.drew a1000 fun v1001 =>
xAt a1 fun a1002 =>
XLd w0.drew a1002 fun v1003 =>
xAt a0 fun a1004 =>
XLd w0.drew a1004 fun v1005 =>
xFunc v1005 [] fun f1006 xs1007 =>
xCall P f1006 xs1007 w0.drew fun v1008 w1009 =>
xKeep1 w1009 a1 v1003 ∧ (xKeep1 w1009 a1 v1001 ∧ (xAt v1001 fun a1010 =>
XSt w1009 (a1010.add 3) v1008 fun w1011 =>
xKeep1 w1011 a1 v1003 ∧ (xAt v1003 fun a1012 =>
XSt w1011 (a1012.add 4) (.bool true) fun w1013 =>
K (.tuple #[]) w1013)))
theorem W_meter_Once_Get_1 {a0 a1 : Value} {K : Value → World → Prop} {w : World} (h : S_meter_Once_Get_1 a0 a1 K w) : Ret P n_meter_Once_Get_1 [a0, a1] w K :=
  vcF_of mixed Tryz.func68 (show S_meter_Once_Get_1 a0 a1 K w = vcF P Tryz.f68 [a0, a1] w K from by kernel_rfl) h
/- slices.insertionSortCmpFunc[spunyarn/api.Pair] -/
/- S_slices_insertionSortCmpFunc_Pair_l1: 0=slot 9 j -/
def S_slices_insertionSortCmpFunc_Pair_l1 (a0 : Value) (a1 : Value) (a3 : Value) (I1001 : Nat → List Value → World → Prop) (n1002 : Nat) (vs1003 : List Value) (I1007 : Nat → List Value → World → Prop) (n1008 : Nat) (vs1009 : List Value) (g1010 : Nat → Value) (w1011 : World) : Prop :=
/- 0 -/ XJ (fun J1012 =>
xGt (vs1009.getD 0 undef) a1 fun v1016 =>
xIf v1016 (xIxS a0 (vs1009.getD 0 undef) 2 fun v1017 =>
xAt v1017 fun a1018 =>
XLdN w1011.drew a1018 2 fun v1019 =>
xSub (vs1009.getD 0 undef) (.int .i64 1) fun v1020 =>
xIxS a0 v1020 2 fun v1021 =>
xAt v1021 fun a1022 =>
XLdN w1011.drew a1022 2 fun v1023 =>
xFunc a3 [v1019, v1023] fun f1024 xs1025 =>
xCall P f1024 xs1025 w1011.drew fun v1026 w1027 =>
xLt v1026 (.int .i64 0) fun v1028 =>
J1012 [v1028] w1027) (J1012 [(.bool false)] (w1011.drew))) fun vs1013 g1014 w1015 =>
xIf (vs1013.getD 0 undef) (xSub (vs1009.getD 0 undef) (.int .i64 1) fun v1029 =>
xSub (vs1009.getD 0 undef) (.int .i64 1) fun v1030 =>
xIxS a0 v1030 2 fun v1031 =>
xAt v1031 fun a1032 =>
XLdN w1015.drew a1032 2 fun v1033 =>
xIxS a0 (vs1009.getD 0 undef) 2 fun v1034 =>
xAt v1034 fun a1035 =>
XLdN w1015.drew a1035 2 fun v1036 =>
xIxS a0 (vs1009.getD 0 undef) 2 fun v1037 =>
xAt v1037 fun a1039 =>
XDo P (storeVar 47 a1039 v1033) w1015.drew fun w1038 =>
xIxS a0 v1029 2 fun v1040 =>
xAt v1040 fun a1042 =>
XDo P (storeVar 47 a1042 v1036) w1038 fun w1041 =>
xSub (vs1009.getD 0 undef) (.int .i64 1) fun v1043 =>
XNext I1007 n1008 [v1043] w1041) (xAdd (vs1003.getD 0 undef) (.int .i64 1) fun v1044 =>
XNext I1001 n1002 [v1044, (vs1009.getD 0 undef)] w1015)
/- S_slices_insertionSortCmpFunc_Pair_l2: 0=slot 8 i 1=slot 9 j -/
def S_slices_insertionSortCmpFunc_Pair_l2 (K : Value → World → Prop) (a0 : Value) (a1 : Value) (a2 : Value) (a3 : Value) (I1001 : Nat → List Value → World → Prop) (n1002 : Nat) (vs1003 : List Value) (g1004 : Nat → Value) (w1005 : World) : Prop :=
xLt (vs1003.getD 0 undef) a2 fun v1006 =>
xIf v1006 (XLoop [(vs1003.getD 0 undef)] w1005 (S_slices_insertionSortCmpFunc_Pair_l1 a0 a1 a3 I1001 n1002 vs1003)) (K (.tuple #[]) w1005)
abbrev S_slices_insertionSortCmpFunc_Pair (a0 : Value) (a1 : Value) (a2 : Value) (a3 : Value) (K : Value → World → Prop) (w0 : World) : Prop :=
xAdd a1 (.int .i64 1) fun v1000 =>
XLoop [v1000, undef] w0 (S_slices_insertionSortCmpFunc_Pair_l2 K a0 a1 a2 a3)
theorem W_slices_insertionSortCmpFunc_Pair {a0 a1 a2 a3 : Value} {K : Value → World → Prop} {w : World} (h : S_slices_insertionSortCmpFunc_Pair a0 a1 a2 a3 K w) : Ret P n_slices_insertionSortCmpFunc_Pair [a0, a1, a2, a3] w K :=
  vcF_of mixed Tryz.func83 (show S_slices_insertionSortCmpFunc_Pair a0 a1 a2 a3 K w = vcF P Tryz.f83 [a0, a1, a2, a3] w K from by kernel_rfl) h
/- slices.symMergeCmpFunc[spunyarn/api.Pair] -/
/- S_slices_symMergeCmpFunc_Pair_l1: 0=slot 13 k -/
def S_slices_symMergeCmpFunc_Pair_l1 (K : Value → World → Prop) (a0 : Value) (vs1004 : List Value) (I1024 : Nat → List Value → World → Prop) (n1025 : Nat) (vs1026 : List Value) (g1027 : Nat → Value) (w1028 : World) : Prop :=
xSub (vs1004.getD 0 undef) (.int .i64 1) fun v1029 =>
xLt (vs1026.getD 0 undef) v1029 fun v1030 =>
xIf v1030 (xAdd (vs1026.getD 0 undef) (.int .i64 1) fun v1031 =>
xAdd (vs1026.getD 0 undef) (.int .i64 1) fun v1032 =>
xIxS a0 v1032 2 fun v1033 =>
xAt v1033 fun a1034 =>
XLdN w1028.drew a1034 2 fun v1035 =>
xIxS a0 (vs1026.getD 0 undef) 2 fun v1036 =>
xAt v1036 fun a1037 =>
XLdN w1028.drew a1037 2 fun v1038 =>
xIxS a0 (vs1026.getD 0 undef) 2 fun v1039 =>
xAt v1039 fun a1041 =>
XDo P (storeVar 47 a1041 v1035) w1028.drew fun w1040 =>
xIxS a0 v1031 2 fun v1042 =>
xAt v1042 fun a1044 =>
XDo P (storeVar 47 a1044 v1038) w1040 fun w1043 =>
xAdd (vs1026.getD 0 undef) (.int .i64 1) fun v1045 =>
XNext I1024 n1025 [v1045] w1043) (K (.tuple #[]) w1028)
/- S_slices_symMergeCmpFunc_Pair_l2: 0=slot 10 i 1=slot 11 j 2=slot 12 h -/
def S_slices_symMergeCmpFunc_Pair_l2 (K : Value → World → Prop) (a0 : Value) (a1 : Value) (a4 : Value) (I1002 : Nat → List Value → World → Prop) (n1003 : Nat) (vs1004 : List Value) (g1005 : Nat → Value) (w1006 : World) : Prop :=
xLt (vs1004.getD 0 undef) (vs1004.getD 1 undef) fun v1007 =>
xIf v1007 (xAdd (vs1004.getD 0 undef) (vs1004.getD 1 undef) fun v1008 =>
xConv .u64 v1008 fun v1009 =>
xShr v1009 (.int .u64 1) fun v1010 =>
xConv .i64 v1010 fun v1011 =>
xIxS a0 v1011 2 fun v1012 =>
xAt v1012 fun a1013 =>
XLdN w1006.drew a1013 2 fun v1014 =>
xIxS a0 a1 2 fun v1015 =>
xAt v1015 fun a1016 =>
XLdN w1006.drew a1016 2 fun v1017 =>
xFunc a4 [v1014, v1017] fun f1018 xs1019 =>
xCall P f1018 xs1019 w1006.drew fun v1020 w1021 =>
xLt v1020 (.int .i64 0) fun v1022 =>
xIf v1022 (xAdd v1011 (.int .i64 1) fun v1023 =>
XNext I1002 n1003 [v1023, (vs1004.getD 1 undef), v1011] w1021) (XNext I1002 n1003 [(vs1004.getD 0 undef), v1011, v1011] w1021)) (XLoop [a1] w1006 (S_slices_symMergeCmpFunc_Pair_l1 K a0 vs1004))
/- S_slices_symMergeCmpFunc_Pair_l3: 0=slot 17 k -/
def S_slices_symMergeCmpFunc_Pair_l3 (K : Value → World → Prop) (a0 : Value) (vs1050 : List Value) (I1071 : Nat → List Value → World → Prop) (n1072 : Nat) (vs1073 : List Value) (g1074 : Nat → Value) (w1075 : World) : Prop :=
xGt (vs1073.getD 0 undef) (vs1050.getD 0 undef) fun v1076 =>
xIf v1076 (xSub (vs1073.getD 0 undef) (.int .i64 1) fun v1077 =>
xSub (vs1073.getD 0 undef) (.int .i64 1) fun v1078 =>
xIxS a0 v1078 2 fun v1079 =>
xAt v1079 fun a1080 =>
XLdN w1075.drew a1080 2 fun v1081 =>
xIxS a0 (vs1073.getD 0 undef) 2 fun v1082 =>
xAt v1082 fun a1083 =>
XLdN w1075.drew a1083 2 fun v1084 =>
xIxS a0 (vs1073.getD 0 undef) 2 fun v1085 =>
xAt v1085 fun a1087 =>
XDo P (storeVar 47 a1087 v1081) w1075.drew fun w1086 =>
xIxS a0 v1077 2 fun v1088 =>
xAt v1088 fun a1090 =>
XDo P (storeVar 47 a1090 v1084) w1086 fun w1089 =>
xSub (vs1073.getD 0 undef) (.int .i64 1) fun v1091 =>
XNext I1071 n1072 [v1091] w1089) (K (.tuple #[]) w1075)
/- S_slices_symMergeCmpFunc_Pair_l4: 0=slot 14 i 1=slot 15 j 2=slot 16 h -/
def S_slices_symMergeCmpFunc_Pair_l4 (K : Value → World → Prop) (a0 : Value) (a2 : Value) (a4 : Value) (I1048 : Nat → List Value → World → Prop) (n1049 : Nat) (vs1050 : List Value) (g1051 : Nat → Value) (w1052 : World) : Prop :=
xLt (vs1050.getD 0 undef) (vs1050.getD 1 undef) fun v1053 =>
xIf v1053 (xAdd (vs1050.getD 0 undef) (vs1050.getD 1 undef) fun v1054 =>
xConv .u64 v1054 fun v1055 =>
xShr v1055 (.int .u64 1) fun v1056 =>
xConv .i64 v1056 fun v1057 =>
xIxS a0 a2 2 fun v1058 =>
xAt v1058 fun a1059 =>
XLdN w1052.drew a1059 2 fun v1060 =>
xIxS a0 v1057 2 fun v1061 =>
xAt v1061 fun a1062 =>
XLdN w1052.drew a1062 2 fun v1063 =>
xFunc a4 [v1060, v1063] fun f1064 xs1065 =>
xCall P f1064 xs1065 w1052.drew fun v1066 w1067 =>
xLt v1066 (.int .i64 0) fun v1068 =>
xNot v1068 fun v1069 =>
xIf v1069 (xAdd v1057 (.int .i64 1) fun v1070 =>
XNext I1048 n1049 [v1070, (vs1050.getD 1 undef), v1057] w1067) (XNext I1048 n1049 [(vs1050.getD 0 undef), v1057, v1057] w1067)) (XLoop [a2] w1052 (S_slices_symMergeCmpFunc_Pair_l3 K a0 vs1050))
/- S_slices_symMergeCmpFunc_Pair_l5: 0=slot 20 start 1=slot 21 r 2=slot 23 c -/
def S_slices_symMergeCmpFunc_Pair_l5 (K : Value → World → Prop) (a0 : Value) (a1 : Value) (a2 : Value) (a3 : Value) (a4 : Value) (v1095 : Value) (v1096 : Value) (v1103 : Value) (I1104 : Nat → List Value → World → Prop) (n1105 : Nat) (vs1106 : List Value) (g1107 : Nat → Value) (w1108 : World) : Prop :=
xLt (vs1106.getD 0 undef) (vs1106.getD 1 undef) fun v1109 =>
xIf v1109 (xAdd (vs1106.getD 0 undef) (vs1106.getD 1 undef) fun v1110 =>
xConv .u64 v1110 fun v1111 =>
xShr v1111 (.int .u64 1) fun v1112 =>
xConv .i64 v1112 fun v1113 =>
xSub v1103 v1113 fun v1114 =>
xIxS a0 v1114 2 fun v1115 =>
xAt v1115 fun a1116 =>
XLdN w1108.drew a1116 2 fun v1117 =>
xIxS a0 v1113 2 fun v1118 =>
xAt v1118 fun a1119 =>
XLdN w1108.drew a1119 2 fun v1120 =>
xFunc a4 [v1117, v1120] fun f1121 xs1122 =>
xCall P f1121 xs1122 w1108.drew fun v1123 w1124 =>
xLt v1123 (.int .i64 0) fun v1125 =>
xNot v1125 fun v1126 =>
xIf v1126 (xAdd v1113 (.int .i64 1) fun v1127 =>
XNext I1104 n1105 [v1127, (vs1106.getD 1 undef), v1113] w1124) (XNext I1104 n1105 [(vs1106.getD 0 undef), v1113, v1113] w1124)) (xSub v1096 (vs1106.getD 0 undef) fun v1128 =>
/-  -/ XJ (fun J1129 =>
/- 0 -/ XJ (fun J1133 =>
xLt (vs1106.getD 0 undef) a2 fun v1137 =>
xIf v1137 (xLt a2 v1128 fun v1138 =>
J1133 [v1138] w1108) (J1133 [(.bool false)] w1108)) fun vs1134 g1135 w1136 =>
xIf (vs1134.getD 0 undef) (Ret P n_slices_rotateCmpFunc_Pair [a0, (vs1106.getD 0 undef), a2, v1128, a4] w1136 fun v1139 w1140 =>
J1129 [] w1140) (J1129 [] w1136)) fun vs1130 g1131 w1132 =>
/-  -/ XJ (fun J1141 =>
/- 0 -/ XJ (fun J1145 =>
xLt a1 (vs1106.getD 0 undef) fun v1149 =>
xIf v1149 (xLt (vs1106.getD 0 undef) v1095 fun v1150 =>
J1145 [v1150] w1132) (J1145 [(.bool false)] w1132)) fun vs1146 g1147 w1148 =>
xIf (vs1146.getD 0 undef) (Ret P n_slices_symMergeCmpFunc_Pair [a0, a1, (vs1106.getD 0 undef), v1095, a4] w1148 fun v1151 w1152 =>
J1141 [] w1152) (J1141 [] w1148)) fun vs1142 g1143 w1144 =>
/- 0 -/ XJ (fun J1153 =>
xLt v1095 v1128 fun v1157 =>
xIf v1157 (xLt v1128 a3 fun v1158 =>
J1153 [v1158] w1144) (J1153 [(.bool false)] w1144)) fun vs1154 g1155 w1156 =>
xIf (vs1154.getD 0 undef) (Ret P n_slices_symMergeCmpFunc_Pair [a0, v1095, v1128, a3, a4] w1156 fun v1159 w1160 =>
K (.tuple #[]) w1160) (K (.tuple #[]) w1156))
abbrev S_slices_symMergeCmpFunc_Pair (a0 : Value) (a1 : Value) (a2 : Value) (a3 : Value) (a4 : Value) (K : Value → World → Prop) (w0 : World) : Prop :=
xSub a2 a1 fun v1000 =>
xEq v1000 (.int .i64 1) fun v1001 =>
xIf v1001 (XLoop [a2, a3, undef] w0 (S_slices_symMergeCmpFunc_Pair_l2 K a0 a1 a4)) (xSub a3 a2 fun v1046 =>
xEq v1046 (.int .i64 1) fun v1047 =>
xIf v1047 (XLoop [a1, a2, undef] w0 (S_slices_symMergeCmpFunc_Pair_l4 K a0 a2 a4)) (xAdd a1 a3 fun v1092 =>
xConv .u64 v1092 fun v1093 =>
xShr v1093 (.int .u64 1) fun v1094 =>
xConv .i64 v1094 fun v1095 =>
xAdd v1095 a2 fun v1096 =>
/- 0 start 1 r -/ XJ (fun J1097 =>
xGt a2 v1095 fun v1101 =>
xIf v1101 (xSub v1096 a3 fun v1102 =>
J1097 [v1102, v1095] w0) (J1097 [a1, a2] w0)) fun vs1098 g1099 w1100 =>
xSub v1096 (.int .i64 1) fun v1103 =>
XLoop [(vs1098.getD 0 undef), (vs1098.getD 1 undef), undef] w1100 (S_slices_symMergeCmpFunc_Pair_l5 K a0 a1 a2 a3 a4 v1095 v1096 v1103)))
theorem W_slices_symMergeCmpFunc_Pair {a0 a1 a2 a3 a4 : Value} {K : Value → World → Prop} {w : World} (h : S_slices_symMergeCmpFunc_Pair a0 a1 a2 a3 a4 K w) : Ret P n_slices_symMergeCmpFunc_Pair [a0, a1, a2, a3, a4] w K :=
  vcF_of mixed Tryz.func84 (show S_slices_symMergeCmpFunc_Pair a0 a1 a2 a3 a4 K w = vcF P Tryz.f84 [a0, a1, a2, a3, a4] w K from by kernel_rfl) h
/- slices.rotateCmpFunc[spunyarn/api.Pair] -/
/- S_slices_rotateCmpFunc_Pair_l1: 0=slot 10 i 1=slot 11 j -/
def S_slices_rotateCmpFunc_Pair_l1 (K : Value → World → Prop) (a0 : Value) (a2 : Value) (a4 : Value) (I1002 : Nat → List Value → World → Prop) (n1003 : Nat) (vs1004 : List Value) (g1005 : Nat → Value) (w1006 : World) : Prop :=
xNe (vs1004.getD 0 undef) (vs1004.getD 1 undef) fun v1007 =>
xIf v1007 (xGt (vs1004.getD 0 undef) (vs1004.getD 1 undef) fun v1008 =>
xIf v1008 (xSub a2 (vs1004.getD 0 undef) fun v1009 =>
Ret P n_slices_swapRangeCmpFunc_Pair [a0, v1009, a2, (vs1004.getD 1 undef), a4] w1006 fun v1010 w1011 =>
xSub (vs1004.getD 0 undef) (vs1004.getD 1 undef) fun v1012 =>
XNext I1002 n1003 [v1012, (vs1004.getD 1 undef)] w1011) (xSub a2 (vs1004.getD 0 undef) fun v1013 =>
xAdd a2 (vs1004.getD 1 undef) fun v1014 =>
xSub v1014 (vs1004.getD 0 undef) fun v1015 =>
Ret P n_slices_swapRangeCmpFunc_Pair [a0, v1013, v1015, (vs1004.getD 0 undef), a4] w1006 fun v1016 w1017 =>
xSub (vs1004.getD 1 undef) (vs1004.getD 0 undef) fun v1018 =>
XNext I1002 n1003 [(vs1004.getD 0 undef), v1018] w1017)) (xSub a2 (vs1004.getD 0 undef) fun v1019 =>
Ret P n_slices_swapRangeCmpFunc_Pair [a0, v1019, a2, (vs1004.getD 0 undef), a4] w1006 fun v1020 w1021 =>
K (.tuple #[]) w1021)
abbrev S_slices_rotateCmpFunc_Pair (a0 : Value) (a1 : Value) (a2 : Value) (a3 : Value) (a4 : Value) (K : Value → World → Prop) (w0 : World) : Prop :=
xSub a2 a1 fun v1000 =>
xSub a3 a2 fun v1001 =>
XLoop [v1000, v1001] w0 (S_slices_rotateCmpFunc_Pair_l1 K a0 a2 a4)
theorem W_slices_rotateCmpFunc_Pair {a0 a1 a2 a3 a4 : Value} {K : Value → World → Prop} {w : World} (h : S_slices_rotateCmpFunc_Pair a0 a1 a2 a3 a4 K w) : Ret P n_slices_rotateCmpFunc_Pair [a0, a1, a2, a3, a4] w K :=
  vcF_of mixed Tryz.func106 (show S_slices_rotateCmpFunc_Pair a0 a1 a2 a3 a4 K w = vcF P Tryz.f106 [a0, a1, a2, a3, a4] w K from by kernel_rfl) h
/- (*sync.Mutex).Lock -/
abbrev S_sync_Mutex_Lock (a0 : Value) (K : Value → World → Prop) (w0 : World) : Prop :=
xAt a0 fun a1000 =>
Ret P n_sync_Mutex_Lock_132 [(.pointer (some (a1000.add 0)))] w0 fun v1001 w1002 =>
K (.tuple #[]) w1002
theorem W_sync_Mutex_Lock {a0 : Value} {K : Value → World → Prop} {w : World} (h : S_sync_Mutex_Lock a0 K w) : Ret P n_sync_Mutex_Lock [a0] w K :=
  vcF_of mixed Tryz.func108 (show S_sync_Mutex_Lock a0 K w = vcF P Tryz.f108 [a0] w K from by kernel_rfl) h
/- (*sync.Mutex).Unlock -/
abbrev S_sync_Mutex_Unlock (a0 : Value) (K : Value → World → Prop) (w0 : World) : Prop :=
xAt a0 fun a1000 =>
Ret P n_sync_Mutex_Unlock_133 [(.pointer (some (a1000.add 0)))] w0 fun v1001 w1002 =>
K (.tuple #[]) w1002
theorem W_sync_Mutex_Unlock {a0 : Value} {K : Value → World → Prop} {w : World} (h : S_sync_Mutex_Unlock a0 K w) : Ret P n_sync_Mutex_Unlock [a0] w K :=
  vcF_of mixed Tryz.func109 (show S_sync_Mutex_Unlock a0 K w = vcF P Tryz.f109 [a0] w K from by kernel_rfl) h
/- slices.swapRangeCmpFunc[spunyarn/api.Pair] -/
/- S_slices_swapRangeCmpFunc_Pair_l1: 0=slot 10 i -/
def S_slices_swapRangeCmpFunc_Pair_l1 (K : Value → World → Prop) (a0 : Value) (a1 : Value) (a2 : Value) (a3 : Value) (I1000 : Nat → List Value → World → Prop) (n1001 : Nat) (vs1002 : List Value) (g1003 : Nat → Value) (w1004 : World) : Prop :=
xLt (vs1002.getD 0 undef) a3 fun v1005 =>
xIf v1005 (xAdd a1 (vs1002.getD 0 undef) fun v1006 =>
xAdd a2 (vs1002.getD 0 undef) fun v1007 =>
xAdd a2 (vs1002.getD 0 undef) fun v1008 =>
xIxS a0 v1008 2 fun v1009 =>
xAt v1009 fun a1010 =>
XLdN w1004.drew a1010 2 fun v1011 =>
xAdd a1 (vs1002.getD 0 undef) fun v1012 =>
xIxS a0 v1012 2 fun v1013 =>
xAt v1013 fun a1014 =>
XLdN w1004.drew a1014 2 fun v1015 =>
xIxS a0 v1006 2 fun v1016 =>
xAt v1016 fun a1018 =>
XDo P (storeVar 47 a1018 v1011) w1004.drew fun w1017 =>
xIxS a0 v1007 2 fun v1019 =>
xAt v1019 fun a1021 =>
XDo P (storeVar 47 a1021 v1015) w1017 fun w1020 =>
xAdd (vs1002.getD 0 undef) (.int .i64 1) fun v1022 =>
XNext I1000 n1001 [v1022] w1020) (K (.tuple #[]) w1004)
abbrev S_slices_swapRangeCmpFunc_Pair (a0 : Value) (a1 : Value) (a2 : Value) (a3 : Value) (a4 : Value) (K : Value → World → Prop) (w0 : World) : Prop :=
XLoop [(.int .i64 0)] w0 (S_slices_swapRangeCmpFunc_Pair_l1 K a0 a1 a2 a3)
theorem W_slices_swapRangeCmpFunc_Pair {a0 a1 a2 a3 a4 : Value} {K : Value → World → Prop} {w : World} (h : S_slices_swapRangeCmpFunc_Pair a0 a1 a2 a3 a4 K w) : Ret P n_slices_swapRangeCmpFunc_Pair [a0, a1, a2, a3, a4] w K :=
  vcF_of mixed Tryz.func131 (show S_slices_swapRangeCmpFunc_Pair a0 a1 a2 a3 a4 K w = vcF P Tryz.f131 [a0, a1, a2, a3, a4] w K from by kernel_rfl) h
/- (*internal/sync.Mutex).Lock -/
abbrev S_sync_Mutex_Lock_132 (a0 : Value) (K : Value → World → Prop) (w0 : World) : Prop :=
xCall P 154 [] w0 fun v1000 w1001 =>
xAt a0 fun a1002 =>
xCall P 155 [(.pointer (some (a1002.add 0))), (.int .i32 0), (.int .i32 1)] w1001 fun v1003 w1004 =>
xIf v1003 (/-  -/ XJ (fun J1005 =>
xCall P 156 [] w1004 fun v1009 w1010 =>
XRun P (convert 205 209 a0) w1010 fun v1011 w1012 =>
xCall P 157 [v1011] w1012 fun v1013 w1014 =>
J1005 [] w1014) fun vs1006 g1007 w1008 =>
K (.tuple #[]) w1008) (Ret P n_sync_Mutex_lockSlow [a0] w1004 fun v1015 w1016 =>
K (.tuple #[]) w1016)
theorem W_sync_Mutex_Lock_132 {a0 : Value} {K : Value → World → Prop} {w : World} (h : S_sync_Mutex_Lock_132 a0 K w) : Ret P n_sync_Mutex_Lock_132 [a0] w K :=
  vcF_of mixed Tryz.func132 (show S_sync_Mutex_Lock_132 a0 K w = vcF P Tryz.f132 [a0] w K from by kernel_rfl) h
/- (*internal/sync.Mutex).Unlock -/
abbrev S_sync_Mutex_Unlock_133 (a0 : Value) (K : Value → World → Prop) (w0 : World) : Prop :=
/-  -/ XJ (fun J1000 =>
xAt a0 fun a1004 =>
XLd w0 (a1004.add 0) fun v1005 =>
XRun P (convert 205 209 a0) w0 fun v1006 w1007 =>
xCall P 159 [v1006] w1007 fun v1008 w1009 =>
xCall P 154 [] w1009 fun v1010 w1011 =>
J1000 [] w1011) fun vs1001 g1002 w1003 =>
xAt a0 fun a1012 =>
xCall P 160 [(.pointer (some (a1012.add 0))), (.int .i32 (-1))] w1003 fun v1013 w1014 =>
/-  -/ XJ (fun J1015 =>
xNe v1013 (.int .i32 0) fun v1019 =>
xIf v1019 (Ret P n_sync_Mutex_unlockSlow [a0, v1013] w1014 fun v1020 w1021 =>
J1015 [] w1021) (J1015 [] w1014)) fun vs1016 g1017 w1018 =>
xCall P 156 [] w1018 fun v1022 w1023 =>
K (.tuple #[]) w1023
theorem W_sync_Mutex_Unlock_133 {a0 : Value} {K : Value → World → Prop} {w : World} (h : S_sync_Mutex_Unlock_133 a0 K w) : Ret P n_sync_Mutex_Unlock_133 [a0] w K :=
  vcF_of mixed Tryz.func133 (show S_sync_Mutex_Unlock_133 a0 K w = vcF P Tryz.f133 [a0] w K from by kernel_rfl) h
/- (*internal/sync.Mutex).unlockSlow -/
/- S_sync_Mutex_unlockSlow_l1: 0=slot 4 old 1=slot 1 new -/
def S_sync_Mutex_unlockSlow_l1 (K : Value → World → Prop) (a0 : Value) (I1011 : Nat → List Value → World → Prop) (n1012 : Nat) (vs1013 : List Value) (g1014 : Nat → Value) (w1015 : World) : Prop :=
/- 0 -/ XJ (fun J1016 =>
xShr (vs1013.getD 0 undef) (.int .u64 3) fun v1020 =>
xEq v1020 (.int .i32 0) fun v1021 =>
xIf v1021 (J1016 [(.bool true)] w1015) (xAnd (vs1013.getD 0 undef) (.int .i32 7) fun v1022 =>
xNe v1022 (.int .i32 0) fun v1023 =>
J1016 [v1023] w1015)) fun vs1017 g1018 w1019 =>
xIf (vs1017.getD 0 undef) (K (.tuple #[]) w1019) (xSub (vs1013.getD 0 undef) (.int .i32 8) fun v1024 =>
xOr v1024 (.int .i32 2) fun v1025 =>
xAt a0 fun a1026 =>
xCall P 155 [(.pointer (some (a1026.add 0))), (vs1013.getD 0 undef), v1025] w1019 fun v1027 w1028 =>
xIf v1027 (xAt a0 fun a1029 =>
xCall P 175 [(.pointer (some (a1029.add 1))), (.bool false), (.int .i64 2)] w1028 fun v1030 w1031 =>
K (.tuple #[]) w1031) (xAt a0 fun a1032 =>
XLd w1028 (a1032.add 0) fun v1033 =>
XNext I1011 n1012 [v1033, v1025] w1028))
abbrev S_sync_Mutex_unlockSlow (a0 : Value) (a1 : Value) (K : Value → World → Prop) (w0 : World) : Prop :=
/-  -/ XJ (fun J1000 =>
xAdd a1 (.int .i32 1) fun v1004 =>
xAnd v1004 (.int .i32 1) fun v1005 =>
xEq v1005 (.int .i32 0) fun v1006 =>
xIf v1006 (xCall P 174 [(.string ⟨#[115, 121, 110, 99, 58, 32, 117, 110, 108, 111, 99, 107, 32, 111, 102, 32, 117, 110, 108, 111, 99, 107, 101, 100, 32, 109, 117, 116, 101, 120]⟩)] w0 fun v1007 w1008 =>
J1000 [] w1008) (J1000 [] w0)) fun vs1001 g1002 w1003 =>
xAnd a1 (.int .i32 4) fun v1009 =>
xEq v1009 (.int .i32 0) fun v1010 =>
xIf v1010 (XLoop [a1, a1] w1003 (S_sync_Mutex_unlockSlow_l1 K a0)) (xAt a0 fun a1034 =>
xCall P 175 [(.pointer (some (a1034.add 1))), (.bool true), (.int .i64 2)] w1003 fun v1035 w1036 =>
K (.tuple #[]) w1036)
theorem W_sync_Mutex_unlockSlow {a0 a1 : Value} {K : Value → World → Prop} {w : World} (h : S_sync_Mutex_unlockSlow a0 a1 K w) : Ret P n_sync_Mutex_unlockSlow [a0, a1] w K :=
  vcF_of mixed Tryz.func161 (show S_sync_Mutex_unlockSlow a0 a1 K w = vcF P Tryz.f161 [a0, a1] w K from by kernel_rfl) h
end Go.Proofs.YtlhjfenpmnejoaaGreat
