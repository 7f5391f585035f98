/-  Written by gen.py for this claim: of each function a form without frames, the same as the engine's condition by reckoning.  -/
import Derived.Test.YtbleadagnpckbaaGreatDoorSN
import Derived.Test.YtbleadagnpckbaaGreatDoorProg
namespace Go.Proofs.YtbleadagnpckbaaGreatDoor
open Go X
set_option linter.unusedVariables false
set_option maxRecDepth 100000
/- (*spunyarn/tree.Version).Len$1 -/
abbrev S_tree_Version_Len_1 (a0 : Value) (K : Value → World → Prop) (w0 : World) : Prop :=
xAt a0 fun a1000 =>
XLd w0 a1000 fun v1001 =>
xAt v1001 fun a1002 =>
XLd w0 (a1002.add 1) fun v1003 =>
Ret P n_canon_Count [v1003] w0 fun v1004 w1005 =>
K v1004 w1005
theorem W_tree_Version_Len_1 {a0 : Value} {K : Value → World → Prop} {w : World} (h : S_tree_Version_Len_1 a0 K w) : Ret P n_tree_Version_Len_1 [a0] w K :=
  vcF_of mixed Tryz.func142 (show S_tree_Version_Len_1 a0 K w = vcF P Tryz.f142 [a0] w K from by kernel_rfl) h
/- spunyarn/canon.Count -/
abbrev S_canon_Count (a0 : Value) (K : Value → World → Prop) (w0 : World) : Prop :=
XNew w0 [(.int .i64 0)] 3 fun a1000 w1001 =>
XSt w1001 a1000 (.int .i64 0) fun w1002 =>
Ret P n_canon_each [a0, (.func (.func 214) #[] #[(.pointer (some a1000))])] w1002 fun v1003 w1004 =>
XLd w1004 a1000 fun v1005 =>
K v1005 w1004
theorem W_canon_Count {a0 : Value} {K : Value → World → Prop} {w : World} (h : S_canon_Count a0 K w) : Ret P n_canon_Count [a0] w K :=
  vcF_of mixed Tryz.func143 (show S_canon_Count a0 K w = vcF P Tryz.f143 [a0] w K from by kernel_rfl) h
/- (*spunyarn/meter.Owners).Next -/
abbrev S_meter_Owners_Next (a0 : Value) (K : Value → World → Prop) (w0 : World) : Prop :=
xPEq P w0 a0 (.pointer none) fun v1000 =>
xIf v1000 (K (.int .u64 0) w0) (xAt a0 fun a1001 =>
Ret P n_atomic_Uint64_Add [(.pointer (some (a1001.add 0))), (.int .u64 1)] w0 fun v1002 w1003 =>
K v1002 w1003)
theorem W_meter_Owners_Next {a0 : Value} {K : Value → World → Prop} {w : World} (h : S_meter_Owners_Next a0 K w) : Ret P n_meter_Owners_Next [a0] w K :=
  vcF_of mixed Tryz.func144 (show S_meter_Owners_Next a0 K w = vcF P Tryz.f144 [a0] w K from by kernel_rfl) h
/- (*spunyarn/tree.Version).now -/
abbrev S_tree_Version_now (a0 : Value) (a1 : Value) (a2 : Value) (K : Value → World → Prop) (w0 : World) : Prop :=
xNe a2 (.int .i64 0) fun v1000 =>
xIf v1000 (K (.tuple #[(.pointer none), a2]) w0) (xAt a0 fun a1001 =>
XLd w0 (a1001.add 1) fun v1002 =>
xPEq P w0 a1 v1002 fun v1003 =>
xIf v1003 (K (.tuple #[a0, (.int .i64 0)]) w0) (xAt a0 fun a1004 =>
XLd w0 (a1004.add 0) fun v1005 =>
Ret P n_tree_World_Version [v1005, a1] w0 fun v1006 w1007 =>
K (.tuple #[v1006, (.int .i64 0)]) w1007))
theorem W_tree_Version_now {a0 a1 a2 : Value} {K : Value → World → Prop} {w : World} (h : S_tree_Version_now a0 a1 a2 K w) : Ret P n_tree_Version_now [a0, a1, a2] w K :=
  vcF_of mixed Tryz.func145 (show S_tree_Version_now a0 a1 a2 K w = vcF P Tryz.f145 [a0, a1, a2] w K from by kernel_rfl) h
/- (spunyarn/trans.base).mine -/
abbrev S_trans_base_mine (a0 : Value) (K : Value → World → Prop) (w0 : World) : Prop :=
XNew w0 (cellsV a0) 147 fun a1000 w1001 =>
XLd w1001 (a1000.add 1) fun v1002 =>
K v1002 w1001
theorem W_trans_base_mine {a0 : Value} {K : Value → World → Prop} {w : World} (h : S_trans_base_mine a0 K w) : Ret P n_trans_base_mine [a0] w K :=
  vcF_of mixed Tryz.func146 (show S_trans_base_mine a0 K w = vcF P Tryz.f146 [a0] w K from by kernel_rfl) h
/- (*spunyarn/trans.Trans).may -/
abbrev S_trans_Trans_may (a0 : Value) (K : Value → World → Prop) (w0 : World) : Prop :=
/- 0 -/ XJ (fun J1000 =>
xPEq P w0 a0 (.pointer none) fun v1004 =>
xIf v1004 (J1000 [(.bool true)] w0) (xAt a0 fun a1005 =>
XLd w0 ((a1005.add 0).add 0) fun v1006 =>
xPEq P w0 v1006 (.pointer none) fun v1007 =>
J1000 [v1007] w0)) fun vs1001 g1002 w1003 =>
xIf (vs1001.getD 0 undef) (K (.int .i64 2) w1003) (xAt a0 fun a1008 =>
XLd w1003 (a1008.add 4) fun v1009 =>
xIf v1009 (K (.int .i64 11) w1003) (K (.int .i64 0) w1003))
theorem W_trans_Trans_may {a0 : Value} {K : Value → World → Prop} {w : World} (h : S_trans_Trans_may a0 K w) : Ret P n_trans_Trans_may [a0] w K :=
  vcF_of mixed Tryz.func147 (show S_trans_Trans_may a0 K w = vcF P Tryz.f147 [a0] w K from by kernel_rfl) h
/- (spunyarn/trans.base).world -/
abbrev S_trans_base_world (a0 : Value) (K : Value → World → Prop) (w0 : World) : Prop :=
XNew w0 (cellsV a0) 147 fun a1000 w1001 =>
XLd w1001 (a1000.add 0) fun v1002 =>
Ret P n_tree_Version_World [v1002] w1001 fun v1003 w1004 =>
K v1003 w1004
theorem W_trans_base_world {a0 : Value} {K : Value → World → Prop} {w : World} (h : S_trans_base_world a0 K w) : Ret P n_trans_base_world [a0] w K :=
  vcF_of mixed Tryz.func148 (show S_trans_base_world a0 K w = vcF P Tryz.f148 [a0] w K from by kernel_rfl) h
/- slices.Clone[[]spunyarn/api.Pair,spunyarn/api.Pair] -/
abbrev S_slices_Clone_Pair (a0 : Value) (K : Value → World → Prop) (w0 : World) : Prop :=
xLEq a0 (.slice none 0 0) fun v1000 =>
xIf v1000 (K (.slice none 0 0) w0) (xFill (repL [(.slice none 0 0), (.int .u64 0)] 0) [] fun c1001 =>
XNew w0 c1001 102 fun a1002 w1003 =>
XRun P (Builtin.append_ #[93, 93] 93 #[(.slice (some a1002) 0 0), a0]) w1003 fun v1004 w1005 =>
K v1004 w1005)
theorem W_slices_Clone_Pair {a0 : Value} {K : Value → World → Prop} {w : World} (h : S_slices_Clone_Pair a0 K w) : Ret P n_slices_Clone_Pair [a0] w K :=
  vcF_of mixed Tryz.func149 (show S_slices_Clone_Pair a0 K w = vcF P Tryz.f149 [a0] w K from by kernel_rfl) h
/- slices.SortStableFunc[[]spunyarn/api.Pair,spunyarn/api.Pair] -/
abbrev S_slices_SortStableFunc_Pair (a0 : Value) (a1 : Value) (K : Value → World → Prop) (w0 : World) : Prop :=
xLen a0 fun v1000 =>
Ret P n_slices_stableCmpFunc_Pair [a0, v1000, a1] w0 fun v1001 w1002 =>
K (.tuple #[]) w1002
theorem W_slices_SortStableFunc_Pair {a0 a1 : Value} {K : Value → World → Prop} {w : World} (h : S_slices_SortStableFunc_Pair a0 a1 K w) : Ret P n_slices_SortStableFunc_Pair [a0, a1] w K :=
  vcF_of mixed Tryz.func150 (show S_slices_SortStableFunc_Pair a0 a1 K w = vcF P Tryz.f150 [a0, a1] w K from by kernel_rfl) h
/- spunyarn/load.Sort$1 -/
abbrev S_load_Sort_1 (a0 : Value) (a1 : Value) (K : Value → World → Prop) (w0 : World) : Prop :=
XNew w0 (cellsV a0) 102 fun a1000 w1001 =>
XNew w1001 (cellsV a1) 102 fun a1002 w1003 =>
XLd w1003 (a1000.add 0) fun v1004 =>
XLd w1003 (a1002.add 0) fun v1005 =>
Ret P n_keys_Cmp [v1004, v1005] w1003 fun v1006 w1007 =>
K v1006 w1007
theorem W_load_Sort_1 {a0 a1 : Value} {K : Value → World → Prop} {w : World} (h : S_load_Sort_1 a0 a1 K w) : Ret P n_load_Sort_1 [a0, a1] w K :=
  vcF_of mixed Tryz.func151 (show S_load_Sort_1 a0 a1 K w = vcF P Tryz.f151 [a0, a1] w K from by kernel_rfl) h
/- spunyarn/keys.Cmp -/
abbrev S_keys_Cmp (a0 : Value) (a1 : Value) (K : Value → World → Prop) (w0 : World) : Prop :=
Ret P n_bytes_Compare [a0, a1] w0 fun v1000 w1001 =>
K v1000 w1001
theorem W_keys_Cmp {a0 a1 : Value} {K : Value → World → Prop} {w : World} (h : S_keys_Cmp a0 a1 K w) : Ret P n_keys_Cmp [a0, a1] w K :=
  vcF_of mixed Tryz.func152 (show S_keys_Cmp a0 a1 K w = vcF P Tryz.f152 [a0, a1] w K from by kernel_rfl) h
/- spunyarn/keys.Same -/
abbrev S_keys_Same (a0 : Value) (a1 : Value) (K : Value → World → Prop) (w0 : World) : Prop :=
Ret P n_bytes_Equal [a0, a1] w0 fun v1000 w1001 =>
K v1000 w1001
theorem W_keys_Same {a0 a1 : Value} {K : Value → World → Prop} {w : World} (h : S_keys_Same a0 a1 K w) : Ret P n_keys_Same [a0, a1] w K :=
  vcF_of mixed Tryz.func153 (show S_keys_Same a0 a1 K w = vcF P Tryz.f153 [a0, a1] w K from by kernel_rfl) h
/- bytes.Clone -/
abbrev S_bytes_Clone (a0 : Value) (K : Value → World → Prop) (w0 : World) : Prop :=
xLEq a0 (.slice none 0 0) fun v1000 =>
xIf v1000 (K (.slice none 0 0) w0) (xFill (repL [(.int .u8 0)] 0) [] fun c1001 =>
XNew w0 c1001 5 fun a1002 w1003 =>
XRun P (Builtin.append_ #[50, 50] 50 #[(.slice (some a1002) 0 0), a0]) w1003 fun v1004 w1005 =>
K v1004 w1005)
theorem W_bytes_Clone {a0 : Value} {K : Value → World → Prop} {w : World} (h : S_bytes_Clone a0 K w) : Ret P n_bytes_Clone [a0] w K :=
  vcF_of mixed Tryz.func154 (show S_bytes_Clone a0 K w = vcF P Tryz.f154 [a0] w K from by kernel_rfl) h
/- spunyarn/canon.List -/
abbrev S_canon_List (a0 : Value) (K : Value → World → Prop) (w0 : World) : Prop :=
XNew w0 [(.slice none 0 0)] 93 fun a1000 w1001 =>
Ret P n_canon_each [a0, (.func (.func 219) #[] #[(.pointer (some a1000))])] w1001 fun v1002 w1003 =>
XLd w1003 a1000 fun v1004 =>
K v1004 w1003
theorem W_canon_List {a0 : Value} {K : Value → World → Prop} {w : World} (h : S_canon_List a0 K w) : Ret P n_canon_List [a0] w K :=
  vcF_of mixed Tryz.func155 (show S_canon_List a0 K w = vcF P Tryz.f155 [a0] w K from by kernel_rfl) h
/- spunyarn/spunyarnref01.Text -/
/- S_ref01_Text_l1: 0=slot 4 i 1=slot 3 s -/
def S_ref01_Text_l1 (K : Value → World → Prop) (a0 : Value) (I1000 : Nat → List Value → World → Prop) (n1001 : Nat) (vs1002 : List Value) (g1003 : Nat → Value) (w1004 : World) : Prop :=
xLen a0 fun v1005 =>
xLt (vs1002.getD 0 undef) v1005 fun v1006 =>
xIf v1006 (xIxS a0 (vs1002.getD 0 undef) 1 fun v1007 =>
xAt v1007 fun a1008 =>
XLd w1004 a1008 fun v1009 =>
Ret P n_ref01_digits [v1009] w1004 fun v1010 w1011 =>
xSCat (vs1002.getD 1 undef) v1010 fun v1012 =>
xAdd (vs1002.getD 0 undef) (.int .i64 1) fun v1013 =>
XNext I1000 n1001 [v1013, v1012] w1011) (K (vs1002.getD 1 undef) w1004)
abbrev S_ref01_Text (a0 : Value) (K : Value → World → Prop) (w0 : World) : Prop :=
XLoop [(.int .i64 0), (.string ⟨#[]⟩)] w0 (S_ref01_Text_l1 K a0)
theorem W_ref01_Text {a0 : Value} {K : Value → World → Prop} {w : World} (h : S_ref01_Text a0 K w) : Ret P n_ref01_Text [a0] w K :=
  vcF_of mixed Tryz.func156 (show S_ref01_Text a0 K w = vcF P Tryz.f156 [a0] w K from by kernel_rfl) h
/- spunyarn/spunyarnref13.Digits -/
/- S_ref13_Digits_l1: 0=slot 0 n 1=slot 4 d 2=slot 3 s 3=slot 2 -/
def S_ref13_Digits_l1 (K : Value → World → Prop) (I1000 : Nat → List Value → World → Prop) (n1001 : Nat) (vs1002 : List Value) (g1003 : Nat → Value) (w1004 : World) : Prop :=
xRem (vs1002.getD 0 undef) (.int .u64 10) fun v1005 =>
xConv .i64 v1005 fun v1006 =>
xAdd v1006 (.int .i64 1) fun v1007 =>
xCutStr (.string ⟨#[48, 49, 50, 51, 52, 53, 54, 55, 56, 57]⟩) (some v1006) (some v1007) fun v1008 =>
xSCat v1008 (vs1002.getD 2 undef) fun v1009 =>
xQuo (vs1002.getD 0 undef) (.int .u64 10) fun v1010 =>
xEq v1010 (.int .u64 0) fun v1011 =>
xIf v1011 (K v1009 w1004) (XNext I1000 n1001 [v1010, v1006, v1009, (vs1002.getD 3 undef)] w1004)
abbrev S_ref13_Digits (a0 : Value) (K : Value → World → Prop) (w0 : World) : Prop :=
XLoop [a0, undef, (.string ⟨#[]⟩), (.string ⟨#[]⟩)] w0 (S_ref13_Digits_l1 K)
theorem W_ref13_Digits {a0 : Value} {K : Value → World → Prop} {w : World} (h : S_ref13_Digits a0 K w) : Ret P n_ref13_Digits [a0] w K :=
  vcF_of mixed Tryz.func157 (show S_ref13_Digits a0 K w = vcF P Tryz.f157 [a0] w K from by kernel_rfl) h
/- spunyarn/spunyarnref13.build -/
/- S_ref13_build_l1: 0=slot 8 j -/
def S_ref13_build_l1 (a0 : Value) (v1021 : Value) (a1029 : Addr) (I1048 : Nat → List Value → World → Prop) (n1049 : Nat) (vs1050 : List Value) (I1055 : Nat → List Value → World → Prop) (n1056 : Nat) (vs1057 : List Value) (g1058 : Nat → Value) (w1059 : World) : Prop :=
/- 0 -/ XJ (fun J1060 =>
xLen a0 fun v1064 =>
xLt (vs1057.getD 0 undef) v1064 fun v1065 =>
xIf v1065 (xIxS a0 (vs1057.getD 0 undef) 2 fun v1066 =>
xFld v1066 0 fun v1067 =>
xAt v1067 fun a1068 =>
XLd w1059.drew a1068 fun v1069 =>
xIxS v1069 v1021 1 fun v1070 =>
xAt v1070 fun a1071 =>
XLd w1059.drew a1071 fun v1072 =>
xIxS a0 (vs1050.getD 0 undef) 2 fun v1073 =>
xFld v1073 0 fun v1074 =>
xAt v1074 fun a1075 =>
XLd w1059.drew a1075 fun v1076 =>
xIxS v1076 v1021 1 fun v1077 =>
xAt v1077 fun a1078 =>
XLd w1059.drew a1078 fun v1079 =>
xEq v1072 v1079 fun v1080 =>
J1060 [v1080] (w1059.drew)) (J1060 [(.bool false)] (w1059.drew))) fun vs1061 g1062 w1063 =>
xIf (vs1061.getD 0 undef) (xAdd (vs1057.getD 0 undef) (.int .i64 1) fun v1081 =>
XNext I1055 n1056 [v1081] w1063) (XLd w1063.drew (a1029.add 4) fun v1082 =>
xIxS a0 (vs1050.getD 0 undef) 2 fun v1083 =>
xFld v1083 0 fun v1084 =>
xAt v1084 fun a1085 =>
XLd w1063.drew a1085 fun v1086 =>
xIxS v1086 v1021 1 fun v1087 =>
xAt v1087 fun a1088 =>
XLd w1063.drew a1088 fun v1089 =>
xFill (repL [(.int .u8 0)] 1) [(0, 1, v1089)] fun c1090 =>
XNew w1063.drew c1090 5 fun a1091 w1092 =>
xKeep1 w1092 (.pointer (some (a1029.add 4))) v1082 ∧ (XRun P (Builtin.append_ #[50, 50] 50 #[v1082, (.slice (some a1091) 1 1)]) w1092 fun v1093 w1094 =>
XSt w1094 (a1029.add 4) v1093 fun w1095 =>
XLd w1095.drew (a1029.add 5) fun v1096 =>
xCutS 2 a0 (some (vs1050.getD 0 undef)) (some (vs1057.getD 0 undef)) none fun v1097 =>
xAdd v1021 (.int .i64 1) fun v1098 =>
Ret P n_ref13_build [v1097, v1098] w1095.drew fun v1099 w1100 =>
xKeep1 w1100 (.pointer (some (a1029.add 5))) v1096 ∧ (xFill (repL [(.int .i64 0), (.slice none 0 0), (.bool false), (.int .u64 0), (.slice none 0 0), (.slice none 0 0)] 1) [(0, 6, v1099)] fun c1101 =>
XNew w1100 c1101 120 fun a1102 w1103 =>
xKeep1 w1103 (.pointer (some (a1029.add 5))) v1096 ∧ (XRun P (Builtin.append_ #[118, 118] 118 #[v1096, (.slice (some a1102) 1 1)]) w1103 fun v1104 w1105 =>
XSt w1105 (a1029.add 5) v1104 fun w1106 =>
XNext I1048 n1049 [(vs1057.getD 0 undef), (vs1057.getD 0 undef)] w1106))))
/- S_ref13_build_l2: 0=slot 7 i 1=slot 8 j -/
def S_ref13_build_l2 (K : Value → World → Prop) (a0 : Value) (a1000 : Addr) (v1021 : Value) (a1029 : Addr) (I1048 : Nat → List Value → World → Prop) (n1049 : Nat) (vs1050 : List Value) (g1051 : Nat → Value) (w1052 : World) : Prop :=
xLen a0 fun v1053 =>
xLt (vs1050.getD 0 undef) v1053 fun v1054 =>
xIf v1054 (XLoop [(vs1050.getD 0 undef)] w1052 (S_ref13_build_l1 a0 v1021 a1029 I1048 n1049 vs1050)) (XLd w1052 (a1029.add 5) fun v1107 =>
xLen v1107 fun v1108 =>
Ret P n_ref11_KindOf [v1108] w1052 fun v1109 w1110 =>
XSt w1110 (a1029.add 0) v1109 fun w1111 =>
XLdN w1111 a1029 6 fun v1112 =>
XDo P (storeVar 120 a1000 v1112) w1111 fun w1113 =>
XLdN w1113 a1000 6 fun v1114 =>
K v1114 w1113)
abbrev S_ref13_build (a0 : Value) (a1 : Value) (K : Value → World → Prop) (w0 : World) : Prop :=
XNew w0 [(.int .i64 0), (.slice none 0 0), (.bool false), (.int .u64 0), (.slice none 0 0), (.slice none 0 0)] 120 fun a1000 w1001 =>
xLen a0 fun v1002 =>
xEq v1002 (.int .i64 0) fun v1003 =>
xIf v1003 (xFill [(.int .i64 0), (.slice none 0 0), (.bool false), (.int .u64 0), (.slice none 0 0), (.slice none 0 0)] [] fun c1004 =>
XDo P (storeVar 120 a1000 (.agg c1004.toArray)) w1001 fun w1005 =>
XLdN w1005 a1000 6 fun v1006 =>
K v1006 w1005) (xLen a0 fun v1007 =>
xEq v1007 (.int .i64 1) fun v1008 =>
xIf v1008 (xIxS a0 (.int .i64 0) 2 fun v1009 =>
xFld v1009 0 fun v1010 =>
xAt v1010 fun a1011 =>
XLd w1001.drew a1011 fun v1012 =>
xCutS 1 v1012 (some a1) none none fun v1013 =>
xIxS a0 (.int .i64 0) 2 fun v1014 =>
xFld v1014 1 fun v1015 =>
xAt v1015 fun a1016 =>
XLd w1001.drew a1016 fun v1017 =>
xFill [(.int .i64 0), (.slice none 0 0), (.bool false), (.int .u64 0), (.slice none 0 0), (.slice none 0 0)] [(0, 1, (.int .i64 1)), (1, 1, v1013), (2, 1, (.bool true)), (3, 1, v1017)] fun c1018 =>
XDo P (storeVar 120 a1000 (.agg c1018.toArray)) w1001.drew fun w1019 =>
XLdN w1019 a1000 6 fun v1020 =>
K v1020 w1019) (Ret P n_ref13_shared [a0] w1001 fun v1021 w1022 =>
xIxS a0 (.int .i64 0) 2 fun v1023 =>
xFld v1023 0 fun v1024 =>
xAt v1024 fun a1025 =>
XLd w1022 a1025 fun v1026 =>
xCutS 1 v1026 (some a1) (some v1021) none fun v1027 =>
xFill [(.int .i64 0), (.slice none 0 0), (.bool false), (.int .u64 0), (.slice none 0 0), (.slice none 0 0)] [(1, 1, v1027)] fun c1028 =>
XNew w1022 [(.int .i64 0), (.slice none 0 0), (.bool false), (.int .u64 0), (.slice none 0 0), (.slice none 0 0)] 120 fun a1029 w1030 =>
XDo P (storeVar 120 a1029 (.agg c1028.toArray)) w1030 fun w1031 =>
/- 0 i -/ XJ (fun J1032 =>
xIxS a0 (.int .i64 0) 2 fun v1036 =>
xFld v1036 0 fun v1037 =>
xAt v1037 fun a1038 =>
XLd w1031 a1038 fun v1039 =>
xLen v1039 fun v1040 =>
xEq v1040 v1021 fun v1041 =>
xIf v1041 (xIxS a0 (.int .i64 0) 2 fun v1042 =>
xFld v1042 1 fun v1043 =>
xAt v1043 fun a1044 =>
XLd w1031.drew a1044 fun v1045 =>
XSt w1031.drew (a1029.add 2) (.bool true) fun w1046 =>
xKeep1 w1046 v1043 v1045 ∧ (XSt w1046 (a1029.add 3) v1045 fun w1047 =>
J1032 [(.int .i64 1)] w1047)) (J1032 [(.int .i64 0)] w1031)) fun vs1033 g1034 w1035 =>
XLoop [(vs1033.getD 0 undef), undef] w1035 (S_ref13_build_l2 K a0 a1000 v1021 a1029)))
theorem W_ref13_build {a0 a1 : Value} {K : Value → World → Prop} {w : World} (h : S_ref13_build a0 a1 K w) : Ret P n_ref13_build [a0, a1] w K :=
  vcF_of mixed Tryz.func158 (show S_ref13_build a0 a1 K w = vcF P Tryz.f158 [a0, a1] w K from by kernel_rfl) h
/- spunyarn/sub.Sub -/
abbrev S_sub_Sub (a0 : Value) (a1 : Value) (a2 : Value) (a3 : Value) (K : Value → World → Prop) (w0 : World) : Prop :=
xEq a2 (.int .u64 0) fun v1000 =>
xIf v1000 (K (.tuple #[(.pointer none), (.int .i64 1)]) w0) (Ret P n_sub_seek [a0, a1] w0 fun v1001 w1002 =>
XNew w1002 [(.pointer none), (.slice none 0 0)] 287 fun a1003 w1004 =>
XDo P (storeVar 287 a1003 v1001) w1004 fun w1005 =>
XLd w1005.drew (a1003.add 0) fun v1006 =>
XLd w1005.drew (a1003.add 1) fun v1007 =>
XLd w1005.drew (a1003.add 0) fun v1008 =>
Ret P n_node_Node_Part [v1008] w1005.drew fun v1009 w1010 =>
xKeep1 w1010 (.pointer (some (a1003.add 1))) v1007 ∧ (xKeep1 w1010 (.pointer (some (a1003.add 0))) v1006 ∧ (XRun P (Builtin.append_ #[50, 50] 50 #[v1007, v1009]) w1010 fun v1011 w1012 =>
xKeep1 w1012 (.pointer (some (a1003.add 0))) v1006 ∧ (Ret P n_sub_with [v1006, v1011, a2, a3] w1012 fun v1013 w1014 =>
K (.tuple #[v1013, (.int .i64 0)]) w1014))))
theorem W_sub_Sub {a0 a1 a2 a3 : Value} {K : Value → World → Prop} {w : World} (h : S_sub_Sub a0 a1 a2 a3 K w) : Ret P n_sub_Sub [a0, a1, a2, a3] w K :=
  vcF_of mixed Tryz.func159 (show S_sub_Sub a0 a1 a2 a3 K w = vcF P Tryz.f159 [a0, a1, a2, a3] w K from by kernel_rfl) h
/- spunyarn/load.Load -/
/- S_load_Load_l1: 0=slot 21 -/
def S_load_Load_l1 (K : Value → World → Prop) (a0 : Value) (a1 : Value) (v1006 : Value) (I1007 : Nat → List Value → World → Prop) (n1008 : Nat) (vs1009 : List Value) (g1010 : Nat → Value) (w1011 : World) : Prop :=
xLt (vs1009.getD 0 undef) v1006 fun v1012 =>
xIf v1012 (xIxS a1 (vs1009.getD 0 undef) 2 fun v1013 =>
xAt v1013 fun a1014 =>
XLdN w1011 a1014 2 fun v1015 =>
XNew w1011 [(.slice none 0 0), (.int .u64 0)] 102 fun a1016 w1017 =>
XDo P (storeVar 102 a1016 v1015) w1017 fun w1018 =>
XLd w1018 (a1016.add 0) fun v1019 =>
XLd w1018 (a1016.add 1) fun v1020 =>
Ret P n_trans_Trans_Put [a0, v1019, v1020] w1018 fun v1021 w1022 =>
xAdd (vs1009.getD 0 undef) (.int .i64 1) fun v1023 =>
XNext I1007 n1008 [v1023] w1022) (K (.int .i64 0) w1011)
abbrev S_load_Load (a0 : Value) (a1 : Value) (K : Value → World → Prop) (w0 : World) : Prop :=
Ret P n_load_ready [a0] w0 fun v1000 w1001 =>
xNe v1000 (.int .i64 0) fun v1002 =>
xIf v1002 (K v1000 w1001) (Ret P n_load_may [a1] w1001 fun v1003 w1004 =>
xNe v1003 (.int .i64 0) fun v1005 =>
xIf v1005 (K v1003 w1004) (xLen a1 fun v1006 =>
XLoop [(.int .i64 0)] w1004 (S_load_Load_l1 K a0 a1 v1006)))
theorem W_load_Load {a0 a1 : Value} {K : Value → World → Prop} {w : World} (h : S_load_Load a0 a1 K w) : Ret P n_load_Load [a0, a1] w K :=
  vcF_of mixed Tryz.func160 (show S_load_Load a0 a1 K w = vcF P Tryz.f160 [a0, a1] w K from by kernel_rfl) h
/- (*spunyarn/spunyarnlaw20.world).edit -/
abbrev S_law20_world_edit (a0 : Value) (a1 : Value) (K : Value → World → Prop) (w0 : World) : Prop :=
xAt a0 fun a1000 =>
XLd w0 (a1000.add 0) fun v1001 =>
xIxS v1001 a1 1 fun v1002 =>
xAt v1002 fun a1003 =>
XLd w0 a1003 fun v1004 =>
Ret P n_trans_Edit [v1004] w0 fun v1005 w1006 =>
xTup v1005 0 fun v1007 =>
xTup v1005 1 fun v1008 =>
xAt a0 fun a1009 =>
XLd w1006 (a1009.add 2) fun v1010 =>
xFill (repL [(.pointer none)] 1) [(0, 1, v1007)] fun c1011 =>
XNew w1006 c1011 106 fun a1012 w1013 =>
XRun P (Builtin.append_ #[150, 150] 150 #[v1010, (.slice (some a1012) 1 1)]) w1013 fun v1014 w1015 =>
xAt a0 fun a1016 =>
XSt w1015 (a1016.add 2) v1014 fun w1017 =>
xAt a0 fun a1018 =>
XLd w1017.drew (a1018.add 3) fun v1019 =>
xAt a0 fun a1020 =>
XLd w1017.drew (a1020.add 1) fun v1021 =>
xIxS v1021 a1 1 fun v1022 =>
xAt v1022 fun a1023 =>
XLd w1017.drew a1023 fun v1024 =>
xFill [(.slice none 0 0), (.bool false)] [(0, 1, v1024)] fun c1025 =>
xFill (repL [(.slice none 0 0), (.bool false)] 1) [(0, 2, (.agg c1025.toArray))] fun c1026 =>
XNew w1017.drew c1026 245 fun a1027 w1028 =>
xKeep1 w1028 (.pointer (some (a1018.add 3))) v1019 ∧ (XRun P (Builtin.append_ #[159, 159] 159 #[v1019, (.slice (some a1027) 1 1)]) w1028 fun v1029 w1030 =>
xAt a0 fun a1031 =>
XSt w1030 (a1031.add 3) v1029 fun w1032 =>
/- 0 -/ XJ (fun J1033 =>
xPNe P w1032 v1007 (.pointer none) fun v1037 =>
xIf v1037 (xEq v1008 (.int .i64 0) fun v1038 =>
J1033 [v1038] w1032) (J1033 [(.bool false)] w1032)) fun vs1034 g1035 w1036 =>
K (vs1034.getD 0 undef) w1036)
theorem W_law20_world_edit {a0 a1 : Value} {K : Value → World → Prop} {w : World} (h : S_law20_world_edit a0 a1 K w) : Ret P n_law20_world_edit [a0, a1] w K :=
  vcF_of mixed Tryz.func161 (show S_law20_world_edit a0 a1 K w = vcF P Tryz.f161 [a0, a1] w K from by kernel_rfl) h
/- (*spunyarn/spunyarnlaw20.world).freeze -/
abbrev S_law20_world_freeze (a0 : Value) (a1 : Value) (K : Value → World → Prop) (w0 : World) : Prop :=
xAt a0 fun a1000 =>
XLd w0 (a1000.add 2) fun v1001 =>
xIxS v1001 a1 1 fun v1002 =>
xAt v1002 fun a1003 =>
XLd w0 a1003 fun v1004 =>
Ret P n_trans_Trans_Freeze [v1004] w0 fun v1005 w1006 =>
xTup v1005 0 fun v1007 =>
xTup v1005 1 fun v1008 =>
xAt a0 fun a1009 =>
XLd w1006 (a1009.add 3) fun v1010 =>
xIxS v1010 a1 2 fun v1011 =>
xAt v1011 fun a1012 =>
XLdN w1006 a1012 2 fun v1013 =>
Ret P n_ref20_Freeze [v1013] w1006 fun v1014 w1015 =>
xTup v1014 0 fun v1016 =>
xTup v1014 1 fun v1017 =>
xTup v1014 2 fun v1018 =>
XNew w1015 [(.slice none 0 0), (.bool false)] 245 fun a1019 w1020 =>
XDo P (storeVar 245 a1019 v1016) w1020 fun w1021 =>
xAt a0 fun a1022 =>
XLd w1021.drew (a1022.add 3) fun v1023 =>
XLdN w1021.drew a1019 2 fun v1024 =>
xIxS v1023 a1 2 fun v1025 =>
xAt v1025 fun a1027 =>
XDo P (storeVar 245 a1027 v1024) w1021.drew fun w1026 =>
/-  -/ XJ (fun J1028 =>
xEq v1018 (.int .i64 0) fun v1032 =>
xIf v1032 (xAt a0 fun a1033 =>
XLd w1026.drew (a1033.add 0) fun v1034 =>
xAt a0 fun a1035 =>
XLd w1026.drew (a1035.add 1) fun v1036 =>
(xFill (repL [(.pointer none)] 1) [(0, 1, v1007)] fun c1037 =>
XNew w1026.drew c1037 88 fun a1038 w1039 =>
xKeep1 w1039 (.pointer (some (a1035.add 1))) v1036 ∧ (xKeep1 w1039 (.pointer (some (a1033.add 0))) v1034 ∧ ((XRun P (Builtin.append_ #[145, 145] 145 #[v1034, (.slice (some a1038) 1 1)]) w1039 fun v1040 w1041 =>
xKeep1 w1041 (.pointer (some (a1035.add 1))) v1036 ∧ (xFill (repL [(.slice none 0 0)] 1) [(0, 1, v1017)] fun c1042 =>
XNew w1041 c1042 33 fun a1043 w1044 =>
xKeep1 w1044 (.pointer (some (a1035.add 1))) v1036 ∧ (XRun P (Builtin.append_ #[158, 158] 158 #[v1036, (.slice (some a1043) 1 1)]) w1044 fun v1045 w1046 =>
xAt a0 fun a1047 =>
XSt w1046 (a1047.add 0) v1040 fun w1048 =>
xAt a0 fun a1049 =>
XSt w1048 (a1049.add 1) v1045 fun w1050 =>
J1028 [] w1050))) ∧ (xFill (repL [(.slice none 0 0)] 1) [(0, 1, v1017)] fun c1051 =>
XNew w1039 c1051 33 fun a1052 w1053 =>
xKeep1 w1053 (.pointer (some (a1035.add 1))) v1036 ∧ (xKeep1 w1053 (.pointer (some (a1033.add 0))) v1034 ∧ (XRun P (Builtin.append_ #[145, 145] 145 #[v1034, (.slice (some a1038) 1 1)]) w1053 fun v1054 w1055 =>
xKeep1 w1055 (.pointer (some (a1035.add 1))) v1036 ∧ (XRun P (Builtin.append_ #[158, 158] 158 #[v1036, (.slice (some a1052) 1 1)]) w1055 fun v1056 w1057 =>
xAt a0 fun a1058 =>
XSt w1057 (a1058.add 0) v1054 fun w1059 =>
xAt a0 fun a1060 =>
XSt w1059 (a1060.add 1) v1056 fun w1061 =>
J1028 [] w1061))))))) ∧ (xFill (repL [(.slice none 0 0)] 1) [(0, 1, v1017)] fun c1062 =>
XNew w1026.drew c1062 33 fun a1063 w1064 =>
xKeep1 w1064 (.pointer (some (a1035.add 1))) v1036 ∧ (xKeep1 w1064 (.pointer (some (a1033.add 0))) v1034 ∧ (xFill (repL [(.pointer none)] 1) [(0, 1, v1007)] fun c1065 =>
XNew w1064 c1065 88 fun a1066 w1067 =>
xKeep1 w1067 (.pointer (some (a1035.add 1))) v1036 ∧ (xKeep1 w1067 (.pointer (some (a1033.add 0))) v1034 ∧ (XRun P (Builtin.append_ #[145, 145] 145 #[v1034, (.slice (some a1066) 1 1)]) w1067 fun v1068 w1069 =>
xKeep1 w1069 (.pointer (some (a1035.add 1))) v1036 ∧ (XRun P (Builtin.append_ #[158, 158] 158 #[v1036, (.slice (some a1063) 1 1)]) w1069 fun v1070 w1071 =>
xAt a0 fun a1072 =>
XSt w1071 (a1072.add 0) v1068 fun w1073 =>
xAt a0 fun a1074 =>
XSt w1073 (a1074.add 1) v1070 fun w1075 =>
J1028 [] w1075))))))) (J1028 [] w1026)) fun vs1029 g1030 w1031 =>
/- 0 -/ XJ (fun J1076 =>
xEq v1008 v1018 fun v1080 =>
xIf v1080 (xEq v1018 (.int .i64 0) fun v1081 =>
xPNe P w1031 v1007 (.pointer none) fun v1082 =>
xBEq v1081 v1082 fun v1083 =>
J1076 [v1083] w1031) (J1076 [(.bool false)] w1031)) fun vs1077 g1078 w1079 =>
K (vs1077.getD 0 undef) w1079
theorem W_law20_world_freeze {a0 a1 : Value} {K : Value → World → Prop} {w : World} (h : S_law20_world_freeze a0 a1 K w) : Ret P n_law20_world_freeze [a0, a1] w K :=
  vcF_of mixed Tryz.func162 (show S_law20_world_freeze a0 a1 K w = vcF P Tryz.f162 [a0, a1] w K from by kernel_rfl) h
/- (*spunyarn/spunyarnlaw20.world).write -/
abbrev S_law20_world_write (a0 : Value) (a1 : Value) (a2 : Value) (K : Value → World → Prop) (w0 : World) : Prop :=
XNew w0 (cellsV a2) 163 fun a1000 w1001 =>
XLd w1001 (a1000.add 0) fun v1002 =>
xRem v1002 (.int .u8 6) fun v1003 =>
xEq v1003 (.int .u8 2) fun v1004 =>
xIf v1004 (xAt a0 fun a1005 =>
XLd w1001.drew (a1005.add 2) fun v1006 =>
xIxS v1006 a1 1 fun v1007 =>
xAt v1007 fun a1008 =>
XLd w1001.drew a1008 fun v1009 =>
XLd w1001.drew (a1000.add 3) fun v1010 =>
Ret P n_trans_Trans_Del [v1009, v1010] w1001.drew fun v1011 w1012 =>
xTup v1011 0 fun v1013 =>
xTup v1011 1 fun v1014 =>
xAt a0 fun a1015 =>
XLd w1012.drew (a1015.add 3) fun v1016 =>
xIxS v1016 a1 2 fun v1017 =>
xAt v1017 fun a1018 =>
XLdN w1012.drew a1018 2 fun v1019 =>
XLd w1012.drew (a1000.add 3) fun v1020 =>
(Ret P n_ref20_Del [v1019, v1020] w1012.drew fun v1021 w1022 =>
xTup v1021 0 fun v1023 =>
xTup v1021 1 fun v1024 =>
xTup v1021 2 fun v1025 =>
XNew w1022 [(.slice none 0 0), (.bool false)] 245 fun a1026 w1027 =>
XDo P (storeVar 245 a1026 v1023) w1027 fun w1028 =>
xAt a0 fun a1029 =>
XLd w1028.drew (a1029.add 3) fun v1030 =>
XLdN w1028.drew a1026 2 fun v1031 =>
xIxS v1030 a1 2 fun v1032 =>
xAt v1032 fun a1034 =>
XDo P (storeVar 245 a1034 v1031) w1028.drew fun w1033 =>
/- 0 -/ XJ (fun J1035 =>
xBEq v1013 v1024 fun v1039 =>
xIf v1039 (xEq v1014 v1025 fun v1040 =>
J1035 [v1040] w1033) (J1035 [(.bool false)] w1033)) fun vs1036 g1037 w1038 =>
K (vs1036.getD 0 undef) w1038) ∧ (XNew w1012.drew [(.slice none 0 0), (.bool false)] 245 fun a1041 w1042 =>
xKeep1 w1042 (.pointer (some (a1000.add 3))) v1020 ∧ (xKeepN w1042 v1017 v1019 ∧ (xKeep1 w1042 (.pointer (some (a1015.add 3))) v1016 ∧ (Ret P n_ref20_Del [v1019, v1020] w1042 fun v1043 w1044 =>
xTup v1043 0 fun v1045 =>
xTup v1043 1 fun v1046 =>
xTup v1043 2 fun v1047 =>
XDo P (storeVar 245 a1041 v1045) w1044 fun w1048 =>
xAt a0 fun a1049 =>
XLd w1048.drew (a1049.add 3) fun v1050 =>
XLdN w1048.drew a1041 2 fun v1051 =>
xIxS v1050 a1 2 fun v1052 =>
xAt v1052 fun a1054 =>
XDo P (storeVar 245 a1054 v1051) w1048.drew fun w1053 =>
/- 0 -/ XJ (fun J1055 =>
xBEq v1013 v1046 fun v1059 =>
xIf v1059 (xEq v1014 v1047 fun v1060 =>
J1055 [v1060] w1053) (J1055 [(.bool false)] w1053)) fun vs1056 g1057 w1058 =>
K (vs1056.getD 0 undef) w1058))))) (xAt a0 fun a1061 =>
XLd w1001.drew (a1061.add 2) fun v1062 =>
xIxS v1062 a1 1 fun v1063 =>
xAt v1063 fun a1064 =>
XLd w1001.drew a1064 fun v1065 =>
XLd w1001.drew (a1000.add 3) fun v1066 =>
XLd w1001.drew (a1000.add 4) fun v1067 =>
Ret P n_trans_Trans_Put [v1065, v1066, v1067] w1001.drew fun v1068 w1069 =>
xAt a0 fun a1070 =>
XLd w1069.drew (a1070.add 3) fun v1071 =>
xIxS v1071 a1 2 fun v1072 =>
xAt v1072 fun a1073 =>
XLdN w1069.drew a1073 2 fun v1074 =>
XLd w1069.drew (a1000.add 3) fun v1075 =>
XLd w1069.drew (a1000.add 4) fun v1076 =>
(Ret P n_ref20_Put [v1074, v1075, v1076] w1069.drew fun v1077 w1078 =>
xTup v1077 0 fun v1079 =>
xTup v1077 1 fun v1080 =>
XNew w1078 [(.slice none 0 0), (.bool false)] 245 fun a1081 w1082 =>
XDo P (storeVar 245 a1081 v1079) w1082 fun w1083 =>
xAt a0 fun a1084 =>
XLd w1083.drew (a1084.add 3) fun v1085 =>
XLdN w1083.drew a1081 2 fun v1086 =>
xIxS v1085 a1 2 fun v1087 =>
xAt v1087 fun a1089 =>
XDo P (storeVar 245 a1089 v1086) w1083.drew fun w1088 =>
xEq v1068 v1080 fun v1090 =>
K v1090 w1088) ∧ (XNew w1069.drew [(.slice none 0 0), (.bool false)] 245 fun a1091 w1092 =>
xKeep1 w1092 (.pointer (some (a1000.add 4))) v1076 ∧ (xKeep1 w1092 (.pointer (some (a1000.add 3))) v1075 ∧ (xKeepN w1092 v1072 v1074 ∧ (xKeep1 w1092 (.pointer (some (a1070.add 3))) v1071 ∧ (Ret P n_ref20_Put [v1074, v1075, v1076] w1092 fun v1093 w1094 =>
xTup v1093 0 fun v1095 =>
xTup v1093 1 fun v1096 =>
XDo P (storeVar 245 a1091 v1095) w1094 fun w1097 =>
xAt a0 fun a1098 =>
XLd w1097.drew (a1098.add 3) fun v1099 =>
XLdN w1097.drew a1091 2 fun v1100 =>
xIxS v1099 a1 2 fun v1101 =>
xAt v1101 fun a1103 =>
XDo P (storeVar 245 a1103 v1100) w1097.drew fun w1102 =>
xEq v1068 v1096 fun v1104 =>
K v1104 w1102))))))
theorem W_law20_world_write {a0 a1 a2 : Value} {K : Value → World → Prop} {w : World} (h : S_law20_world_write a0 a1 a2 K w) : Ret P n_law20_world_write [a0, a1, a2] w K :=
  vcF_of mixed Tryz.func163 (show S_law20_world_write a0 a1 a2 K w = vcF P Tryz.f163 [a0, a1, a2] w K from by kernel_rfl) h
/- spunyarn/sub.Strip -/
abbrev S_sub_Strip (a0 : Value) (a1 : Value) (a2 : Value) (a3 : Value) (K : Value → World → Prop) (w0 : World) : Prop :=
xEq a2 (.int .u64 0) fun v1000 =>
xIf v1000 (K (.tuple #[(.pointer none), (.int .i64 1)]) w0) (Ret P n_sub_seek [a0, a1] w0 fun v1001 w1002 =>
XNew w1002 [(.pointer none), (.slice none 0 0)] 287 fun a1003 w1004 =>
XDo P (storeVar 287 a1003 v1001) w1004 fun w1005 =>
XLd w1005 (a1003.add 0) fun v1006 =>
xPEq P w1005 v1006 (.pointer none) fun v1007 =>
xIf v1007 (K (.tuple #[(.pointer none), (.int .i64 0)]) w1005) (XLd w1005.drew (a1003.add 0) fun v1008 =>
XLd w1005.drew (a1003.add 0) fun v1009 =>
xLen a1 fun v1010 =>
XLd w1005.drew (a1003.add 1) fun v1011 =>
xLen v1011 fun v1012 =>
xSub v1010 v1012 fun v1013 =>
Ret P n_node_Node_Part [v1009] w1005.drew fun v1014 w1015 =>
xKeep1 w1015 (.pointer (some (a1003.add 1))) v1011 ∧ (xKeep1 w1015 (.pointer (some (a1003.add 0))) v1008 ∧ (xCutS 1 v1014 (some v1013) none none fun v1016 =>
Ret P n_sub_with [v1008, v1016, a2, a3] w1015 fun v1017 w1018 =>
K (.tuple #[v1017, (.int .i64 0)]) w1018))))
theorem W_sub_Strip {a0 a1 a2 a3 : Value} {K : Value → World → Prop} {w : World} (h : S_sub_Strip a0 a1 a2 a3 K w) : Ret P n_sub_Strip [a0, a1, a2, a3] w K :=
  vcF_of mixed Tryz.func164 (show S_sub_Strip a0 a1 a2 a3 K w = vcF P Tryz.f164 [a0, a1, a2, a3] w K from by kernel_rfl) h
/- spunyarn/sub.Under -/
abbrev S_sub_Under (a0 : Value) (a1 : Value) (a2 : Value) (a3 : Value) (K : Value → World → Prop) (w0 : World) : Prop :=
xEq a2 (.int .u64 0) fun v1000 =>
xIf v1000 (K (.tuple #[(.pointer none), (.int .i64 1)]) w0) (xPEq P w0 a0 (.pointer none) fun v1001 =>
xIf v1001 (K (.tuple #[(.pointer none), (.int .i64 0)]) w0) (xLen a1 fun v1002 =>
Ret P n_sub_Longest [a0] w0 fun v1003 w1004 =>
xSub (.int .i64 65535) v1003 fun v1005 =>
xGt v1002 v1005 fun v1006 =>
xIf v1006 (K (.tuple #[(.pointer none), (.int .i64 8)]) w1004) (xLen a1 fun v1007 =>
xLen a1 fun v1008 =>
xCutS 1 a1 none (some v1007) (some v1008) fun v1009 =>
Ret P n_node_Node_Part [a0] w1004.drew fun v1010 w1011 =>
XRun P (Builtin.append_ #[50, 50] 50 #[v1009, v1010]) w1011 fun v1012 w1013 =>
Ret P n_sub_with [a0, v1012, a2, a3] w1013 fun v1014 w1015 =>
K (.tuple #[v1014, (.int .i64 0)]) w1015)))
theorem W_sub_Under {a0 a1 a2 a3 : Value} {K : Value → World → Prop} {w : World} (h : S_sub_Under a0 a1 a2 a3 K w) : Ret P n_sub_Under [a0, a1, a2, a3] w K :=
  vcF_of mixed Tryz.func165 (show S_sub_Under a0 a1 a2 a3 K w = vcF P Tryz.f165 [a0, a1, a2, a3] w K from by kernel_rfl) h
/- spunyarn/spunyarnref13.Check -/
/- S_ref13_Check_l1: 0=slot 3 i 1=slot 2 -/
def S_ref13_Check_l1 (K : Value → World → Prop) (a0 : Value) (I1000 : Nat → List Value → World → Prop) (n1001 : Nat) (vs1002 : List Value) (g1003 : Nat → Value) (w1004 : World) : Prop :=
xLen a0 fun v1005 =>
xLt (vs1002.getD 0 undef) v1005 fun v1006 =>
xIf v1006 (xIxS a0 (vs1002.getD 0 undef) 2 fun v1007 =>
xFld v1007 0 fun v1008 =>
xAt v1008 fun a1009 =>
XLd w1004 a1009 fun v1010 =>
xLen v1010 fun v1011 =>
xGt v1011 (.int .i64 65535) fun v1012 =>
xIf v1012 (K (.int .i64 8) w1004) (xAdd (vs1002.getD 0 undef) (.int .i64 1) fun v1013 =>
XNext I1000 n1001 [v1013, (vs1002.getD 1 undef)] w1004)) (Ret P n_ref01_Sorted [a0] w1004 fun v1014 w1015 =>
xNot v1014 fun v1016 =>
xIf v1016 (K (.int .i64 12) w1015) (K (.int .i64 0) w1015))
abbrev S_ref13_Check (a0 : Value) (K : Value → World → Prop) (w0 : World) : Prop :=
XLoop [(.int .i64 0), (.int .i64 0)] w0 (S_ref13_Check_l1 K a0)
theorem W_ref13_Check {a0 : Value} {K : Value → World → Prop} {w : World} (h : S_ref13_Check a0 K w) : Ret P n_ref13_Check [a0] w K :=
  vcF_of mixed Tryz.func166 (show S_ref13_Check a0 K w = vcF P Tryz.f166 [a0] w K from by kernel_rfl) h
/- spunyarn/spunyarnref18.Sub -/
/- S_ref18_Sub_l1: 0=slot 6 i 1=slot 5 out -/
def S_ref18_Sub_l1 (K : Value → World → Prop) (a0 : Value) (a1 : Value) (I1000 : Nat → List Value → World → Prop) (n1001 : Nat) (vs1002 : List Value) (g1003 : Nat → Value) (w1004 : World) : Prop :=
xLen a0 fun v1005 =>
xLt (vs1002.getD 0 undef) v1005 fun v1006 =>
xIf v1006 (/- 0 out -/ XJ (fun J1007 =>
xIxS a0 (vs1002.getD 0 undef) 2 fun v1011 =>
xFld v1011 0 fun v1012 =>
xAt v1012 fun a1013 =>
XLd w1004 a1013 fun v1014 =>
Ret P n_ref01_Begins [v1014, a1] w1004 fun v1015 w1016 =>
xIf v1015 (xIxS a0 (vs1002.getD 0 undef) 2 fun v1017 =>
xAt v1017 fun a1018 =>
XLdN w1016 a1018 2 fun v1019 =>
xFill (repL [(.slice none 0 0), (.int .u64 0)] 1) [(0, 2, v1019)] fun c1020 =>
XNew w1016 c1020 52 fun a1021 w1022 =>
XRun P (Builtin.append_ #[33, 33] 33 #[(vs1002.getD 1 undef), (.slice (some a1021) 1 1)]) w1022 fun v1023 w1024 =>
J1007 [v1023] w1024) (J1007 [(vs1002.getD 1 undef)] w1016)) fun vs1008 g1009 w1010 =>
xAdd (vs1002.getD 0 undef) (.int .i64 1) fun v1025 =>
XNext I1000 n1001 [v1025, (vs1008.getD 0 undef)] w1010) (K (vs1002.getD 1 undef) w1004)
abbrev S_ref18_Sub (a0 : Value) (a1 : Value) (K : Value → World → Prop) (w0 : World) : Prop :=
XLoop [(.int .i64 0), (.slice none 0 0)] w0 (S_ref18_Sub_l1 K a0 a1)
theorem W_ref18_Sub {a0 a1 : Value} {K : Value → World → Prop} {w : World} (h : S_ref18_Sub a0 a1 K w) : Ret P n_ref18_Sub [a0, a1] w K :=
  vcF_of mixed Tryz.func167 (show S_ref18_Sub a0 a1 K w = vcF P Tryz.f167 [a0, a1] w K from by kernel_rfl) h
/- spunyarn/spunyarnref18.Strip -/
/- S_ref18_Strip_l1: 0=slot 6 i -/
def S_ref18_Strip_l1 (K : Value → World → Prop) (a1 : Value) (v1000 : Value) (I1002 : Nat → List Value → World → Prop) (n1003 : Nat) (vs1004 : List Value) (g1005 : Nat → Value) (w1006 : World) : Prop :=
xLen v1000 fun v1007 =>
xLt (vs1004.getD 0 undef) v1007 fun v1008 =>
xIf v1008 (xIxS v1000 (vs1004.getD 0 undef) 2 fun v1009 =>
xFld v1009 0 fun v1010 =>
xAt v1010 fun a1011 =>
XLd w1006 a1011 fun v1012 =>
xLen a1 fun v1013 =>
xCutS 1 v1012 (some v1013) none none fun v1014 =>
xIxS v1000 (vs1004.getD 0 undef) 2 fun v1015 =>
xFld v1015 0 fun v1016 =>
xAt v1016 fun a1018 =>
XSt w1006 a1018 v1014 fun w1017 =>
xAdd (vs1004.getD 0 undef) (.int .i64 1) fun v1019 =>
XNext I1002 n1003 [v1019] w1017) (K v1000 w1006)
abbrev S_ref18_Strip (a0 : Value) (a1 : Value) (K : Value → World → Prop) (w0 : World) : Prop :=
Ret P n_ref18_Sub [a0, a1] w0 fun v1000 w1001 =>
XLoop [(.int .i64 0)] w1001 (S_ref18_Strip_l1 K a1 v1000)
theorem W_ref18_Strip {a0 a1 : Value} {K : Value → World → Prop} {w : World} (h : S_ref18_Strip a0 a1 K w) : Ret P n_ref18_Strip [a0, a1] w K :=
  vcF_of mixed Tryz.func168 (show S_ref18_Strip a0 a1 K w = vcF P Tryz.f168 [a0, a1] w K from by kernel_rfl) h
/- spunyarn/spunyarnref18.Under -/
/- S_ref18_Under_l1: 0=slot 7 i 1=slot 6 out -/
def S_ref18_Under_l1 (K : Value → World → Prop) (a0 : Value) (a1 : Value) (I1011 : Nat → List Value → World → Prop) (n1012 : Nat) (vs1013 : List Value) (g1014 : Nat → Value) (w1015 : World) : Prop :=
xLen a0 fun v1016 =>
xLt (vs1013.getD 0 undef) v1016 fun v1017 =>
xIf v1017 (xIxS a0 (vs1013.getD 0 undef) 2 fun v1018 =>
xFld v1018 0 fun v1019 =>
xAt v1019 fun a1020 =>
XLd w1015.drew a1020 fun v1021 =>
xIxS a0 (vs1013.getD 0 undef) 2 fun v1022 =>
xFld v1022 1 fun v1023 =>
xAt v1023 fun a1024 =>
XLd w1015.drew a1024 fun v1025 =>
XRun P (Builtin.append_ #[50, 50] 50 #[(.slice none 0 0), a1]) w1015.drew fun v1026 w1027 =>
xKeep1 w1027 v1023 v1025 ∧ (xKeep1 w1027 v1019 v1021 ∧ (XRun P (Builtin.append_ #[50, 50] 50 #[v1026, v1021]) w1027 fun v1028 w1029 =>
xKeep1 w1029 v1023 v1025 ∧ (xFill [(.slice none 0 0), (.int .u64 0)] [(0, 1, v1028), (1, 1, v1025)] fun c1030 =>
xFill (repL [(.slice none 0 0), (.int .u64 0)] 1) [(0, 2, (.agg c1030.toArray))] fun c1031 =>
XNew w1029 c1031 52 fun a1032 w1033 =>
XRun P (Builtin.append_ #[33, 33] 33 #[(vs1013.getD 1 undef), (.slice (some a1032) 1 1)]) w1033 fun v1034 w1035 =>
xAdd (vs1013.getD 0 undef) (.int .i64 1) fun v1036 =>
XNext I1011 n1012 [v1036, v1034] w1035)))) (K (.tuple #[(vs1013.getD 1 undef), (.int .i64 0)]) w1015)
abbrev S_ref18_Under (a0 : Value) (a1 : Value) (K : Value → World → Prop) (w0 : World) : Prop :=
/- 0 -/ XJ (fun J1000 =>
xLen a0 fun v1004 =>
xGt v1004 (.int .i64 0) fun v1005 =>
xIf v1005 (xLen a1 fun v1006 =>
Ret P n_ref18_Longest [a0] w0 fun v1007 w1008 =>
xSub (.int .i64 65535) v1007 fun v1009 =>
xGt v1006 v1009 fun v1010 =>
J1000 [v1010] w1008) (J1000 [(.bool false)] w0)) fun vs1001 g1002 w1003 =>
xIf (vs1001.getD 0 undef) (K (.tuple #[(.slice none 0 0), (.int .i64 8)]) w1003) (XLoop [(.int .i64 0), (.slice none 0 0)] w1003 (S_ref18_Under_l1 K a0 a1))
theorem W_ref18_Under {a0 a1 : Value} {K : Value → World → Prop} {w : World} (h : S_ref18_Under a0 a1 K w) : Ret P n_ref18_Under [a0, a1] w K :=
  vcF_of mixed Tryz.func169 (show S_ref18_Under a0 a1 K w = vcF P Tryz.f169 [a0, a1] w K from by kernel_rfl) h
/- spunyarn/union.find$1 -/
abbrev S_union_find_1 (a0 : Value) (a1 : Value) (K : Value → World → Prop) (w0 : World) : Prop :=
K a0 w0
theorem W_union_find_1 {a0 a1 : Value} {K : Value → World → Prop} {w : World} (h : S_union_find_1 a0 a1 K w) : Ret P n_union_find_1 [a0, a1] w K :=
  vcF_of mixed Tryz.func170 (show S_union_find_1 a0 a1 K w = vcF P Tryz.f170 [a0, a1] w K from by kernel_rfl) h
/- spunyarn/union.find$2 -/
abbrev S_union_find_2 (a0 : Value) (a1 : Value) (K : Value → World → Prop) (w0 : World) : Prop :=
K a1 w0
theorem W_union_find_2 {a0 a1 : Value} {K : Value → World → Prop} {w : World} (h : S_union_find_2 a0 a1 K w) : Ret P n_union_find_2 [a0, a1] w K :=
  vcF_of mixed Tryz.func171 (show S_union_find_2 a0 a1 K w = vcF P Tryz.f171 [a0, a1] w K from by kernel_rfl) h
/- spunyarn/union.find$3 -/
abbrev S_union_find_3 (a0 : Value) (a1 : Value) (K : Value → World → Prop) (w0 : World) : Prop :=
xAdd a0 a1 fun v1000 =>
K v1000 w0
theorem W_union_find_3 {a0 a1 : Value} {K : Value → World → Prop} {w : World} (h : S_union_find_3 a0 a1 K w) : Ret P n_union_find_3 [a0, a1] w K :=
  vcF_of mixed Tryz.func172 (show S_union_find_3 a0 a1 K w = vcF P Tryz.f172 [a0, a1] w K from by kernel_rfl) h
/- spunyarn/union.find$4 -/
abbrev S_union_find_4 (a0 : Value) (a1 : Value) (K : Value → World → Prop) (w0 : World) : Prop :=
xMin a0 a1 fun v1000 =>
K v1000 w0
theorem W_union_find_4 {a0 a1 : Value} {K : Value → World → Prop} {w : World} (h : S_union_find_4 a0 a1 K w) : Ret P n_union_find_4 [a0, a1] w K :=
  vcF_of mixed Tryz.func173 (show S_union_find_4 a0 a1 K w = vcF P Tryz.f173 [a0, a1] w K from by kernel_rfl) h
/- spunyarn/union.find$5 -/
abbrev S_union_find_5 (a0 : Value) (a1 : Value) (K : Value → World → Prop) (w0 : World) : Prop :=
xMax a0 a1 fun v1000 =>
K v1000 w0
theorem W_union_find_5 {a0 a1 : Value} {K : Value → World → Prop} {w : World} (h : S_union_find_5 a0 a1 K w) : Ret P n_union_find_5 [a0, a1] w K :=
  vcF_of mixed Tryz.func174 (show S_union_find_5 a0 a1 K w = vcF P Tryz.f174 [a0, a1] w K from by kernel_rfl) h
/- (spunyarn/union.joiner).whole -/
abbrev S_union_joiner_whole (a0 : Value) (a1 : Value) (K : Value → World → Prop) (w0 : World) : Prop :=
XNew w0 (cellsV a0) 182 fun a1000 w1001 =>
XNew w1001 (cellsV a1) 185 fun a1002 w1003 =>
XLd w1003 (a1002.add 1) fun v1004 =>
xEq v1004 (.int .i64 0) fun v1005 =>
xIf v1005 (XLd w1003 (a1002.add 0) fun v1006 =>
K v1006 w1003) (XLdN w1003 a1000 4 fun v1007 =>
XLdN w1003 a1002 2 fun v1008 =>
Ret P n_union_joiner_copy [v1007, v1008] w1003 fun v1009 w1010 =>
K v1009 w1010)
theorem W_union_joiner_whole {a0 a1 : Value} {K : Value → World → Prop} {w : World} (h : S_union_joiner_whole a0 a1 K w) : Ret P n_union_joiner_whole [a0, a1] w K :=
  vcF_of mixed Tryz.func175 (show S_union_joiner_whole a0 a1 K w = vcF P Tryz.f175 [a0, a1] w K from by kernel_rfl) h
/- (spunyarn/union.end).part -/
abbrev S_union_end_part (a0 : Value) (K : Value → World → Prop) (w0 : World) : Prop :=
XNew w0 (cellsV a0) 185 fun a1000 w1001 =>
XLd w1001.drew (a1000.add 0) fun v1002 =>
XLd w1001.drew (a1000.add 1) fun v1003 =>
Ret P n_node_Node_Part [v1002] w1001.drew fun v1004 w1005 =>
xKeep1 w1005 (.pointer (some (a1000.add 1))) v1003 ∧ (xCutS 1 v1004 (some v1003) none none fun v1006 =>
K v1006 w1005)
theorem W_union_end_part {a0 : Value} {K : Value → World → Prop} {w : World} (h : S_union_end_part a0 K w) : Ret P n_union_end_part [a0] w K :=
  vcF_of mixed Tryz.func176 (show S_union_end_part a0 K w = vcF P Tryz.f176 [a0] w K from by kernel_rfl) h
/- spunyarn/keys.Common -/
/- S_keys_Common_l1: 0=slot 11 1=slot 5 i 2=slot 4 -/
def S_keys_Common_l1 (K : Value → World → Prop) (a0 : Value) (a1 : Value) (v1002 : Value) (I1003 : Nat → List Value → World → Prop) (n1004 : Nat) (vs1005 : List Value) (g1006 : Nat → Value) (w1007 : World) : Prop :=
xLt (vs1005.getD 0 undef) v1002 fun v1008 =>
xIf v1008 (xIxS a0 (vs1005.getD 0 undef) 1 fun v1009 =>
xAt v1009 fun a1010 =>
XLd w1007.drew a1010 fun v1011 =>
xIxS a1 (vs1005.getD 0 undef) 1 fun v1012 =>
xAt v1012 fun a1013 =>
XLd w1007.drew a1013 fun v1014 =>
xNe v1011 v1014 fun v1015 =>
xIf v1015 (K (vs1005.getD 0 undef) (w1007.drew)) (xAdd (vs1005.getD 0 undef) (.int .i64 1) fun v1016 =>
XNext I1003 n1004 [v1016, (vs1005.getD 0 undef), (vs1005.getD 2 undef)] (w1007.drew))) (xLen a0 fun v1017 =>
xLen a1 fun v1018 =>
xMin v1017 v1018 fun v1019 =>
K v1019 w1007)
abbrev S_keys_Common (a0 : Value) (a1 : Value) (K : Value → World → Prop) (w0 : World) : Prop :=
xLen a0 fun v1000 =>
xLen a1 fun v1001 =>
xMin v1000 v1001 fun v1002 =>
XLoop [(.int .i64 0), undef, (.int .i64 0)] w0 (S_keys_Common_l1 K a0 a1 v1002)
theorem W_keys_Common {a0 a1 : Value} {K : Value → World → Prop} {w : World} (h : S_keys_Common a0 a1 K w) : Ret P n_keys_Common [a0, a1] w K :=
  vcF_of mixed Tryz.func177 (show S_keys_Common a0 a1 K w = vcF P Tryz.f177 [a0, a1] w K from by kernel_rfl) h
/- (spunyarn/union.joiner).fork -/
abbrev S_union_joiner_fork (a0 : Value) (a1 : Value) (a2 : Value) (a3 : Value) (a4 : Value) (a5 : Value) (K : Value → World → Prop) (w0 : World) : Prop :=
XNew w0 (cellsV a0) 182 fun a1000 w1001 =>
XNew w1001 (cellsV a3) 185 fun a1002 w1003 =>
XNew w1003 (cellsV a5) 185 fun a1004 w1005 =>
XLd w1005 (a1000.add 3) fun v1006 =>
XLd w1005 (a1000.add 2) fun v1007 =>
Ret P n_node_Inner [v1006, v1007, a1] w1005 fun v1008 w1009 =>
XLd w1009.drew (a1000.add 2) fun v1010 =>
XLdN w1009.drew a1000 4 fun v1011 =>
XLdN w1009.drew a1002 2 fun v1012 =>
Ret P n_union_joiner_whole [v1011, v1012] w1009.drew fun v1013 w1014 =>
xKeep1 w1014 (.pointer (some (a1000.add 2))) v1010 ∧ (Ret P n_node_Node_SetKid [v1008, v1010, a2, v1013] w1014 fun v1015 w1016 =>
XLd w1016.drew (a1000.add 2) fun v1017 =>
XLdN w1016.drew a1000 4 fun v1018 =>
XLdN w1016.drew a1004 2 fun v1019 =>
Ret P n_union_joiner_whole [v1018, v1019] w1016.drew fun v1020 w1021 =>
xKeep1 w1021 (.pointer (some (a1000.add 2))) v1017 ∧ (Ret P n_node_Node_SetKid [v1008, v1017, a4, v1020] w1021 fun v1022 w1023 =>
K v1008 w1023))
theorem W_union_joiner_fork {a0 a1 a2 a3 a4 a5 : Value} {K : Value → World → Prop} {w : World} (h : S_union_joiner_fork a0 a1 a2 a3 a4 a5 K w) : Ret P n_union_joiner_fork [a0, a1, a2, a3, a4, a5] w K :=
  vcF_of mixed Tryz.func178 (show S_union_joiner_fork a0 a1 a2 a3 a4 a5 K w = vcF P Tryz.f178 [a0, a1, a2, a3, a4, a5] w K from by kernel_rfl) h
/- (spunyarn/union.end).behind -/
abbrev S_union_end_behind (a0 : Value) (a1 : Value) (K : Value → World → Prop) (w0 : World) : Prop :=
XNew w0 (cellsV a0) 185 fun a1000 w1001 =>
XNew w1001 [(.pointer none), (.int .i64 0)] 185 fun a1002 w1003 =>
XLd w1003 (a1000.add 0) fun v1004 =>
XLd w1003 (a1000.add 1) fun v1005 =>
xAdd v1005 a1 fun v1006 =>
xAdd v1006 (.int .i64 1) fun v1007 =>
xFill [(.pointer none), (.int .i64 0)] [(0, 1, v1004), (1, 1, v1007)] fun c1008 =>
XDo P (storeVar 185 a1002 (.agg c1008.toArray)) w1003 fun w1009 =>
XLdN w1009 a1002 2 fun v1010 =>
K v1010 w1009
theorem W_union_end_behind {a0 a1 : Value} {K : Value → World → Prop} {w : World} (h : S_union_end_behind a0 a1 K w) : Ret P n_union_end_behind [a0, a1] w K :=
  vcF_of mixed Tryz.func179 (show S_union_end_behind a0 a1 K w = vcF P Tryz.f179 [a0, a1] w K from by kernel_rfl) h
/- (spunyarn/union.joiner).under -/
abbrev S_union_joiner_under (a0 : Value) (a1 : Value) (a2 : Value) (a3 : Value) (a4 : Value) (K : Value → World → Prop) (w0 : World) : Prop :=
XNew w0 (cellsV a0) 182 fun a1000 w1001 =>
XNew w1001 (cellsV a1) 185 fun a1002 w1003 =>
XNew w1003 (cellsV a3) 185 fun a1004 w1005 =>
XLdN w1005 a1002 2 fun v1006 =>
Ret P n_union_end_leaf [v1006] w1005 fun v1007 w1008 =>
xIf v1007 (XLd w1008.drew (a1000.add 3) fun v1009 =>
XLd w1008.drew (a1000.add 2) fun v1010 =>
XLdN w1008.drew a1002 2 fun v1011 =>
Ret P n_union_end_part [v1011] w1008.drew fun v1012 w1013 =>
xKeep1 w1013 (.pointer (some (a1000.add 2))) v1010 ∧ (xKeep1 w1013 (.pointer (some (a1000.add 3))) v1009 ∧ (Ret P n_node_Inner [v1009, v1010, v1012] w1013 fun v1014 w1015 =>
XLd w1015 (a1002.add 0) fun v1016 =>
Ret P n_node_Node_Val [v1016] w1015 fun v1017 w1018 =>
xTup v1017 0 fun v1019 =>
xTup v1017 1 fun v1020 =>
XLd w1018 (a1000.add 2) fun v1021 =>
Ret P n_node_Node_SetVal [v1014, v1021, v1019] w1018 fun v1022 w1023 =>
XLd w1023.drew (a1000.add 2) fun v1024 =>
XLdN w1023.drew a1000 4 fun v1025 =>
XLdN w1023.drew a1004 2 fun v1026 =>
Ret P n_union_joiner_whole [v1025, v1026] w1023.drew fun v1027 w1028 =>
xKeep1 w1028 (.pointer (some (a1000.add 2))) v1024 ∧ (Ret P n_node_Node_SetKid [v1014, v1024, a2, v1027] w1028 fun v1029 w1030 =>
K v1014 w1030)))) (XLdN w1008 a1002 2 fun v1031 =>
Ret P n_union_end_kid [v1031, a2] w1008 fun v1032 w1033 =>
XNew w1033 [(.pointer none), (.int .i64 0)] 185 fun a1034 w1035 =>
XDo P (storeVar 185 a1034 v1032) w1035 fun w1036 =>
XLdN w1036.drew a1034 2 fun v1037 =>
XLdN w1036.drew a1004 2 fun v1038 =>
(XNew w1036.drew [(.pointer none), (.int .i64 0)] 185 fun a1039 w1040 =>
xKeepN w1040 (.pointer (some a1004)) v1038 ∧ (xKeepN w1040 (.pointer (some a1034)) v1037 ∧ (XNew w1040 [(.pointer none), (.int .i64 0)] 185 fun a1041 w1042 =>
xKeepN w1042 (.pointer (some a1004)) v1038 ∧ (xKeepN w1042 (.pointer (some a1034)) v1037 ∧ (XDo P (storeVar 185 a1039 v1037) w1042 fun w1043 =>
xKeepN w1043 (.pointer (some a1004)) v1038 ∧ (XDo P (storeVar 185 a1041 v1038) w1043 fun w1044 =>
/-  -/ XJ (fun J1045 =>
xIf a4 (XLdN w1044.drew a1004 2 fun v1049 =>
XLdN w1044.drew a1034 2 fun v1050 =>
XDo P (storeVar 185 a1039 v1049) w1044.drew fun w1051 =>
xKeepN w1051 (.pointer (some a1034)) v1050 ∧ (XDo P (storeVar 185 a1041 v1050) w1051 fun w1052 =>
J1045 [] w1052)) (J1045 [] w1044)) fun vs1046 g1047 w1048 =>
XLdN w1048 a1000 4 fun v1053 =>
XLdN w1048 a1039 2 fun v1054 =>
XLdN w1048 a1041 2 fun v1055 =>
Ret P n_union_joiner_of [v1053, v1054, v1055] w1048 fun v1056 w1057 =>
XLd w1057 (a1034.add 0) fun v1058 =>
xPEq P w1057 v1056 v1058 fun v1059 =>
xIf v1059 (XLdN w1057 a1000 4 fun v1060 =>
XLdN w1057 a1002 2 fun v1061 =>
Ret P n_union_joiner_whole [v1060, v1061] w1057 fun v1062 w1063 =>
K v1062 w1063) (XLdN w1057 a1000 4 fun v1064 =>
XLdN w1057 a1002 2 fun v1065 =>
Ret P n_union_joiner_copy [v1064, v1065] w1057 fun v1066 w1067 =>
XLd w1067 (a1000.add 2) fun v1068 =>
Ret P n_node_Node_SetKid [v1066, v1068, a2, v1056] w1067 fun v1069 w1070 =>
K v1066 w1070))))))) ∧ (XNew w1036.drew [(.pointer none), (.int .i64 0)] 185 fun a1071 w1072 =>
xKeepN w1072 (.pointer (some a1004)) v1038 ∧ (xKeepN w1072 (.pointer (some a1034)) v1037 ∧ (XNew w1072 [(.pointer none), (.int .i64 0)] 185 fun a1073 w1074 =>
xKeepN w1074 (.pointer (some a1004)) v1038 ∧ (xKeepN w1074 (.pointer (some a1034)) v1037 ∧ (XDo P (storeVar 185 a1073 v1037) w1074 fun w1075 =>
xKeepN w1075 (.pointer (some a1004)) v1038 ∧ (XDo P (storeVar 185 a1071 v1038) w1075 fun w1076 =>
/-  -/ XJ (fun J1077 =>
xIf a4 (XLdN w1076.drew a1004 2 fun v1081 =>
XLdN w1076.drew a1034 2 fun v1082 =>
XDo P (storeVar 185 a1073 v1081) w1076.drew fun w1083 =>
xKeepN w1083 (.pointer (some a1034)) v1082 ∧ (XDo P (storeVar 185 a1071 v1082) w1083 fun w1084 =>
J1077 [] w1084)) (J1077 [] w1076)) fun vs1078 g1079 w1080 =>
XLdN w1080 a1000 4 fun v1085 =>
XLdN w1080 a1073 2 fun v1086 =>
XLdN w1080 a1071 2 fun v1087 =>
Ret P n_union_joiner_of [v1085, v1086, v1087] w1080 fun v1088 w1089 =>
XLd w1089 (a1034.add 0) fun v1090 =>
xPEq P w1089 v1088 v1090 fun v1091 =>
xIf v1091 (XLdN w1089 a1000 4 fun v1092 =>
XLdN w1089 a1002 2 fun v1093 =>
Ret P n_union_joiner_whole [v1092, v1093] w1089 fun v1094 w1095 =>
K v1094 w1095) (XLdN w1089 a1000 4 fun v1096 =>
XLdN w1089 a1002 2 fun v1097 =>
Ret P n_union_joiner_copy [v1096, v1097] w1089 fun v1098 w1099 =>
XLd w1099 (a1000.add 2) fun v1100 =>
Ret P n_node_Node_SetKid [v1098, v1100, a2, v1088] w1099 fun v1101 w1102 =>
K v1098 w1102))))))))
theorem W_union_joiner_under {a0 a1 a2 a3 a4 : Value} {K : Value → World → Prop} {w : World} (h : S_union_joiner_under a0 a1 a2 a3 a4 K w) : Ret P n_union_joiner_under [a0, a1, a2, a3, a4] w K :=
  vcF_of mixed Tryz.func180 (show S_union_joiner_under a0 a1 a2 a3 a4 K w = vcF P Tryz.f180 [a0, a1, a2, a3, a4] w K from by kernel_rfl) h
end Go.Proofs.YtbleadagnpckbaaGreatDoor
