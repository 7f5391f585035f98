/-  Written by gen.py for this claim: of each function a form without frames, the same as the engine's condition by reckoning.  -/
import Derived.Test.YtbgfmgkimccbeaaGreatDoorSN
import Derived.Test.YtbgfmgkimccbeaaGreatDoorProg
namespace Go.Proofs.YtbgfmgkimccbeaaGreatDoor
open Go X
set_option linter.unusedVariables false
set_option maxRecDepth 100000
/- (*spunyarn/small.Row[*spunyarn/node.Node]).Drop -/
abbrev S_small_Row_Drop (a0 : Value) (a1 : Value) (K : Value → World → Prop) (w0 : World) : Prop :=
Ret P n_small_Row_ok [a0] w0 fun v1000 w1001 =>
xNot v1000 fun v1002 =>
xIf v1002 (K (.int .i64 2) w1001) (Ret P n_small_Row_place [a0, a1] w1001 fun v1003 w1004 =>
xTup v1003 0 fun v1005 =>
xTup v1003 1 fun v1006 =>
xNot v1006 fun v1007 =>
xIf v1007 (K (.int .i64 6) w1004) (xAt a0 fun a1008 =>
xCutA 16 1 (.pointer (some (a1008.add 2))) (some v1005) none none fun v1009 =>
xAt a0 fun a1010 =>
xAdd v1005 (.int .i64 1) fun v1011 =>
xAt a0 fun a1012 =>
XLd w1004.drew (a1012.add 1) fun v1013 =>
xCutA 16 1 (.pointer (some (a1010.add 2))) (some v1011) (some v1013) none fun v1014 =>
XRun P (Builtin.copy_ #[61, 61] 3 #[v1009, v1014]) w1004.drew fun v1015 w1016 =>
xAt a0 fun a1017 =>
xCutA 16 1 (.pointer (some (a1017.add 18))) (some v1005) none none fun v1018 =>
xAt a0 fun a1019 =>
xAdd v1005 (.int .i64 1) fun v1020 =>
xAt a0 fun a1021 =>
XLd w1016.drew (a1021.add 1) fun v1022 =>
xCutA 16 1 (.pointer (some (a1019.add 18))) (some v1020) (some v1022) none fun v1023 =>
XRun P (Builtin.copy_ #[207, 207] 3 #[v1018, v1023]) w1016.drew fun v1024 w1025 =>
xAt a0 fun a1026 =>
XLd w1025 (a1026.add 1) fun v1027 =>
xSub v1027 (.int .i64 1) fun v1028 =>
xAt a0 fun a1029 =>
XSt w1025 (a1029.add 1) v1028 fun w1030 =>
xAt a0 fun a1031 =>
XLd w1030.drew (a1031.add 1) fun v1032 =>
xAt a0 fun a1033 =>
XLd w1030.drew (a1033.add 1) fun v1034 =>
xAt a0 fun a1035 =>
xIxA (.pointer (some (a1035.add 2))) v1032 16 1 fun v1036 =>
xAt a0 fun a1037 =>
xAt v1036 fun a1039 =>
XSt w1030.drew a1039 (.int .u8 0) fun w1038 =>
xIxA (.pointer (some (a1037.add 18))) v1034 16 1 fun v1040 =>
xAt v1040 fun a1042 =>
XSt w1038 a1042 (.pointer none) fun w1041 =>
K (.int .i64 0) w1041))
theorem W_small_Row_Drop {a0 a1 : Value} {K : Value → World → Prop} {w : World} (h : S_small_Row_Drop a0 a1 K w) : Ret P n_small_Row_Drop [a0, a1] w K :=
  vcF_of mixed Tryz.func185 (show S_small_Row_Drop a0 a1 K w = vcF P Tryz.f185 [a0, a1] w K from by kernel_rfl) h
/- (*spunyarn/wide.Board[*spunyarn/node.Node]).Drop -/
abbrev S_wide_Board_Drop (a0 : Value) (a1 : Value) (K : Value → World → Prop) (w0 : World) : Prop :=
Ret P n_wide_Board_ok [a0] w0 fun v1000 w1001 =>
xNot v1000 fun v1002 =>
xIf v1002 (K (.int .i64 2) w1001) (xAt a0 fun a1003 =>
xIxA (.pointer (some (a1003.add 2))) a1 256 1 fun v1004 =>
xAt v1004 fun a1005 =>
XLd w1001 a1005 fun v1006 =>
xEq v1006 (.int .u16 0) fun v1007 =>
xIf v1007 (K (.int .i64 6) w1001) (xAt a0 fun a1008 =>
XLd w1001.drew (a1008.add 258) fun v1009 =>
xAt a0 fun a1010 =>
xIxA (.pointer (some (a1010.add 2))) a1 256 1 fun v1011 =>
xAt v1011 fun a1012 =>
XLd w1001.drew a1012 fun v1013 =>
xSub v1013 (.int .u16 1) fun v1014 =>
xIxS v1009 v1014 1 fun v1015 =>
xAt v1015 fun a1017 =>
XSt w1001.drew a1017 (.pointer none) fun w1016 =>
xAt a0 fun a1018 =>
XLd w1016.drew (a1018.add 259) fun v1019 =>
xAt a0 fun a1020 =>
xIxA (.pointer (some (a1020.add 2))) a1 256 1 fun v1021 =>
xAt v1021 fun a1022 =>
XLd w1016.drew a1022 fun v1023 =>
xFill (repL [(.int .u16 0)] 1) [(0, 1, v1023)] fun c1024 =>
XNew w1016.drew c1024 205 fun a1025 w1026 =>
xKeep1 w1026 (.pointer (some (a1018.add 259))) v1019 ∧ (XRun P (Builtin.append_ #[208, 208] 208 #[v1019, (.slice (some a1025) 1 1)]) w1026 fun v1027 w1028 =>
xAt a0 fun a1029 =>
XSt w1028 (a1029.add 259) v1027 fun w1030 =>
xAt a0 fun a1031 =>
xIxA (.pointer (some (a1031.add 2))) a1 256 1 fun v1032 =>
xAt v1032 fun a1034 =>
XSt w1030 a1034 (.int .u16 0) fun w1033 =>
xAt a0 fun a1035 =>
XLd w1033 (a1035.add 1) fun v1036 =>
xSub v1036 (.int .i64 1) fun v1037 =>
xAt a0 fun a1038 =>
XSt w1033 (a1038.add 1) v1037 fun w1039 =>
K (.int .i64 0) w1039)))
theorem W_wide_Board_Drop {a0 a1 : Value} {K : Value → World → Prop} {w : World} (h : S_wide_Board_Drop a0 a1 K w) : Ret P n_wide_Board_Drop [a0, a1] w K :=
  vcF_of mixed Tryz.func186 (show S_wide_Board_Drop a0 a1 K w = vcF P Tryz.f186 [a0, a1] w K from by kernel_rfl) h
/- slices.BinarySearch[[]byte,byte] -/
/- S_slices_BinarySearch_byte_l1: 0=slot 7 i 1=slot 8 j 2=slot 9 h -/
def S_slices_BinarySearch_byte_l1 (K : Value → World → Prop) (a0 : Value) (a1 : Value) (v1000 : Value) (I1001 : Nat → List Value → World → Prop) (n1002 : Nat) (vs1003 : List Value) (g1004 : Nat → Value) (w1005 : World) : Prop :=
xLt (vs1003.getD 0 undef) (vs1003.getD 1 undef) fun v1006 =>
xIf v1006 (xAdd (vs1003.getD 0 undef) (vs1003.getD 1 undef) fun v1007 =>
xConv .u64 v1007 fun v1008 =>
xShr v1008 (.int .u64 1) fun v1009 =>
xConv .i64 v1009 fun v1010 =>
xIxS a0 v1010 1 fun v1011 =>
xAt v1011 fun a1012 =>
XLd w1005 a1012 fun v1013 =>
Ret P n_cmp_Less_byte [v1013, a1] w1005 fun v1014 w1015 =>
xIf v1014 (xAdd v1010 (.int .i64 1) fun v1016 =>
XNext I1001 n1002 [v1016, (vs1003.getD 1 undef), v1010] w1015) (XNext I1001 n1002 [(vs1003.getD 0 undef), v1010, v1010] w1015)) (/- 0 1 -/ XJ (fun J1017 =>
xLt (vs1003.getD 0 undef) v1000 fun v1021 =>
xIf v1021 (xIxS a0 (vs1003.getD 0 undef) 1 fun v1022 =>
xAt v1022 fun a1023 =>
XLd w1005 a1023 fun v1024 =>
xEq v1024 a1 fun v1025 =>
xIf v1025 (J1017 [(vs1003.getD 0 undef), (.bool true)] w1005) (xIxS a0 (vs1003.getD 0 undef) 1 fun v1026 =>
xAt v1026 fun a1027 =>
XLd w1005 a1027 fun v1028 =>
Ret P n_slices_isNaN_byte [v1028] w1005 fun v1029 w1030 =>
xIf v1029 (Ret P n_slices_isNaN_byte [a1] w1030 fun v1031 w1032 =>
J1017 [(vs1003.getD 0 undef), v1031] w1032) (J1017 [(vs1003.getD 0 undef), (.bool false)] w1030))) (J1017 [(vs1003.getD 0 undef), (.bool false)] w1005)) fun vs1018 g1019 w1020 =>
K (.tuple #[(vs1018.getD 0 undef), (vs1018.getD 1 undef)]) w1020)
abbrev S_slices_BinarySearch_byte (a0 : Value) (a1 : Value) (K : Value → World → Prop) (w0 : World) : Prop :=
xLen a0 fun v1000 =>
XLoop [(.int .i64 0), v1000, undef] w0 (S_slices_BinarySearch_byte_l1 K a0 a1 v1000)
theorem W_slices_BinarySearch_byte {a0 a1 : Value} {K : Value → World → Prop} {w : World} (h : S_slices_BinarySearch_byte a0 a1 K w) : Ret P n_slices_BinarySearch_byte [a0, a1] w K :=
  vcF_of mixed Tryz.func187 (show S_slices_BinarySearch_byte a0 a1 K w = vcF P Tryz.f187 [a0, a1] w K from by kernel_rfl) h
/- math/bits.TrailingZeros32 -/
abbrev S_bits_TrailingZeros32 (a0 : Value) (K : Value → World → Prop) (w0 : World) : Prop :=
xEq a0 (.int .u32 0) fun v1000 =>
xIf v1000 (K (.int .i64 32) w0) (xNeg a0 fun v1001 =>
xAnd a0 v1001 fun v1002 =>
xMul v1002 (.int .u32 125613361) fun v1003 =>
xShr v1003 (.int .u64 27) fun v1004 =>
xIxA (.pointer (some ⟨2, 0, none⟩)) v1004 32 1 fun v1005 =>
xAt v1005 fun a1006 =>
XLd w0 a1006 fun v1007 =>
xConv .i64 v1007 fun v1008 =>
K v1008 w0)
theorem W_bits_TrailingZeros32 {a0 : Value} {K : Value → World → Prop} {w : World} (h : S_bits_TrailingZeros32 a0 K w) : Ret P n_bits_TrailingZeros32 [a0] w K :=
  vcF_of mixed Tryz.func188 (show S_bits_TrailingZeros32 a0 K w = vcF P Tryz.f188 [a0] w K from by kernel_rfl) h
/- math/bits.TrailingZeros64 -/
abbrev S_bits_TrailingZeros64 (a0 : Value) (K : Value → World → Prop) (w0 : World) : Prop :=
xEq a0 (.int .u64 0) fun v1000 =>
xIf v1000 (K (.int .i64 64) w0) (xNeg a0 fun v1001 =>
xAnd a0 v1001 fun v1002 =>
xMul v1002 (.int .u64 285870213051353865) fun v1003 =>
xShr v1003 (.int .u64 58) fun v1004 =>
xIxA (.pointer (some ⟨3, 0, none⟩)) v1004 64 1 fun v1005 =>
xAt v1005 fun a1006 =>
XLd w0 a1006 fun v1007 =>
xConv .i64 v1007 fun v1008 =>
K v1008 w0)
theorem W_bits_TrailingZeros64 {a0 : Value} {K : Value → World → Prop} {w : World} (h : S_bits_TrailingZeros64 a0 K w) : Ret P n_bits_TrailingZeros64 [a0] w K :=
  vcF_of mixed Tryz.func189 (show S_bits_TrailingZeros64 a0 K w = vcF P Tryz.f189 [a0] w K from by kernel_rfl) h
/- spunyarn/del.check -/
/- S_del_check_l1: 0=slot 8 1=slot 4 i 2=slot 13 3=slot 2 4=slot 17 5=slot 3 e -/
def S_del_check_l1 (K : Value → World → Prop) (a0 : Value) (v1000 : Value) (I1001 : Nat → List Value → World → Prop) (n1002 : Nat) (vs1003 : List Value) (g1004 : Nat → Value) (w1005 : World) : Prop :=
xLt (vs1003.getD 0 undef) v1000 fun v1006 =>
xIf v1006 (/- 0 i 1 2 3 4 e -/ XJ (fun J1007 =>
xIxS a0 (vs1003.getD 0 undef) 2 fun v1011 =>
xAt v1011 fun a1012 =>
XLdN w1005 a1012 2 fun v1013 =>
XNew w1005 [(.int .u8 0), (.pointer none)] 169 fun a1014 w1015 =>
XDo P (storeVar 169 a1014 v1013) w1015 fun w1016 =>
XLd w1016 (a1014.add 1) fun v1017 =>
xPEq P w1016 v1017 (.pointer none) fun v1018 =>
xIf v1018 (K (.int .i64 1) w1016) (/- 0 -/ XJ (fun J1019 =>
xGt (vs1003.getD 0 undef) (.int .i64 0) fun v1023 =>
xIf v1023 (xSub (vs1003.getD 0 undef) (.int .i64 1) fun v1024 =>
xIxS a0 v1024 2 fun v1025 =>
xFld v1025 0 fun v1026 =>
xAt v1026 fun a1027 =>
XLd w1016.drew a1027 fun v1028 =>
XLd w1016.drew (a1014.add 0) fun v1029 =>
xGe v1028 v1029 fun v1030 =>
J1019 [v1030] (w1016.drew)) (J1019 [(.bool false)] (w1016.drew))) fun vs1020 g1021 w1022 =>
xIf (vs1020.getD 0 undef) (J1007 [(vs1003.getD 0 undef), v1018, (vs1003.getD 3 undef), (vs1020.getD 0 undef), (.int .i64 12)] w1022) (J1007 [(vs1003.getD 0 undef), v1018, (vs1003.getD 3 undef), (vs1020.getD 0 undef), (vs1003.getD 5 undef)] w1022))) fun vs1008 g1009 w1010 =>
xAdd (vs1003.getD 0 undef) (.int .i64 1) fun v1031 =>
XNext I1001 n1002 [v1031, (vs1008.getD 0 undef), (vs1008.getD 1 undef), (vs1008.getD 2 undef), (vs1008.getD 3 undef), (vs1008.getD 4 undef)] w1010) (K (vs1003.getD 5 undef) w1005)
abbrev S_del_check (a0 : Value) (K : Value → World → Prop) (w0 : World) : Prop :=
xLen a0 fun v1000 =>
XLoop [(.int .i64 0), undef, undef, (.int .i64 0), undef, (.int .i64 0)] w0 (S_del_check_l1 K a0 v1000)
theorem W_del_check {a0 : Value} {K : Value → World → Prop} {w : World} (h : S_del_check a0 K w) : Ret P n_del_check [a0] w K :=
  vcF_of mixed Tryz.func190 (show S_del_check a0 K w = vcF P Tryz.f190 [a0] w K from by kernel_rfl) h
/- (*spunyarn/wide.Board[*spunyarn/node.Node]).place -/
abbrev S_wide_Board_place (a0 : Value) (K : Value → World → Prop) (w0 : World) : Prop :=
xAt a0 fun a1000 =>
XLd w0 (a1000.add 259) fun v1001 =>
xLen v1001 fun v1002 =>
xGt v1002 (.int .i64 0) fun v1003 =>
xIf v1003 (xAt a0 fun a1004 =>
XLd w0 (a1004.add 259) fun v1005 =>
xSub v1002 (.int .i64 1) fun v1006 =>
xIxS v1005 v1006 1 fun v1007 =>
xAt v1007 fun a1008 =>
XLd w0 a1008 fun v1009 =>
xAt a0 fun a1010 =>
XLd w0 (a1010.add 259) fun v1011 =>
xSub v1002 (.int .i64 1) fun v1012 =>
xCutS 1 v1011 none (some v1012) none fun v1013 =>
xAt a0 fun a1014 =>
XSt w0 (a1014.add 259) v1013 fun w1015 =>
K v1009 w1015) (xAt a0 fun a1016 =>
XLd w0 (a1016.add 258) fun v1017 =>
xFill (repL [(.pointer none)] 1) [(0, 1, (.pointer none))] fun c1018 =>
XNew w0 c1018 29 fun a1019 w1020 =>
XRun P (Builtin.append_ #[207, 207] 207 #[v1017, (.slice (some a1019) 1 1)]) w1020 fun v1021 w1022 =>
xAt a0 fun a1023 =>
XSt w1022 (a1023.add 258) v1021 fun w1024 =>
xAt a0 fun a1025 =>
XLd w1024 (a1025.add 258) fun v1026 =>
xLen v1026 fun v1027 =>
xConv .u16 v1027 fun v1028 =>
K v1028 w1024)
theorem W_wide_Board_place {a0 : Value} {K : Value → World → Prop} {w : World} (h : S_wide_Board_place a0 K w) : Ret P n_wide_Board_place [a0] w K :=
  vcF_of mixed Tryz.func191 (show S_wide_Board_place a0 K w = vcF P Tryz.f191 [a0] w K from by kernel_rfl) h
/- slices.Grow[[]byte,byte] -/
abbrev S_slices_Grow_byte (a0 : Value) (a1 : Value) (K : Value → World → Prop) (w0 : World) : Prop :=
/-  -/ XJ (fun J1000 =>
xLt a1 (.int .i64 0) fun v1004 =>
xIf v1004 (False) (J1000 [] w0)) fun vs1001 g1002 w1003 =>
/- 0 n 1 s -/ XJ (fun J1005 =>
xCap a0 fun v1009 =>
xLen a0 fun v1010 =>
xSub v1009 v1010 fun v1011 =>
xSub a1 v1011 fun v1012 =>
xGt v1012 (.int .i64 0) fun v1013 =>
xIf v1013 (xCap a0 fun v1014 =>
xCutS 1 a0 none (some v1014) none fun v1015 =>
XRun P (Builtin.append_ #[61, 3] 61 #[v1015, v1012]) w1003 fun v1016 w1017 =>
xLen a0 fun v1018 =>
xCutS 1 v1016 none (some v1018) none fun v1019 =>
J1005 [v1012, v1019] w1017) (J1005 [v1012, a0] w1003)) fun vs1006 g1007 w1008 =>
K (vs1006.getD 1 undef) w1008
theorem W_slices_Grow_byte {a0 a1 : Value} {K : Value → World → Prop} {w : World} (h : S_slices_Grow_byte a0 a1 K w) : Ret P n_slices_Grow_byte [a0, a1] w K :=
  vcF_of mixed Tryz.func192 (show S_slices_Grow_byte a0 a1 K w = vcF P Tryz.f192 [a0, a1] w K from by kernel_rfl) h
/- slices.Clone[[]*spunyarn/node.Node,*spunyarn/node.Node] -/
abbrev S_slices_Clone_Node (a0 : Value) (K : Value → World → Prop) (w0 : World) : Prop :=
xLEq a0 (.slice none 0 0) fun v1000 =>
xIf v1000 (K (.slice none 0 0) w0) (xFill (repL [(.pointer none)] 0) [] fun c1001 =>
XNew w0 c1001 29 fun a1002 w1003 =>
XRun P (Builtin.append_ #[207, 207] 207 #[(.slice (some a1002) 0 0), a0]) w1003 fun v1004 w1005 =>
K v1004 w1005)
theorem W_slices_Clone_Node {a0 : Value} {K : Value → World → Prop} {w : World} (h : S_slices_Clone_Node a0 K w) : Ret P n_slices_Clone_Node [a0] w K :=
  vcF_of mixed Tryz.func193 (show S_slices_Clone_Node a0 K w = vcF P Tryz.f193 [a0] w K from by kernel_rfl) h
/- slices.Clone[[]uint16,uint16] -/
abbrev S_slices_Clone_uint16 (a0 : Value) (K : Value → World → Prop) (w0 : World) : Prop :=
xLEq a0 (.slice none 0 0) fun v1000 =>
xIf v1000 (K (.slice none 0 0) w0) (xFill (repL [(.int .u16 0)] 0) [] fun c1001 =>
XNew w0 c1001 205 fun a1002 w1003 =>
XRun P (Builtin.append_ #[208, 208] 208 #[(.slice (some a1002) 0 0), a0]) w1003 fun v1004 w1005 =>
K v1004 w1005)
theorem W_slices_Clone_uint16 {a0 : Value} {K : Value → World → Prop} {w : World} (h : S_slices_Clone_uint16 a0 K w) : Ret P n_slices_Clone_uint16 [a0] w K :=
  vcF_of mixed Tryz.func194 (show S_slices_Clone_uint16 a0 K w = vcF P Tryz.f194 [a0] w K from by kernel_rfl) h
/- cmp.Less[byte] -/
abbrev S_cmp_Less_byte (a0 : Value) (a1 : Value) (K : Value → World → Prop) (w0 : World) : Prop :=
/- 0 -/ XJ (fun J1000 =>
Ret P n_cmp_isNaN_byte [a0] w0 fun v1004 w1005 =>
xIf v1004 (Ret P n_cmp_isNaN_byte [a1] w1005 fun v1006 w1007 =>
xNot v1006 fun v1008 =>
xIf v1008 (J1000 [(.bool true)] w1007) (xLt a0 a1 fun v1009 =>
J1000 [v1009] w1007)) (xLt a0 a1 fun v1010 =>
J1000 [v1010] w1005)) fun vs1001 g1002 w1003 =>
K (vs1001.getD 0 undef) w1003
theorem W_cmp_Less_byte {a0 a1 : Value} {K : Value → World → Prop} {w : World} (h : S_cmp_Less_byte a0 a1 K w) : Ret P n_cmp_Less_byte [a0, a1] w K :=
  vcF_of mixed Tryz.func195 (show S_cmp_Less_byte a0 a1 K w = vcF P Tryz.f195 [a0, a1] w K from by kernel_rfl) h
/- slices.isNaN[byte] -/
abbrev S_slices_isNaN_byte (a0 : Value) (K : Value → World → Prop) (w0 : World) : Prop :=
xNe a0 a0 fun v1000 =>
K v1000 w0
theorem W_slices_isNaN_byte {a0 : Value} {K : Value → World → Prop} {w : World} (h : S_slices_isNaN_byte a0 K w) : Ret P n_slices_isNaN_byte [a0] w K :=
  vcF_of mixed Tryz.func196 (show S_slices_isNaN_byte a0 K w = vcF P Tryz.f196 [a0] w K from by kernel_rfl) h
/- cmp.isNaN[byte] -/
abbrev S_cmp_isNaN_byte (a0 : Value) (K : Value → World → Prop) (w0 : World) : Prop :=
xNe a0 a0 fun v1000 =>
K v1000 w0
theorem W_cmp_isNaN_byte {a0 : Value} {K : Value → World → Prop} {w : World} (h : S_cmp_isNaN_byte a0 K w) : Ret P n_cmp_isNaN_byte [a0] w K :=
  vcF_of mixed Tryz.func197 (show S_cmp_isNaN_byte a0 K w = vcF P Tryz.f197 [a0] w K from by kernel_rfl) h
end Go.Proofs.YtbgfmgkimccbeaaGreatDoor
