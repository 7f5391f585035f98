/-  Written by gen.py for this claim: of each function a form without frames, the same as the engine's condition by reckoning.  -/
import Derived.Test.YthnegkjhciakpaaGreatDoorSN
import Derived.Test.YthnegkjhciakpaaGreatDoorProg
namespace Go.Proofs.YthnegkjhciakpaaGreatDoor
open Go X
set_option linter.unusedVariables false
set_option maxRecDepth 100000
/- (*spunyarn/small.Row[*spunyarn/node.Node]).place -/
abbrev S_small_Row_place (a0 : Value) (a1 : Value) (K : Value → World → Prop) (w0 : World) : Prop :=
xAt a0 fun a1000 =>
xAt a0 fun a1001 =>
XLd w0.drew (a1001.add 1) fun v1002 =>
xCutA 16 1 (.pointer (some (a1000.add 2))) none (some v1002) none fun v1003 =>
Ret P n_slices_BinarySearch_byte [v1003, a1] w0.drew fun v1004 w1005 =>
xTup v1004 0 fun v1006 =>
xTup v1004 1 fun v1007 =>
K (.tuple #[v1006, v1007]) w1005
theorem W_small_Row_place {a0 a1 : Value} {K : Value → World → Prop} {w : World} (h : S_small_Row_place a0 a1 K w) : Ret P n_small_Row_place [a0, a1] w K :=
  vcF_of mixed Tryz.func241 (show S_small_Row_place a0 a1 K w = vcF P Tryz.f241 [a0, a1] w K from by kernel_rfl) h
/- slices.Clone[[]*spunyarn/node.Node,*spunyarn/node.Node] -/
abbrev S_slices_Clone_Node (a0 : Value) (K : Value → World → Prop) (w0 : World) : Prop :=
xLEq a0 (.slice none 0 0) fun v1000 =>
xIf v1000 (K (.slice none 0 0) w0) (xFill (repL [(.pointer none)] 0) [] fun c1001 =>
XNew w0 c1001 28 fun a1002 w1003 =>
XRun P (Builtin.append_ #[311, 311] 311 #[(.slice (some a1002) 0 0), a0]) w1003 fun v1004 w1005 =>
K v1004 w1005)
theorem W_slices_Clone_Node {a0 : Value} {K : Value → World → Prop} {w : World} (h : S_slices_Clone_Node a0 K w) : Ret P n_slices_Clone_Node [a0] w K :=
  vcF_of mixed Tryz.func243 (show S_slices_Clone_Node a0 K w = vcF P Tryz.f243 [a0] w K from by kernel_rfl) h
/- slices.Clone[[]uint16,uint16] -/
abbrev S_slices_Clone_uint16 (a0 : Value) (K : Value → World → Prop) (w0 : World) : Prop :=
xLEq a0 (.slice none 0 0) fun v1000 =>
xIf v1000 (K (.slice none 0 0) w0) (xFill (repL [(.int .u16 0)] 0) [] fun c1001 =>
XNew w0 c1001 132 fun a1002 w1003 =>
XRun P (Builtin.append_ #[312, 312] 312 #[(.slice (some a1002) 0 0), a0]) w1003 fun v1004 w1005 =>
K v1004 w1005)
theorem W_slices_Clone_uint16 {a0 : Value} {K : Value → World → Prop} {w : World} (h : S_slices_Clone_uint16 a0 K w) : Ret P n_slices_Clone_uint16 [a0] w K :=
  vcF_of mixed Tryz.func244 (show S_slices_Clone_uint16 a0 K w = vcF P Tryz.f244 [a0] w K from by kernel_rfl) h
/- spunyarn/small.New[*spunyarn/node.Node] -/
abbrev S_small_New_Node (a0 : Value) (K : Value → World → Prop) (w0 : World) : Prop :=
/- 0 -/ XJ (fun J1000 =>
xLt a0 (.int .i64 1) fun v1004 =>
xIf v1004 (J1000 [(.bool true)] w0) (xGt a0 (.int .i64 16) fun v1005 =>
J1000 [v1005] w0)) fun vs1001 g1002 w1003 =>
xIf (vs1001.getD 0 undef) (K (.tuple #[(.pointer none), (.int .i64 1)]) w1003) (xFill z_small_Row [(0, 1, a0)] fun c1006 =>
XNew w1003 (cellsV (.agg c1006.toArray)) 309 fun a1007 w1008 =>
K (.tuple #[(.pointer (some a1007)), (.int .i64 0)]) w1008)
theorem W_small_New_Node {a0 : Value} {K : Value → World → Prop} {w : World} (h : S_small_New_Node a0 K w) : Ret P n_small_New_Node [a0] w K :=
  vcF_of mixed Tryz.func245 (show S_small_New_Node a0 K w = vcF P Tryz.f245 [a0] w K from by kernel_rfl) h
/- spunyarn/wide.New[*spunyarn/node.Node] -/
abbrev S_wide_New_Node (a0 : Value) (K : Value → World → Prop) (w0 : World) : Prop :=
/- 0 -/ XJ (fun J1000 =>
xNe a0 (.int .i64 48) fun v1004 =>
xIf v1004 (xNe a0 (.int .i64 256) fun v1005 =>
J1000 [v1005] w0) (J1000 [(.bool false)] w0)) fun vs1001 g1002 w1003 =>
xIf (vs1001.getD 0 undef) (K (.tuple #[(.pointer none), (.int .i64 1)]) w1003) (xFill z_wide_Board [(0, 1, a0)] fun c1006 =>
XNew w1003 (cellsV (.agg c1006.toArray)) 314 fun a1007 w1008 =>
K (.tuple #[(.pointer (some a1007)), (.int .i64 0)]) w1008)
theorem W_wide_New_Node {a0 : Value} {K : Value → World → Prop} {w : World} (h : S_wide_New_Node a0 K w) : Ret P n_wide_New_Node [a0] w K :=
  vcF_of mixed Tryz.func246 (show S_wide_New_Node a0 K w = vcF P Tryz.f246 [a0] w K from by kernel_rfl) h
/- (*spunyarn/small.Row[*spunyarn/node.Node]).Set -/
abbrev S_small_Row_Set (a0 : Value) (a1 : Value) (a2 : Value) (K : Value → World → Prop) (w0 : World) : Prop :=
Ret P n_small_Row_ok [a0] w0 fun v1000 w1001 =>
xNot v1000 fun v1002 =>
xIf v1002 (K (.int .i64 2) w1001) (Ret P n_small_Row_place [a0, a1] w1001 fun v1003 w1004 =>
xTup v1003 0 fun v1005 =>
xTup v1003 1 fun v1006 =>
xIf v1006 (xAt a0 fun a1007 =>
xIxA (.pointer (some (a1007.add 18))) v1005 16 1 fun v1008 =>
xAt v1008 fun a1010 =>
XSt w1004 a1010 a2 fun w1009 =>
K (.int .i64 0) w1009) (xAt a0 fun a1011 =>
XLd w1004.drew (a1011.add 1) fun v1012 =>
xAt a0 fun a1013 =>
XLd w1004.drew (a1013.add 0) fun v1014 =>
xEq v1012 v1014 fun v1015 =>
xIf v1015 (K (.int .i64 10) (w1004.drew)) (xAt a0 fun a1016 =>
xAdd v1005 (.int .i64 1) fun v1017 =>
xCutA 16 1 (.pointer (some (a1016.add 2))) (some v1017) none none fun v1018 =>
xAt a0 fun a1019 =>
xAt a0 fun a1020 =>
XLd w1004.drew.drew (a1020.add 1) fun v1021 =>
xCutA 16 1 (.pointer (some (a1019.add 2))) (some v1005) (some v1021) none fun v1022 =>
XRun P (Builtin.copy_ #[41, 41] 3 #[v1018, v1022]) w1004.drew.drew fun v1023 w1024 =>
xAt a0 fun a1025 =>
xAdd v1005 (.int .i64 1) fun v1026 =>
xCutA 16 1 (.pointer (some (a1025.add 18))) (some v1026) none none fun v1027 =>
xAt a0 fun a1028 =>
xAt a0 fun a1029 =>
XLd w1024.drew (a1029.add 1) fun v1030 =>
xCutA 16 1 (.pointer (some (a1028.add 18))) (some v1005) (some v1030) none fun v1031 =>
XRun P (Builtin.copy_ #[311, 311] 3 #[v1027, v1031]) w1024.drew fun v1032 w1033 =>
xAt a0 fun a1034 =>
xIxA (.pointer (some (a1034.add 2))) v1005 16 1 fun v1035 =>
xAt a0 fun a1036 =>
xAt v1035 fun a1038 =>
XSt w1033.drew a1038 a1 fun w1037 =>
xIxA (.pointer (some (a1036.add 18))) v1005 16 1 fun v1039 =>
xAt v1039 fun a1041 =>
XSt w1037 a1041 a2 fun w1040 =>
xAt a0 fun a1042 =>
XLd w1040 (a1042.add 1) fun v1043 =>
xAdd v1043 (.int .i64 1) fun v1044 =>
xAt a0 fun a1045 =>
XSt w1040 (a1045.add 1) v1044 fun w1046 =>
K (.int .i64 0) w1046)))
theorem W_small_Row_Set {a0 a1 a2 : Value} {K : Value → World → Prop} {w : World} (h : S_small_Row_Set a0 a1 a2 K w) : Ret P n_small_Row_Set [a0, a1, a2] w K :=
  vcF_of mixed Tryz.func247 (show S_small_Row_Set a0 a1 a2 K w = vcF P Tryz.f247 [a0, a1, a2] w K from by kernel_rfl) h
/- (*spunyarn/wide.Board[*spunyarn/node.Node]).Set -/
abbrev S_wide_Board_Set (a0 : Value) (a1 : Value) (a2 : Value) (K : Value → World → Prop) (w0 : World) : Prop :=
/- 0 1 2 3 -/ XJ (fun J1000 =>
Ret P n_wide_Board_ok [a0] w0 fun v1004 w1005 =>
xNot v1004 fun v1006 =>
xIf v1006 (K (.int .i64 2) w1005) (/- 0 -/ XJ (fun J1007 =>
xAt a0 fun a1011 =>
xIxA (.pointer (some (a1011.add 2))) a1 256 1 fun v1012 =>
xAt v1012 fun a1013 =>
XLd w1005.drew a1013 fun v1014 =>
xEq v1014 (.int .u16 0) fun v1015 =>
xIf v1015 (xAt a0 fun a1016 =>
XLd w1005.drew (a1016.add 1) fun v1017 =>
xAt a0 fun a1018 =>
XLd w1005.drew (a1018.add 0) fun v1019 =>
xEq v1017 v1019 fun v1020 =>
J1007 [v1020] (w1005.drew)) (J1007 [(.bool false)] (w1005.drew))) fun vs1008 g1009 w1010 =>
xIf (vs1008.getD 0 undef) (K (.int .i64 10) w1010) (xAt a0 fun a1021 =>
xIxA (.pointer (some (a1021.add 2))) a1 256 1 fun v1022 =>
xAt v1022 fun a1023 =>
XLd w1010 a1023 fun v1024 =>
xEq v1024 (.int .u16 0) fun v1025 =>
xIf v1025 (xAt a0 fun a1026 =>
Ret P n_wide_Board_place [a0] w1010.drew fun v1027 w1028 =>
xIxA (.pointer (some (a1026.add 2))) a1 256 1 fun v1029 =>
xAt v1029 fun a1031 =>
XSt w1028 a1031 v1027 fun w1030 =>
xAt a0 fun a1032 =>
XLd w1030 (a1032.add 1) fun v1033 =>
xAdd v1033 (.int .i64 1) fun v1034 =>
xAt a0 fun a1035 =>
XSt w1030 (a1035.add 1) v1034 fun w1036 =>
J1000 [v1006, (.int .i64 0), (vs1008.getD 0 undef), v1025] w1036) (J1000 [v1006, (.int .i64 0), (vs1008.getD 0 undef), v1025] w1010)))) fun vs1001 g1002 w1003 =>
xAt a0 fun a1037 =>
XLd w1003.drew (a1037.add 258) fun v1038 =>
xAt a0 fun a1039 =>
xIxA (.pointer (some (a1039.add 2))) a1 256 1 fun v1040 =>
xAt v1040 fun a1041 =>
XLd w1003.drew a1041 fun v1042 =>
xSub v1042 (.int .u16 1) fun v1043 =>
xIxS v1038 v1043 1 fun v1044 =>
xAt v1044 fun a1046 =>
XSt w1003.drew a1046 a2 fun w1045 =>
K (.int .i64 0) w1045
theorem W_wide_Board_Set {a0 a1 a2 : Value} {K : Value → World → Prop} {w : World} (h : S_wide_Board_Set a0 a1 a2 K w) : Ret P n_wide_Board_Set [a0, a1, a2] w K :=
  vcF_of mixed Tryz.func248 (show S_wide_Board_Set a0 a1 a2 K w = vcF P Tryz.f248 [a0, a1, a2] w K from by kernel_rfl) h
/- bytes.Equal -/
abbrev S_bytes_Equal (a0 : Value) (a1 : Value) (K : Value → World → Prop) (w0 : World) : Prop :=
XRun P (convert 41 9 a0) w0 fun v1000 w1001 =>
XRun P (convert 41 9 a1) w1001 fun v1002 w1003 =>
xSEq v1000 v1002 fun v1004 =>
K v1004 w1003
theorem W_bytes_Equal {a0 a1 : Value} {K : Value → World → Prop} {w : World} (h : S_bytes_Equal a0 a1 K w) : Ret P n_bytes_Equal [a0, a1] w K :=
  vcF_of mixed Tryz.func250 (show S_bytes_Equal a0 a1 K w = vcF P Tryz.f250 [a0, a1] w K from by kernel_rfl) h
/- (*sync/atomic.Bool).Store -/
abbrev S_atomic_Bool_Store (a0 : Value) (a1 : Value) (K : Value → World → Prop) (w0 : World) : Prop :=
xAt a0 fun a1000 =>
Ret P n_atomic_b32 [a1] w0.drew fun v1001 w1002 =>
xCall P 268 [(.pointer (some (a1000.add 0))), v1001] w1002 fun v1003 w1004 =>
K (.tuple #[]) w1004
theorem W_atomic_Bool_Store {a0 a1 : Value} {K : Value → World → Prop} {w : World} (h : S_atomic_Bool_Store a0 a1 K w) : Ret P n_atomic_Bool_Store [a0, a1] w K :=
  vcF_of mixed Tryz.func254 (show S_atomic_Bool_Store a0 a1 K w = vcF P Tryz.f254 [a0, a1] w K from by kernel_rfl) h
/- spunyarn/keys.Same -/
abbrev S_keys_Same (a0 : Value) (a1 : Value) (K : Value → World → Prop) (w0 : World) : Prop :=
Ret P n_bytes_Equal [a0, a1] w0 fun v1000 w1001 =>
K v1000 w1001
theorem W_keys_Same {a0 a1 : Value} {K : Value → World → Prop} {w : World} (h : S_keys_Same a0 a1 K w) : Ret P n_keys_Same [a0, a1] w K :=
  vcF_of mixed Tryz.func255 (show S_keys_Same a0 a1 K w = vcF P Tryz.f255 [a0, a1] w K from by kernel_rfl) h
/- bytes.Compare -/
abbrev S_bytes_Compare (a0 : Value) (a1 : Value) (K : Value → World → Prop) (w0 : World) : Prop :=
xCall P 270 [a0, a1] w0 fun v1000 w1001 =>
K v1000 w1001
theorem W_bytes_Compare {a0 a1 : Value} {K : Value → World → Prop} {w : World} (h : S_bytes_Compare a0 a1 K w) : Ret P n_bytes_Compare [a0, a1] w K :=
  vcF_of mixed Tryz.func256 (show S_bytes_Compare a0 a1 K w = vcF P Tryz.f256 [a0, a1] w K from by kernel_rfl) h
/- internal/strconv.log10Pow2 -/
abbrev S_istrconv_log10Pow2 (a0 : Value) (K : Value → World → Prop) (w0 : World) : Prop :=
xMul a0 (.int .i64 78913) fun v1000 =>
xShr v1000 (.int .u64 18) fun v1001 =>
K v1001 w0
theorem W_istrconv_log10Pow2 {a0 : Value} {K : Value → World → Prop} {w : World} (h : S_istrconv_log10Pow2 a0 K w) : Ret P n_istrconv_log10Pow2 [a0] w K :=
  vcF_of mixed Tryz.func257 (show S_istrconv_log10Pow2 a0 K w = vcF P Tryz.f257 [a0] w K from by kernel_rfl) h
/- math/bits.Len64 -/
abbrev S_bits_Len64 (a0 : Value) (K : Value → World → Prop) (w0 : World) : Prop :=
/- 0 x 1 n -/ XJ (fun J1000 =>
xGe a0 (.int .u64 4294967296) fun v1004 =>
xIf v1004 (xShr a0 (.int .u64 32) fun v1005 =>
J1000 [v1005, (.int .i64 32)] w0) (J1000 [a0, (.int .i64 0)] w0)) fun vs1001 g1002 w1003 =>
/- 0 x 1 n -/ XJ (fun J1006 =>
xGe (vs1001.getD 0 undef) (.int .u64 65536) fun v1010 =>
xIf v1010 (xShr (vs1001.getD 0 undef) (.int .u64 16) fun v1011 =>
xAdd (vs1001.getD 1 undef) (.int .i64 16) fun v1012 =>
J1006 [v1011, v1012] w1003) (J1006 [(vs1001.getD 0 undef), (vs1001.getD 1 undef)] w1003)) fun vs1007 g1008 w1009 =>
/- 0 x 1 n -/ XJ (fun J1013 =>
xGe (vs1007.getD 0 undef) (.int .u64 256) fun v1017 =>
xIf v1017 (xShr (vs1007.getD 0 undef) (.int .u64 8) fun v1018 =>
xAdd (vs1007.getD 1 undef) (.int .i64 8) fun v1019 =>
J1013 [v1018, v1019] w1009) (J1013 [(vs1007.getD 0 undef), (vs1007.getD 1 undef)] w1009)) fun vs1014 g1015 w1016 =>
xConv .u8 (vs1014.getD 0 undef) fun v1020 =>
xIxStr (.string ⟨#[0, 1, 2, 2, 3, 3, 3, 3, 4, 4, 4, 4, 4, 4, 4, 4, 5, 5, 5, 5, 5, 5, 5, 5, 5, 5, 5, 5, 5, 5, 5, 5, 6, 6, 6, 6, 6, 6, 6, 6, 6, 6, 6, 6, 6, 6, 6, 6, 6, 6, 6, 6, 6, 6, 6, 6, 6, 6, 6, 6, 6, 6, 6, 6, 7, 7, 7, 7, 7, 7, 7, 7, 7, 7, 7, 7, 7, 7, 7, 7, 7, 7, 7, 7, 7, 7, 7, 7, 7, 7, 7, 7, 7, 7, 7, 7, 7, 7, 7, 7, 7, 7, 7, 7, 7, 7, 7, 7, 7, 7, 7, 7, 7, 7, 7, 7, 7, 7, 7, 7, 7, 7, 7, 7, 7, 7, 7, 7, 8, 8, 8, 8, 8, 8, 8, 8, 8, 8, 8, 8, 8, 8, 8, 8, 8, 8, 8, 8, 8, 8, 8, 8, 8, 8, 8, 8, 8, 8, 8, 8, 8, 8, 8, 8, 8, 8, 8, 8, 8, 8, 8, 8, 8, 8, 8, 8, 8, 8, 8, 8, 8, 8, 8, 8, 8, 8, 8, 8, 8, 8, 8, 8, 8, 8, 8, 8, 8, 8, 8, 8, 8, 8, 8, 8, 8, 8, 8, 8, 8, 8, 8, 8, 8, 8, 8, 8, 8, 8, 8, 8, 8, 8, 8, 8, 8, 8, 8, 8, 8, 8, 8, 8, 8, 8, 8, 8, 8, 8, 8, 8, 8, 8, 8, 8, 8, 8, 8, 8, 8, 8, 8, 8, 8, 8, 8, 8]⟩) v1020 fun v1021 =>
xConv .i64 v1021 fun v1022 =>
xAdd (vs1014.getD 1 undef) v1022 fun v1023 =>
K v1023 w1016
theorem W_bits_Len64 {a0 : Value} {K : Value → World → Prop} {w : World} (h : S_bits_Len64 a0 K w) : Ret P n_bits_Len64 [a0] w K :=
  vcF_of mixed Tryz.func258 (show S_bits_Len64 a0 K w = vcF P Tryz.f258 [a0] w K from by kernel_rfl) h
/- internal/strconv.bool2[int] -/
abbrev S_istrconv_bool2_int (a0 : Value) (K : Value → World → Prop) (w0 : World) : Prop :=
xIf a0 (K (.int .i64 1) w0) (K (.int .i64 0) w0)
theorem W_istrconv_bool2_int {a0 : Value} {K : Value → World → Prop} {w : World} (h : S_istrconv_bool2_int a0 K w) : Ret P n_istrconv_bool2_int [a0] w K :=
  vcF_of mixed Tryz.func259 (show S_istrconv_bool2_int a0 K w = vcF P Tryz.f259 [a0] w K from by kernel_rfl) h
/- internal/strconv.isPowerOfTwo -/
abbrev S_istrconv_isPowerOfTwo (a0 : Value) (K : Value → World → Prop) (w0 : World) : Prop :=
xSub a0 (.int .i64 1) fun v1000 =>
xAnd a0 v1000 fun v1001 =>
xEq v1001 (.int .i64 0) fun v1002 =>
K v1002 w0
theorem W_istrconv_isPowerOfTwo {a0 : Value} {K : Value → World → Prop} {w : World} (h : S_istrconv_isPowerOfTwo a0 K w) : Ret P n_istrconv_isPowerOfTwo [a0] w K :=
  vcF_of mixed Tryz.func260 (show S_istrconv_isPowerOfTwo a0 K w = vcF P Tryz.f260 [a0] w K from by kernel_rfl) h
/- math/bits.TrailingZeros -/
abbrev S_bits_TrailingZeros (a0 : Value) (K : Value → World → Prop) (w0 : World) : Prop :=
Ret P n_bits_TrailingZeros64 [a0] w0 fun v1000 w1001 =>
K v1000 w1001
theorem W_bits_TrailingZeros {a0 : Value} {K : Value → World → Prop} {w : World} (h : S_bits_TrailingZeros a0 K w) : Ret P n_bits_TrailingZeros [a0] w K :=
  vcF_of mixed Tryz.func261 (show S_bits_TrailingZeros a0 K w = vcF P Tryz.f261 [a0] w K from by kernel_rfl) h
/- (*spunyarn/small.Row[*spunyarn/node.Node]).at -/
abbrev S_small_Row_at (a0 : Value) (a1 : Value) (K : Value → World → Prop) (w0 : World) : Prop :=
/- 0 -/ XJ (fun J1000 =>
xLt a1 (.int .i64 0) fun v1004 =>
xIf v1004 (J1000 [(.bool true)] w0) (xAt a0 fun a1005 =>
XLd w0 (a1005.add 1) fun v1006 =>
xGe a1 v1006 fun v1007 =>
J1000 [v1007] w0)) fun vs1001 g1002 w1003 =>
xIf (vs1001.getD 0 undef) (K (.tuple #[(.int .u8 0), (.pointer none), (.bool false)]) w1003) (xAt a0 fun a1008 =>
xIxA (.pointer (some (a1008.add 2))) a1 16 1 fun v1009 =>
xAt v1009 fun a1010 =>
XLd w1003.drew a1010 fun v1011 =>
xAt a0 fun a1012 =>
xIxA (.pointer (some (a1012.add 18))) a1 16 1 fun v1013 =>
xAt v1013 fun a1014 =>
XLd w1003.drew a1014 fun v1015 =>
xKeep1 w1003.drew v1013 v1015 ∧ (K (.tuple #[v1011, v1015, (.bool true)]) (w1003.drew)))
theorem W_small_Row_at {a0 a1 : Value} {K : Value → World → Prop} {w : World} (h : S_small_Row_at a0 a1 K w) : Ret P n_small_Row_at [a0, a1] w K :=
  vcF_of mixed Tryz.func262 (show S_small_Row_at a0 a1 K w = vcF P Tryz.f262 [a0, a1] w K from by kernel_rfl) h
/- (*spunyarn/kids.Kids[*spunyarn/node.Node]).Drop -/
abbrev S_kids_Kids_Drop (a0 : Value) (a1 : Value) (K : Value → World → Prop) (w0 : World) : Prop :=
Ret P n_kids_Kids_ok [a0] w0 fun v1000 w1001 =>
xNot v1000 fun v1002 =>
xIf v1002 (K (.int .i64 2) w1001) (/- 0 e -/ XJ (fun J1003 =>
xAt a0 fun a1007 =>
XLd w1001 (a1007.add 0) fun v1008 =>
xPNe P w1001 v1008 (.pointer none) fun v1009 =>
xIf v1009 (xAt a0 fun a1010 =>
XLd w1001 (a1010.add 0) fun v1011 =>
Ret P n_small_Row_Drop [v1011, a1] w1001 fun v1012 w1013 =>
J1003 [v1012] w1013) (xAt a0 fun a1014 =>
XLd w1001 (a1014.add 1) fun v1015 =>
Ret P n_wide_Board_Drop [v1015, a1] w1001 fun v1016 w1017 =>
J1003 [v1016] w1017)) fun vs1004 g1005 w1006 =>
/- 0 kind -/ XJ (fun J1018 =>
Ret P n_kids_Kids_Len [a0] w1006 fun v1022 w1023 =>
Ret P n_kids_KindOf [v1022] w1023 fun v1024 w1025 =>
Ret P n_kids_Kids_Kind [a0] w1025 fun v1026 w1027 =>
xNe v1024 v1026 fun v1028 =>
xIf v1028 (Ret P n_kids_move_Node [a0, v1024] w1027 fun v1029 w1030 =>
J1018 [v1024] w1030) (J1018 [v1024] w1027)) fun vs1019 g1020 w1021 =>
K (vs1004.getD 0 undef) w1021)
theorem W_kids_Kids_Drop {a0 a1 : Value} {K : Value → World → Prop} {w : World} (h : S_kids_Kids_Drop a0 a1 K w) : Ret P n_kids_Kids_Drop [a0, a1] w K :=
  vcF_of mixed Tryz.func263 (show S_kids_Kids_Drop a0 a1 K w = vcF P Tryz.f263 [a0, a1] w K from by kernel_rfl) h
/- slices.BinarySearch[[]byte,byte] -/
/- S_slices_BinarySearch_byte_l1: 0=slot 7 i 1=slot 8 j 2=slot 9 h -/
def S_slices_BinarySearch_byte_l1 (K : Value → World → Prop) (a0 : Value) (a1 : Value) (v1000 : Value) (I1001 : Nat → List Value → World → Prop) (n1002 : Nat) (vs1003 : List Value) (g1004 : Nat → Value) (w1005 : World) : Prop :=
xLt (vs1003.getD 0 undef) (vs1003.getD 1 undef) fun v1006 =>
xIf v1006 (xAdd (vs1003.getD 0 undef) (vs1003.getD 1 undef) fun v1007 =>
xConv .u64 v1007 fun v1008 =>
xShr v1008 (.int .u64 1) fun v1009 =>
xConv .i64 v1009 fun v1010 =>
xIxS a0 v1010 1 fun v1011 =>
xAt v1011 fun a1012 =>
XLd w1005 a1012 fun v1013 =>
Ret P n_cmp_Less_byte [v1013, a1] w1005 fun v1014 w1015 =>
xIf v1014 (xAdd v1010 (.int .i64 1) fun v1016 =>
XNext I1001 n1002 [v1016, (vs1003.getD 1 undef), v1010] w1015) (XNext I1001 n1002 [(vs1003.getD 0 undef), v1010, v1010] w1015)) (/- 0 1 -/ XJ (fun J1017 =>
xLt (vs1003.getD 0 undef) v1000 fun v1021 =>
xIf v1021 (xIxS a0 (vs1003.getD 0 undef) 1 fun v1022 =>
xAt v1022 fun a1023 =>
XLd w1005 a1023 fun v1024 =>
xEq v1024 a1 fun v1025 =>
xIf v1025 (J1017 [(vs1003.getD 0 undef), (.bool true)] w1005) (xIxS a0 (vs1003.getD 0 undef) 1 fun v1026 =>
xAt v1026 fun a1027 =>
XLd w1005 a1027 fun v1028 =>
Ret P n_slices_isNaN_byte [v1028] w1005 fun v1029 w1030 =>
xIf v1029 (Ret P n_slices_isNaN_byte [a1] w1030 fun v1031 w1032 =>
J1017 [(vs1003.getD 0 undef), v1031] w1032) (J1017 [(vs1003.getD 0 undef), (.bool false)] w1030))) (J1017 [(vs1003.getD 0 undef), (.bool false)] w1005)) fun vs1018 g1019 w1020 =>
K (.tuple #[(vs1018.getD 0 undef), (vs1018.getD 1 undef)]) w1020)
abbrev S_slices_BinarySearch_byte (a0 : Value) (a1 : Value) (K : Value → World → Prop) (w0 : World) : Prop :=
xLen a0 fun v1000 =>
XLoop [(.int .i64 0), v1000, undef] w0 (S_slices_BinarySearch_byte_l1 K a0 a1 v1000)
theorem W_slices_BinarySearch_byte {a0 a1 : Value} {K : Value → World → Prop} {w : World} (h : S_slices_BinarySearch_byte a0 a1 K w) : Ret P n_slices_BinarySearch_byte [a0, a1] w K :=
  vcF_of mixed Tryz.func264 (show S_slices_BinarySearch_byte a0 a1 K w = vcF P Tryz.f264 [a0, a1] w K from by kernel_rfl) h
/- (*spunyarn/wide.Board[*spunyarn/node.Node]).place -/
abbrev S_wide_Board_place (a0 : Value) (K : Value → World → Prop) (w0 : World) : Prop :=
xAt a0 fun a1000 =>
XLd w0 (a1000.add 259) fun v1001 =>
xLen v1001 fun v1002 =>
xGt v1002 (.int .i64 0) fun v1003 =>
xIf v1003 (xAt a0 fun a1004 =>
XLd w0 (a1004.add 259) fun v1005 =>
xSub v1002 (.int .i64 1) fun v1006 =>
xIxS v1005 v1006 1 fun v1007 =>
xAt v1007 fun a1008 =>
XLd w0 a1008 fun v1009 =>
xAt a0 fun a1010 =>
XLd w0 (a1010.add 259) fun v1011 =>
xSub v1002 (.int .i64 1) fun v1012 =>
xCutS 1 v1011 none (some v1012) none fun v1013 =>
xAt a0 fun a1014 =>
XSt w0 (a1014.add 259) v1013 fun w1015 =>
K v1009 w1015) (xAt a0 fun a1016 =>
XLd w0 (a1016.add 258) fun v1017 =>
xFill (repL [(.pointer none)] 1) [(0, 1, (.pointer none))] fun c1018 =>
XNew w0 c1018 28 fun a1019 w1020 =>
XRun P (Builtin.append_ #[311, 311] 311 #[v1017, (.slice (some a1019) 1 1)]) w1020 fun v1021 w1022 =>
xAt a0 fun a1023 =>
XSt w1022 (a1023.add 258) v1021 fun w1024 =>
xAt a0 fun a1025 =>
XLd w1024 (a1025.add 258) fun v1026 =>
xLen v1026 fun v1027 =>
xConv .u16 v1027 fun v1028 =>
K v1028 w1024)
theorem W_wide_Board_place {a0 : Value} {K : Value → World → Prop} {w : World} (h : S_wide_Board_place a0 K w) : Ret P n_wide_Board_place [a0] w K :=
  vcF_of mixed Tryz.func265 (show S_wide_Board_place a0 K w = vcF P Tryz.f265 [a0] w K from by kernel_rfl) h
/- sync/atomic.b32 -/
abbrev S_atomic_b32 (a0 : Value) (K : Value → World → Prop) (w0 : World) : Prop :=
xIf a0 (K (.int .u32 1) w0) (K (.int .u32 0) w0)
theorem W_atomic_b32 {a0 : Value} {K : Value → World → Prop} {w : World} (h : S_atomic_b32 a0 K w) : Ret P n_atomic_b32 [a0] w K :=
  vcF_of mixed Tryz.func269 (show S_atomic_b32 a0 K w = vcF P Tryz.f269 [a0] w K from by kernel_rfl) h
/- math/bits.TrailingZeros32 -/
abbrev S_bits_TrailingZeros32 (a0 : Value) (K : Value → World → Prop) (w0 : World) : Prop :=
xEq a0 (.int .u32 0) fun v1000 =>
xIf v1000 (K (.int .i64 32) w0) (xNeg a0 fun v1001 =>
xAnd a0 v1001 fun v1002 =>
xMul v1002 (.int .u32 125613361) fun v1003 =>
xShr v1003 (.int .u64 27) fun v1004 =>
xIxA (.pointer (some ⟨2, 0, none⟩)) v1004 32 1 fun v1005 =>
xAt v1005 fun a1006 =>
XLd w0 a1006 fun v1007 =>
xConv .i64 v1007 fun v1008 =>
K v1008 w0)
theorem W_bits_TrailingZeros32 {a0 : Value} {K : Value → World → Prop} {w : World} (h : S_bits_TrailingZeros32 a0 K w) : Ret P n_bits_TrailingZeros32 [a0] w K :=
  vcF_of mixed Tryz.func271 (show S_bits_TrailingZeros32 a0 K w = vcF P Tryz.f271 [a0] w K from by kernel_rfl) h
/- math/bits.TrailingZeros64 -/
abbrev S_bits_TrailingZeros64 (a0 : Value) (K : Value → World → Prop) (w0 : World) : Prop :=
xEq a0 (.int .u64 0) fun v1000 =>
xIf v1000 (K (.int .i64 64) w0) (xNeg a0 fun v1001 =>
xAnd a0 v1001 fun v1002 =>
xMul v1002 (.int .u64 285870213051353865) fun v1003 =>
xShr v1003 (.int .u64 58) fun v1004 =>
xIxA (.pointer (some ⟨3, 0, none⟩)) v1004 64 1 fun v1005 =>
xAt v1005 fun a1006 =>
XLd w0 a1006 fun v1007 =>
xConv .i64 v1007 fun v1008 =>
K v1008 w0)
theorem W_bits_TrailingZeros64 {a0 : Value} {K : Value → World → Prop} {w : World} (h : S_bits_TrailingZeros64 a0 K w) : Ret P n_bits_TrailingZeros64 [a0] w K :=
  vcF_of mixed Tryz.func272 (show S_bits_TrailingZeros64 a0 K w = vcF P Tryz.f272 [a0] w K from by kernel_rfl) h
/- (*spunyarn/small.Row[*spunyarn/node.Node]).Drop -/
abbrev S_small_Row_Drop (a0 : Value) (a1 : Value) (K : Value → World → Prop) (w0 : World) : Prop :=
Ret P n_small_Row_ok [a0] w0 fun v1000 w1001 =>
xNot v1000 fun v1002 =>
xIf v1002 (K (.int .i64 2) w1001) (Ret P n_small_Row_place [a0, a1] w1001 fun v1003 w1004 =>
xTup v1003 0 fun v1005 =>
xTup v1003 1 fun v1006 =>
xNot v1006 fun v1007 =>
xIf v1007 (K (.int .i64 6) w1004) (xAt a0 fun a1008 =>
xCutA 16 1 (.pointer (some (a1008.add 2))) (some v1005) none none fun v1009 =>
xAt a0 fun a1010 =>
xAdd v1005 (.int .i64 1) fun v1011 =>
xAt a0 fun a1012 =>
XLd w1004.drew (a1012.add 1) fun v1013 =>
xCutA 16 1 (.pointer (some (a1010.add 2))) (some v1011) (some v1013) none fun v1014 =>
XRun P (Builtin.copy_ #[41, 41] 3 #[v1009, v1014]) w1004.drew fun v1015 w1016 =>
xAt a0 fun a1017 =>
xCutA 16 1 (.pointer (some (a1017.add 18))) (some v1005) none none fun v1018 =>
xAt a0 fun a1019 =>
xAdd v1005 (.int .i64 1) fun v1020 =>
xAt a0 fun a1021 =>
XLd w1016.drew (a1021.add 1) fun v1022 =>
xCutA 16 1 (.pointer (some (a1019.add 18))) (some v1020) (some v1022) none fun v1023 =>
XRun P (Builtin.copy_ #[311, 311] 3 #[v1018, v1023]) w1016.drew fun v1024 w1025 =>
xAt a0 fun a1026 =>
XLd w1025 (a1026.add 1) fun v1027 =>
xSub v1027 (.int .i64 1) fun v1028 =>
xAt a0 fun a1029 =>
XSt w1025 (a1029.add 1) v1028 fun w1030 =>
xAt a0 fun a1031 =>
XLd w1030.drew (a1031.add 1) fun v1032 =>
xAt a0 fun a1033 =>
XLd w1030.drew (a1033.add 1) fun v1034 =>
xAt a0 fun a1035 =>
xIxA (.pointer (some (a1035.add 2))) v1032 16 1 fun v1036 =>
xAt a0 fun a1037 =>
xAt v1036 fun a1039 =>
XSt w1030.drew a1039 (.int .u8 0) fun w1038 =>
xIxA (.pointer (some (a1037.add 18))) v1034 16 1 fun v1040 =>
xAt v1040 fun a1042 =>
XSt w1038 a1042 (.pointer none) fun w1041 =>
K (.int .i64 0) w1041))
theorem W_small_Row_Drop {a0 a1 : Value} {K : Value → World → Prop} {w : World} (h : S_small_Row_Drop a0 a1 K w) : Ret P n_small_Row_Drop [a0, a1] w K :=
  vcF_of mixed Tryz.func273 (show S_small_Row_Drop a0 a1 K w = vcF P Tryz.f273 [a0, a1] w K from by kernel_rfl) h
/- (*spunyarn/wide.Board[*spunyarn/node.Node]).Drop -/
abbrev S_wide_Board_Drop (a0 : Value) (a1 : Value) (K : Value → World → Prop) (w0 : World) : Prop :=
Ret P n_wide_Board_ok [a0] w0 fun v1000 w1001 =>
xNot v1000 fun v1002 =>
xIf v1002 (K (.int .i64 2) w1001) (xAt a0 fun a1003 =>
xIxA (.pointer (some (a1003.add 2))) a1 256 1 fun v1004 =>
xAt v1004 fun a1005 =>
XLd w1001 a1005 fun v1006 =>
xEq v1006 (.int .u16 0) fun v1007 =>
xIf v1007 (K (.int .i64 6) w1001) (xAt a0 fun a1008 =>
XLd w1001.drew (a1008.add 258) fun v1009 =>
xAt a0 fun a1010 =>
xIxA (.pointer (some (a1010.add 2))) a1 256 1 fun v1011 =>
xAt v1011 fun a1012 =>
XLd w1001.drew a1012 fun v1013 =>
xSub v1013 (.int .u16 1) fun v1014 =>
xIxS v1009 v1014 1 fun v1015 =>
xAt v1015 fun a1017 =>
XSt w1001.drew a1017 (.pointer none) fun w1016 =>
xAt a0 fun a1018 =>
XLd w1016.drew (a1018.add 259) fun v1019 =>
xAt a0 fun a1020 =>
xIxA (.pointer (some (a1020.add 2))) a1 256 1 fun v1021 =>
xAt v1021 fun a1022 =>
XLd w1016.drew a1022 fun v1023 =>
xFill (repL [(.int .u16 0)] 1) [(0, 1, v1023)] fun c1024 =>
XNew w1016.drew c1024 132 fun a1025 w1026 =>
xKeep1 w1026 (.pointer (some (a1018.add 259))) v1019 ∧ (XRun P (Builtin.append_ #[312, 312] 312 #[v1019, (.slice (some a1025) 1 1)]) w1026 fun v1027 w1028 =>
xAt a0 fun a1029 =>
XSt w1028 (a1029.add 259) v1027 fun w1030 =>
xAt a0 fun a1031 =>
xIxA (.pointer (some (a1031.add 2))) a1 256 1 fun v1032 =>
xAt v1032 fun a1034 =>
XSt w1030 a1034 (.int .u16 0) fun w1033 =>
xAt a0 fun a1035 =>
XLd w1033 (a1035.add 1) fun v1036 =>
xSub v1036 (.int .i64 1) fun v1037 =>
xAt a0 fun a1038 =>
XSt w1033 (a1038.add 1) v1037 fun w1039 =>
K (.int .i64 0) w1039)))
theorem W_wide_Board_Drop {a0 a1 : Value} {K : Value → World → Prop} {w : World} (h : S_wide_Board_Drop a0 a1 K w) : Ret P n_wide_Board_Drop [a0, a1] w K :=
  vcF_of mixed Tryz.func274 (show S_wide_Board_Drop a0 a1 K w = vcF P Tryz.f274 [a0, a1] w K from by kernel_rfl) h
/- cmp.Less[byte] -/
abbrev S_cmp_Less_byte (a0 : Value) (a1 : Value) (K : Value → World → Prop) (w0 : World) : Prop :=
/- 0 -/ XJ (fun J1000 =>
Ret P n_cmp_isNaN_byte [a0] w0 fun v1004 w1005 =>
xIf v1004 (Ret P n_cmp_isNaN_byte [a1] w1005 fun v1006 w1007 =>
xNot v1006 fun v1008 =>
xIf v1008 (J1000 [(.bool true)] w1007) (xLt a0 a1 fun v1009 =>
J1000 [v1009] w1007)) (xLt a0 a1 fun v1010 =>
J1000 [v1010] w1005)) fun vs1001 g1002 w1003 =>
K (vs1001.getD 0 undef) w1003
theorem W_cmp_Less_byte {a0 a1 : Value} {K : Value → World → Prop} {w : World} (h : S_cmp_Less_byte a0 a1 K w) : Ret P n_cmp_Less_byte [a0, a1] w K :=
  vcF_of mixed Tryz.func275 (show S_cmp_Less_byte a0 a1 K w = vcF P Tryz.f275 [a0, a1] w K from by kernel_rfl) h
/- slices.isNaN[byte] -/
abbrev S_slices_isNaN_byte (a0 : Value) (K : Value → World → Prop) (w0 : World) : Prop :=
xNe a0 a0 fun v1000 =>
K v1000 w0
theorem W_slices_isNaN_byte {a0 : Value} {K : Value → World → Prop} {w : World} (h : S_slices_isNaN_byte a0 K w) : Ret P n_slices_isNaN_byte [a0] w K :=
  vcF_of mixed Tryz.func276 (show S_slices_isNaN_byte a0 K w = vcF P Tryz.f276 [a0] w K from by kernel_rfl) h
/- cmp.isNaN[byte] -/
abbrev S_cmp_isNaN_byte (a0 : Value) (K : Value → World → Prop) (w0 : World) : Prop :=
xNe a0 a0 fun v1000 =>
K v1000 w0
theorem W_cmp_isNaN_byte {a0 : Value} {K : Value → World → Prop} {w : World} (h : S_cmp_isNaN_byte a0 K w) : Ret P n_cmp_isNaN_byte [a0] w K :=
  vcF_of mixed Tryz.func285 (show S_cmp_isNaN_byte a0 K w = vcF P Tryz.f285 [a0] w K from by kernel_rfl) h
end Go.Proofs.YthnegkjhciakpaaGreatDoor
