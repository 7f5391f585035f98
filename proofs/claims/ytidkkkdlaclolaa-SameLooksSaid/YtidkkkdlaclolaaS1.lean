/-  Written by gen.py for this claim: of each function a form without frames, the same as the engine's condition by reckoning.  -/
import Derived.Test.YtidkkkdlaclolaaSN
import Derived.Test.YtidkkkdlaclolaaProg
namespace Go.Proofs.Ytidkkkdlaclolaa
open Go X
set_option linter.unusedVariables false
set_option maxRecDepth 100000
/- (*spunyarn/small.Row[*spunyarn/node.Node]).Get -/
abbrev S_small_Row_Get (a0 : Value) (a1 : Value) (K : Value → World → Prop) (w0 : World) : Prop :=
Ret P n_small_Row_ok [a0] w0 fun v1000 w1001 =>
xNot v1000 fun v1002 =>
xIf v1002 (K (.tuple #[(.pointer none), (.bool false)]) w1001) (Ret P n_small_Row_place [a0, a1] w1001 fun v1003 w1004 =>
xTup v1003 0 fun v1005 =>
xTup v1003 1 fun v1006 =>
xNot v1006 fun v1007 =>
xIf v1007 (K (.tuple #[(.pointer none), (.bool false)]) w1004) (xAt a0 fun a1008 =>
xIxA (.pointer (some (a1008.add 18))) v1005 16 1 fun v1009 =>
xAt v1009 fun a1010 =>
XLd w1004 a1010 fun v1011 =>
K (.tuple #[v1011, (.bool true)]) w1004))
theorem W_small_Row_Get {a0 a1 : Value} {K : Value → World → Prop} {w : World} (h : S_small_Row_Get a0 a1 K w) : Ret P n_small_Row_Get [a0, a1] w K :=
  vcF_of mixed Try.func69 (show S_small_Row_Get a0 a1 K w = vcF P Try.f69 [a0, a1] w K from by kernel_rfl) h
/- (*spunyarn/wide.Board[*spunyarn/node.Node]).Get -/
abbrev S_wide_Board_Get (a0 : Value) (a1 : Value) (K : Value → World → Prop) (w0 : World) : Prop :=
/- 0 -/ XJ (fun J1000 =>
Ret P n_wide_Board_ok [a0] w0 fun v1004 w1005 =>
xNot v1004 fun v1006 =>
xIf v1006 (J1000 [(.bool true)] w1005) (xAt a0 fun a1007 =>
xIxA (.pointer (some (a1007.add 2))) a1 256 1 fun v1008 =>
xAt v1008 fun a1009 =>
XLd w1005 a1009 fun v1010 =>
xEq v1010 (.int .u16 0) fun v1011 =>
J1000 [v1011] w1005)) fun vs1001 g1002 w1003 =>
xIf (vs1001.getD 0 undef) (K (.tuple #[(.pointer none), (.bool false)]) w1003) (xAt a0 fun a1012 =>
XLd w1003.drew (a1012.add 258) fun v1013 =>
xAt a0 fun a1014 =>
xIxA (.pointer (some (a1014.add 2))) a1 256 1 fun v1015 =>
xAt v1015 fun a1016 =>
XLd w1003.drew a1016 fun v1017 =>
xSub v1017 (.int .u16 1) fun v1018 =>
xIxS v1013 v1018 1 fun v1019 =>
xAt v1019 fun a1020 =>
XLd w1003.drew a1020 fun v1021 =>
K (.tuple #[v1021, (.bool true)]) (w1003.drew))
theorem W_wide_Board_Get {a0 a1 : Value} {K : Value → World → Prop} {w : World} (h : S_wide_Board_Get a0 a1 K w) : Ret P n_wide_Board_Get [a0, a1] w K :=
  vcF_of mixed Try.func70 (show S_wide_Board_Get a0 a1 K w = vcF P Try.f70 [a0, a1] w K from by kernel_rfl) h
/- (*spunyarn/small.Row[*spunyarn/node.Node]).Len -/
abbrev S_small_Row_Len (a0 : Value) (K : Value → World → Prop) (w0 : World) : Prop :=
Ret P n_small_Row_ok [a0] w0 fun v1000 w1001 =>
xNot v1000 fun v1002 =>
xIf v1002 (K (.int .i64 0) w1001) (xAt a0 fun a1003 =>
XLd w1001 (a1003.add 1) fun v1004 =>
K v1004 w1001)
theorem W_small_Row_Len {a0 : Value} {K : Value → World → Prop} {w : World} (h : S_small_Row_Len a0 K w) : Ret P n_small_Row_Len [a0] w K :=
  vcF_of mixed Try.func71 (show S_small_Row_Len a0 K w = vcF P Try.f71 [a0] w K from by kernel_rfl) h
/- (*spunyarn/wide.Board[*spunyarn/node.Node]).Len -/
abbrev S_wide_Board_Len (a0 : Value) (K : Value → World → Prop) (w0 : World) : Prop :=
Ret P n_wide_Board_ok [a0] w0 fun v1000 w1001 =>
xNot v1000 fun v1002 =>
xIf v1002 (K (.int .i64 0) w1001) (xAt a0 fun a1003 =>
XLd w1001 (a1003.add 1) fun v1004 =>
K v1004 w1001)
theorem W_wide_Board_Len {a0 : Value} {K : Value → World → Prop} {w : World} (h : S_wide_Board_Len a0 K w) : Ret P n_wide_Board_Len [a0] w K :=
  vcF_of mixed Try.func72 (show S_wide_Board_Len a0 K w = vcF P Try.f72 [a0] w K from by kernel_rfl) h
/- (*spunyarn/small.Row[*spunyarn/node.Node]).Room -/
abbrev S_small_Row_Room (a0 : Value) (K : Value → World → Prop) (w0 : World) : Prop :=
Ret P n_small_Row_ok [a0] w0 fun v1000 w1001 =>
xNot v1000 fun v1002 =>
xIf v1002 (K (.int .i64 0) w1001) (xAt a0 fun a1003 =>
XLd w1001 (a1003.add 0) fun v1004 =>
K v1004 w1001)
theorem W_small_Row_Room {a0 : Value} {K : Value → World → Prop} {w : World} (h : S_small_Row_Room a0 K w) : Ret P n_small_Row_Room [a0] w K :=
  vcF_of mixed Try.func73 (show S_small_Row_Room a0 K w = vcF P Try.f73 [a0] w K from by kernel_rfl) h
/- (*spunyarn/wide.Board[*spunyarn/node.Node]).Room -/
abbrev S_wide_Board_Room (a0 : Value) (K : Value → World → Prop) (w0 : World) : Prop :=
Ret P n_wide_Board_ok [a0] w0 fun v1000 w1001 =>
xNot v1000 fun v1002 =>
xIf v1002 (K (.int .i64 0) w1001) (xAt a0 fun a1003 =>
XLd w1001 (a1003.add 0) fun v1004 =>
K v1004 w1001)
theorem W_wide_Board_Room {a0 : Value} {K : Value → World → Prop} {w : World} (h : S_wide_Board_Room a0 K w) : Ret P n_wide_Board_Room [a0] w K :=
  vcF_of mixed Try.func74 (show S_wide_Board_Room a0 K w = vcF P Try.f74 [a0] w K from by kernel_rfl) h
/- (*spunyarn/small.Row[*spunyarn/node.Node]).Set -/
abbrev S_small_Row_Set (a0 : Value) (a1 : Value) (a2 : Value) (K : Value → World → Prop) (w0 : World) : Prop :=
Ret P n_small_Row_ok [a0] w0 fun v1000 w1001 =>
xNot v1000 fun v1002 =>
xIf v1002 (K (.int .i64 2) w1001) (Ret P n_small_Row_place [a0, a1] w1001 fun v1003 w1004 =>
xTup v1003 0 fun v1005 =>
xTup v1003 1 fun v1006 =>
xIf v1006 (xAt a0 fun a1007 =>
xIxA (.pointer (some (a1007.add 18))) v1005 16 1 fun v1008 =>
xAt v1008 fun a1010 =>
XSt w1004 a1010 a2 fun w1009 =>
K (.int .i64 0) w1009) (xAt a0 fun a1011 =>
XLd w1004.drew (a1011.add 1) fun v1012 =>
xAt a0 fun a1013 =>
XLd w1004.drew (a1013.add 0) fun v1014 =>
xEq v1012 v1014 fun v1015 =>
xIf v1015 (K (.int .i64 10) (w1004.drew)) (xAt a0 fun a1016 =>
xAdd v1005 (.int .i64 1) fun v1017 =>
xCutA 16 1 (.pointer (some (a1016.add 2))) (some v1017) none none fun v1018 =>
xAt a0 fun a1019 =>
xAt a0 fun a1020 =>
XLd w1004.drew.drew (a1020.add 1) fun v1021 =>
xCutA 16 1 (.pointer (some (a1019.add 2))) (some v1005) (some v1021) none fun v1022 =>
XRun P (Builtin.copy_ #[44, 44] 3 #[v1018, v1022]) w1004.drew.drew fun v1023 w1024 =>
xAt a0 fun a1025 =>
xAdd v1005 (.int .i64 1) fun v1026 =>
xCutA 16 1 (.pointer (some (a1025.add 18))) (some v1026) none none fun v1027 =>
xAt a0 fun a1028 =>
xAt a0 fun a1029 =>
XLd w1024.drew (a1029.add 1) fun v1030 =>
xCutA 16 1 (.pointer (some (a1028.add 18))) (some v1005) (some v1030) none fun v1031 =>
XRun P (Builtin.copy_ #[119, 119] 3 #[v1027, v1031]) w1024.drew fun v1032 w1033 =>
xAt a0 fun a1034 =>
xIxA (.pointer (some (a1034.add 2))) v1005 16 1 fun v1035 =>
xAt a0 fun a1036 =>
xAt v1035 fun a1038 =>
XSt w1033.drew a1038 a1 fun w1037 =>
xIxA (.pointer (some (a1036.add 18))) v1005 16 1 fun v1039 =>
xAt v1039 fun a1041 =>
XSt w1037 a1041 a2 fun w1040 =>
xAt a0 fun a1042 =>
XLd w1040 (a1042.add 1) fun v1043 =>
xAdd v1043 (.int .i64 1) fun v1044 =>
xAt a0 fun a1045 =>
XSt w1040 (a1045.add 1) v1044 fun w1046 =>
K (.int .i64 0) w1046)))
theorem W_small_Row_Set {a0 a1 a2 : Value} {K : Value → World → Prop} {w : World} (h : S_small_Row_Set a0 a1 a2 K w) : Ret P n_small_Row_Set [a0, a1, a2] w K :=
  vcF_of mixed Try.func75 (show S_small_Row_Set a0 a1 a2 K w = vcF P Try.f75 [a0, a1, a2] w K from by kernel_rfl) h
/- (*spunyarn/wide.Board[*spunyarn/node.Node]).Set -/
abbrev S_wide_Board_Set (a0 : Value) (a1 : Value) (a2 : Value) (K : Value → World → Prop) (w0 : World) : Prop :=
/- 0 1 2 3 -/ XJ (fun J1000 =>
Ret P n_wide_Board_ok [a0] w0 fun v1004 w1005 =>
xNot v1004 fun v1006 =>
xIf v1006 (K (.int .i64 2) w1005) (/- 0 -/ XJ (fun J1007 =>
xAt a0 fun a1011 =>
xIxA (.pointer (some (a1011.add 2))) a1 256 1 fun v1012 =>
xAt v1012 fun a1013 =>
XLd w1005.drew a1013 fun v1014 =>
xEq v1014 (.int .u16 0) fun v1015 =>
xIf v1015 (xAt a0 fun a1016 =>
XLd w1005.drew (a1016.add 1) fun v1017 =>
xAt a0 fun a1018 =>
XLd w1005.drew (a1018.add 0) fun v1019 =>
xEq v1017 v1019 fun v1020 =>
J1007 [v1020] (w1005.drew)) (J1007 [(.bool false)] (w1005.drew))) fun vs1008 g1009 w1010 =>
xIf (vs1008.getD 0 undef) (K (.int .i64 10) w1010) (xAt a0 fun a1021 =>
xIxA (.pointer (some (a1021.add 2))) a1 256 1 fun v1022 =>
xAt v1022 fun a1023 =>
XLd w1010 a1023 fun v1024 =>
xEq v1024 (.int .u16 0) fun v1025 =>
xIf v1025 (xAt a0 fun a1026 =>
Ret P n_wide_Board_place [a0] w1010.drew fun v1027 w1028 =>
xIxA (.pointer (some (a1026.add 2))) a1 256 1 fun v1029 =>
xAt v1029 fun a1031 =>
XSt w1028 a1031 v1027 fun w1030 =>
xAt a0 fun a1032 =>
XLd w1030 (a1032.add 1) fun v1033 =>
xAdd v1033 (.int .i64 1) fun v1034 =>
xAt a0 fun a1035 =>
XSt w1030 (a1035.add 1) v1034 fun w1036 =>
J1000 [v1006, (.int .i64 0), (vs1008.getD 0 undef), v1025] w1036) (J1000 [v1006, (.int .i64 0), (vs1008.getD 0 undef), v1025] w1010)))) fun vs1001 g1002 w1003 =>
xAt a0 fun a1037 =>
XLd w1003.drew (a1037.add 258) fun v1038 =>
xAt a0 fun a1039 =>
xIxA (.pointer (some (a1039.add 2))) a1 256 1 fun v1040 =>
xAt v1040 fun a1041 =>
XLd w1003.drew a1041 fun v1042 =>
xSub v1042 (.int .u16 1) fun v1043 =>
xIxS v1038 v1043 1 fun v1044 =>
xAt v1044 fun a1046 =>
XSt w1003.drew a1046 a2 fun w1045 =>
K (.int .i64 0) w1045
theorem W_wide_Board_Set {a0 a1 a2 : Value} {K : Value → World → Prop} {w : World} (h : S_wide_Board_Set a0 a1 a2 K w) : Ret P n_wide_Board_Set [a0, a1, a2] w K :=
  vcF_of mixed Try.func76 (show S_wide_Board_Set a0 a1 a2 K w = vcF P Try.f76 [a0, a1, a2] w K from by kernel_rfl) h
/- (*spunyarn/small.Row[*spunyarn/node.Node]).ok -/
abbrev S_small_Row_ok (a0 : Value) (K : Value → World → Prop) (w0 : World) : Prop :=
/- 0 -/ XJ (fun J1000 =>
xPNe P w0 a0 (.pointer none) fun v1004 =>
xIf v1004 (xAt a0 fun a1005 =>
XLd w0 (a1005.add 0) fun v1006 =>
xGt v1006 (.int .i64 0) fun v1007 =>
J1000 [v1007] w0) (J1000 [(.bool false)] w0)) fun vs1001 g1002 w1003 =>
K (vs1001.getD 0 undef) w1003
theorem W_small_Row_ok {a0 : Value} {K : Value → World → Prop} {w : World} (h : S_small_Row_ok a0 K w) : Ret P n_small_Row_ok [a0] w K :=
  vcF_of mixed Try.func77 (show S_small_Row_ok a0 K w = vcF P Try.f77 [a0] w K from by kernel_rfl) h
/- (*spunyarn/small.Row[*spunyarn/node.Node]).place -/
abbrev S_small_Row_place (a0 : Value) (a1 : Value) (K : Value → World → Prop) (w0 : World) : Prop :=
xAt a0 fun a1000 =>
xAt a0 fun a1001 =>
XLd w0.drew (a1001.add 1) fun v1002 =>
xCutA 16 1 (.pointer (some (a1000.add 2))) none (some v1002) none fun v1003 =>
Ret P n_slices_BinarySearch_byte [v1003, a1] w0.drew fun v1004 w1005 =>
xTup v1004 0 fun v1006 =>
xTup v1004 1 fun v1007 =>
K (.tuple #[v1006, v1007]) w1005
theorem W_small_Row_place {a0 a1 : Value} {K : Value → World → Prop} {w : World} (h : S_small_Row_place a0 a1 K w) : Ret P n_small_Row_place [a0, a1] w K :=
  vcF_of mixed Try.func78 (show S_small_Row_place a0 a1 K w = vcF P Try.f78 [a0, a1] w K from by kernel_rfl) h
/- (*spunyarn/small.Row[*spunyarn/node.Node]).at -/
abbrev S_small_Row_at (a0 : Value) (a1 : Value) (K : Value → World → Prop) (w0 : World) : Prop :=
/- 0 -/ XJ (fun J1000 =>
xLt a1 (.int .i64 0) fun v1004 =>
xIf v1004 (J1000 [(.bool true)] w0) (xAt a0 fun a1005 =>
XLd w0 (a1005.add 1) fun v1006 =>
xGe a1 v1006 fun v1007 =>
J1000 [v1007] w0)) fun vs1001 g1002 w1003 =>
xIf (vs1001.getD 0 undef) (K (.tuple #[(.int .u8 0), (.pointer none), (.bool false)]) w1003) (xAt a0 fun a1008 =>
xIxA (.pointer (some (a1008.add 2))) a1 16 1 fun v1009 =>
xAt v1009 fun a1010 =>
XLd w1003.drew a1010 fun v1011 =>
xAt a0 fun a1012 =>
xIxA (.pointer (some (a1012.add 18))) a1 16 1 fun v1013 =>
xAt v1013 fun a1014 =>
XLd w1003.drew a1014 fun v1015 =>
xKeep1 w1003.drew v1013 v1015 ∧ (K (.tuple #[v1011, v1015, (.bool true)]) (w1003.drew)))
theorem W_small_Row_at {a0 a1 : Value} {K : Value → World → Prop} {w : World} (h : S_small_Row_at a0 a1 K w) : Ret P n_small_Row_at [a0, a1] w K :=
  vcF_of mixed Try.func79 (show S_small_Row_at a0 a1 K w = vcF P Try.f79 [a0, a1] w K from by kernel_rfl) h
/- (*spunyarn/wide.Board[*spunyarn/node.Node]).ok -/
abbrev S_wide_Board_ok (a0 : Value) (K : Value → World → Prop) (w0 : World) : Prop :=
/- 0 -/ XJ (fun J1000 =>
xPNe P w0 a0 (.pointer none) fun v1004 =>
xIf v1004 (xAt a0 fun a1005 =>
XLd w0 (a1005.add 0) fun v1006 =>
xGt v1006 (.int .i64 0) fun v1007 =>
J1000 [v1007] w0) (J1000 [(.bool false)] w0)) fun vs1001 g1002 w1003 =>
K (vs1001.getD 0 undef) w1003
theorem W_wide_Board_ok {a0 : Value} {K : Value → World → Prop} {w : World} (h : S_wide_Board_ok a0 K w) : Ret P n_wide_Board_ok [a0] w K :=
  vcF_of mixed Try.func80 (show S_wide_Board_ok a0 K w = vcF P Try.f80 [a0] w K from by kernel_rfl) h
/- (*spunyarn/wide.Board[*spunyarn/node.Node]).place -/
abbrev S_wide_Board_place (a0 : Value) (K : Value → World → Prop) (w0 : World) : Prop :=
xAt a0 fun a1000 =>
XLd w0 (a1000.add 259) fun v1001 =>
xLen v1001 fun v1002 =>
xGt v1002 (.int .i64 0) fun v1003 =>
xIf v1003 (xAt a0 fun a1004 =>
XLd w0 (a1004.add 259) fun v1005 =>
xSub v1002 (.int .i64 1) fun v1006 =>
xIxS v1005 v1006 1 fun v1007 =>
xAt v1007 fun a1008 =>
XLd w0 a1008 fun v1009 =>
xAt a0 fun a1010 =>
XLd w0 (a1010.add 259) fun v1011 =>
xSub v1002 (.int .i64 1) fun v1012 =>
xCutS 1 v1011 none (some v1012) none fun v1013 =>
xAt a0 fun a1014 =>
XSt w0 (a1014.add 259) v1013 fun w1015 =>
K v1009 w1015) (xAt a0 fun a1016 =>
XLd w0 (a1016.add 258) fun v1017 =>
xFill (repL [(.pointer none)] 1) [(0, 1, (.pointer none))] fun c1018 =>
XNew w0 c1018 33 fun a1019 w1020 =>
XRun P (Builtin.append_ #[119, 119] 119 #[v1017, (.slice (some a1019) 1 1)]) w1020 fun v1021 w1022 =>
xAt a0 fun a1023 =>
XSt w1022 (a1023.add 258) v1021 fun w1024 =>
xAt a0 fun a1025 =>
XLd w1024 (a1025.add 258) fun v1026 =>
xLen v1026 fun v1027 =>
xConv .u16 v1027 fun v1028 =>
K v1028 w1024)
theorem W_wide_Board_place {a0 : Value} {K : Value → World → Prop} {w : World} (h : S_wide_Board_place a0 K w) : Ret P n_wide_Board_place [a0] w K :=
  vcF_of mixed Try.func81 (show S_wide_Board_place a0 K w = vcF P Try.f81 [a0] w K from by kernel_rfl) h
/- slices.BinarySearch[[]byte,byte] -/
/- S_slices_BinarySearch_byte_l1: 0=slot 7 i 1=slot 8 j 2=slot 9 h -/
def S_slices_BinarySearch_byte_l1 (K : Value → World → Prop) (a0 : Value) (a1 : Value) (v1000 : Value) (I1001 : Nat → List Value → World → Prop) (n1002 : Nat) (vs1003 : List Value) (g1004 : Nat → Value) (w1005 : World) : Prop :=
xLt (vs1003.getD 0 undef) (vs1003.getD 1 undef) fun v1006 =>
xIf v1006 (xAdd (vs1003.getD 0 undef) (vs1003.getD 1 undef) fun v1007 =>
xConv .u64 v1007 fun v1008 =>
xShr v1008 (.int .u64 1) fun v1009 =>
xConv .i64 v1009 fun v1010 =>
xIxS a0 v1010 1 fun v1011 =>
xAt v1011 fun a1012 =>
XLd w1005 a1012 fun v1013 =>
Ret P n_cmp_Less_byte [v1013, a1] w1005 fun v1014 w1015 =>
xIf v1014 (xAdd v1010 (.int .i64 1) fun v1016 =>
XNext I1001 n1002 [v1016, (vs1003.getD 1 undef), v1010] w1015) (XNext I1001 n1002 [(vs1003.getD 0 undef), v1010, v1010] w1015)) (/- 0 1 -/ XJ (fun J1017 =>
xLt (vs1003.getD 0 undef) v1000 fun v1021 =>
xIf v1021 (xIxS a0 (vs1003.getD 0 undef) 1 fun v1022 =>
xAt v1022 fun a1023 =>
XLd w1005 a1023 fun v1024 =>
xEq v1024 a1 fun v1025 =>
xIf v1025 (J1017 [(vs1003.getD 0 undef), (.bool true)] w1005) (xIxS a0 (vs1003.getD 0 undef) 1 fun v1026 =>
xAt v1026 fun a1027 =>
XLd w1005 a1027 fun v1028 =>
Ret P n_slices_isNaN_byte [v1028] w1005 fun v1029 w1030 =>
xIf v1029 (Ret P n_slices_isNaN_byte [a1] w1030 fun v1031 w1032 =>
J1017 [(vs1003.getD 0 undef), v1031] w1032) (J1017 [(vs1003.getD 0 undef), (.bool false)] w1030))) (J1017 [(vs1003.getD 0 undef), (.bool false)] w1005)) fun vs1018 g1019 w1020 =>
K (.tuple #[(vs1018.getD 0 undef), (vs1018.getD 1 undef)]) w1020)
abbrev S_slices_BinarySearch_byte (a0 : Value) (a1 : Value) (K : Value → World → Prop) (w0 : World) : Prop :=
xLen a0 fun v1000 =>
XLoop [(.int .i64 0), v1000, undef] w0 (S_slices_BinarySearch_byte_l1 K a0 a1 v1000)
theorem W_slices_BinarySearch_byte {a0 a1 : Value} {K : Value → World → Prop} {w : World} (h : S_slices_BinarySearch_byte a0 a1 K w) : Ret P n_slices_BinarySearch_byte [a0, a1] w K :=
  vcF_of mixed Try.func82 (show S_slices_BinarySearch_byte a0 a1 K w = vcF P Try.f82 [a0, a1] w K from by kernel_rfl) h
/- cmp.Less[byte] -/
abbrev S_cmp_Less_byte (a0 : Value) (a1 : Value) (K : Value → World → Prop) (w0 : World) : Prop :=
/- 0 -/ XJ (fun J1000 =>
Ret P n_cmp_isNaN_byte [a0] w0 fun v1004 w1005 =>
xIf v1004 (Ret P n_cmp_isNaN_byte [a1] w1005 fun v1006 w1007 =>
xNot v1006 fun v1008 =>
xIf v1008 (J1000 [(.bool true)] w1007) (xLt a0 a1 fun v1009 =>
J1000 [v1009] w1007)) (xLt a0 a1 fun v1010 =>
J1000 [v1010] w1005)) fun vs1001 g1002 w1003 =>
K (vs1001.getD 0 undef) w1003
theorem W_cmp_Less_byte {a0 a1 : Value} {K : Value → World → Prop} {w : World} (h : S_cmp_Less_byte a0 a1 K w) : Ret P n_cmp_Less_byte [a0, a1] w K :=
  vcF_of mixed Try.func83 (show S_cmp_Less_byte a0 a1 K w = vcF P Try.f83 [a0, a1] w K from by kernel_rfl) h
/- slices.isNaN[byte] -/
abbrev S_slices_isNaN_byte (a0 : Value) (K : Value → World → Prop) (w0 : World) : Prop :=
xNe a0 a0 fun v1000 =>
K v1000 w0
theorem W_slices_isNaN_byte {a0 : Value} {K : Value → World → Prop} {w : World} (h : S_slices_isNaN_byte a0 K w) : Ret P n_slices_isNaN_byte [a0] w K :=
  vcF_of mixed Try.func84 (show S_slices_isNaN_byte a0 K w = vcF P Try.f84 [a0] w K from by kernel_rfl) h
/- cmp.isNaN[byte] -/
abbrev S_cmp_isNaN_byte (a0 : Value) (K : Value → World → Prop) (w0 : World) : Prop :=
xNe a0 a0 fun v1000 =>
K v1000 w0
theorem W_cmp_isNaN_byte {a0 : Value} {K : Value → World → Prop} {w : World} (h : S_cmp_isNaN_byte a0 K w) : Ret P n_cmp_isNaN_byte [a0] w K :=
  vcF_of mixed Try.func85 (show S_cmp_isNaN_byte a0 K w = vcF P Try.f85 [a0] w K from by kernel_rfl) h
end Go.Proofs.Ytidkkkdlaclolaa
