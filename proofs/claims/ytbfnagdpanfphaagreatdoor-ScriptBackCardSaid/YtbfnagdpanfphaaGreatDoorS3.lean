/-  Written by gen.py for this claim: of each function a form without frames, the same as the engine's condition by reckoning.  -/
import Derived.Test.YtbfnagdpanfphaaGreatDoorSN
import Derived.Test.YtbfnagdpanfphaaGreatDoorProg
namespace Go.Proofs.YtbfnagdpanfphaaGreatDoor
open Go X
set_option linter.unusedVariables false
set_option maxRecDepth 100000
/- internal/bytealg.hashStr[string] -/
/- S_bytealg_hashStr_string_l1: 0=slot 8 i 1=slot 6 pow 2=slot 7 sq -/
def S_bytealg_hashStr_string_l1 (K : Value → World → Prop) (vs1002 : List Value) (I1013 : Nat → List Value → World → Prop) (n1014 : Nat) (vs1015 : List Value) (g1016 : Nat → Value) (w1017 : World) : Prop :=
xGt (vs1015.getD 0 undef) (.int .i64 0) fun v1018 =>
xIf v1018 (/- 0 pow -/ XJ (fun J1019 =>
xAnd (vs1015.getD 0 undef) (.int .i64 1) fun v1023 =>
xNe v1023 (.int .i64 0) fun v1024 =>
xIf v1024 (xMul (vs1015.getD 1 undef) (vs1015.getD 2 undef) fun v1025 =>
J1019 [v1025] w1017) (J1019 [(vs1015.getD 1 undef)] w1017)) fun vs1020 g1021 w1022 =>
xMul (vs1015.getD 2 undef) (vs1015.getD 2 undef) fun v1026 =>
xShr (vs1015.getD 0 undef) (.int .u64 1) fun v1027 =>
XNext I1013 n1014 [v1027, (vs1020.getD 0 undef), v1026] w1022) (K (.tuple #[(vs1002.getD 1 undef), (vs1015.getD 1 undef)]) w1017)
/- S_bytealg_hashStr_string_l2: 0=slot 5 i 1=slot 4 hash -/
def S_bytealg_hashStr_string_l2 (K : Value → World → Prop) (a0 : Value) (I1000 : Nat → List Value → World → Prop) (n1001 : Nat) (vs1002 : List Value) (g1003 : Nat → Value) (w1004 : World) : Prop :=
xLenS a0 fun v1005 =>
xLt (vs1002.getD 0 undef) v1005 fun v1006 =>
xIf v1006 (xMul (vs1002.getD 1 undef) (.int .u32 16777619) fun v1007 =>
xIxStr a0 (vs1002.getD 0 undef) fun v1008 =>
xConv .u32 v1008 fun v1009 =>
xAdd v1007 v1009 fun v1010 =>
xAdd (vs1002.getD 0 undef) (.int .i64 1) fun v1011 =>
XNext I1000 n1001 [v1011, v1010] w1004) (xLenS a0 fun v1012 =>
XLoop [v1012, (.int .u32 1), (.int .u32 16777619)] w1004 (S_bytealg_hashStr_string_l1 K vs1002))
abbrev S_bytealg_hashStr_string (a0 : Value) (K : Value → World → Prop) (w0 : World) : Prop :=
XLoop [(.int .i64 0), (.int .u32 0)] w0 (S_bytealg_hashStr_string_l2 K a0)
theorem W_bytealg_hashStr_string {a0 : Value} {K : Value → World → Prop} {w : World} (h : S_bytealg_hashStr_string a0 K w) : Ret P n_bytealg_hashStr_string [a0] w K :=
  vcF_of mixed Tryz.func111 (show S_bytealg_hashStr_string a0 K w = vcF P Tryz.f111 [a0] w K from by kernel_rfl) h
/- internal/strconv.log10Pow2 -/
abbrev S_istrconv_log10Pow2 (a0 : Value) (K : Value → World → Prop) (w0 : World) : Prop :=
xMul a0 (.int .i64 78913) fun v1000 =>
xShr v1000 (.int .u64 18) fun v1001 =>
K v1001 w0
theorem W_istrconv_log10Pow2 {a0 : Value} {K : Value → World → Prop} {w : World} (h : S_istrconv_log10Pow2 a0 K w) : Ret P n_istrconv_log10Pow2 [a0] w K :=
  vcF_of mixed Tryz.func112 (show S_istrconv_log10Pow2 a0 K w = vcF P Tryz.f112 [a0] w K from by kernel_rfl) h
/- math/bits.Len64 -/
abbrev S_bits_Len64 (a0 : Value) (K : Value → World → Prop) (w0 : World) : Prop :=
/- 0 x 1 n -/ XJ (fun J1000 =>
xGe a0 (.int .u64 4294967296) fun v1004 =>
xIf v1004 (xShr a0 (.int .u64 32) fun v1005 =>
J1000 [v1005, (.int .i64 32)] w0) (J1000 [a0, (.int .i64 0)] w0)) fun vs1001 g1002 w1003 =>
/- 0 x 1 n -/ XJ (fun J1006 =>
xGe (vs1001.getD 0 undef) (.int .u64 65536) fun v1010 =>
xIf v1010 (xShr (vs1001.getD 0 undef) (.int .u64 16) fun v1011 =>
xAdd (vs1001.getD 1 undef) (.int .i64 16) fun v1012 =>
J1006 [v1011, v1012] w1003) (J1006 [(vs1001.getD 0 undef), (vs1001.getD 1 undef)] w1003)) fun vs1007 g1008 w1009 =>
/- 0 x 1 n -/ XJ (fun J1013 =>
xGe (vs1007.getD 0 undef) (.int .u64 256) fun v1017 =>
xIf v1017 (xShr (vs1007.getD 0 undef) (.int .u64 8) fun v1018 =>
xAdd (vs1007.getD 1 undef) (.int .i64 8) fun v1019 =>
J1013 [v1018, v1019] w1009) (J1013 [(vs1007.getD 0 undef), (vs1007.getD 1 undef)] w1009)) fun vs1014 g1015 w1016 =>
xConv .u8 (vs1014.getD 0 undef) fun v1020 =>
xIxStr (.string ⟨#[0, 1, 2, 2, 3, 3, 3, 3, 4, 4, 4, 4, 4, 4, 4, 4, 5, 5, 5, 5, 5, 5, 5, 5, 5, 5, 5, 5, 5, 5, 5, 5, 6, 6, 6, 6, 6, 6, 6, 6, 6, 6, 6, 6, 6, 6, 6, 6, 6, 6, 6, 6, 6, 6, 6, 6, 6, 6, 6, 6, 6, 6, 6, 6, 7, 7, 7, 7, 7, 7, 7, 7, 7, 7, 7, 7, 7, 7, 7, 7, 7, 7, 7, 7, 7, 7, 7, 7, 7, 7, 7, 7, 7, 7, 7, 7, 7, 7, 7, 7, 7, 7, 7, 7, 7, 7, 7, 7, 7, 7, 7, 7, 7, 7, 7, 7, 7, 7, 7, 7, 7, 7, 7, 7, 7, 7, 7, 7, 8, 8, 8, 8, 8, 8, 8, 8, 8, 8, 8, 8, 8, 8, 8, 8, 8, 8, 8, 8, 8, 8, 8, 8, 8, 8, 8, 8, 8, 8, 8, 8, 8, 8, 8, 8, 8, 8, 8, 8, 8, 8, 8, 8, 8, 8, 8, 8, 8, 8, 8, 8, 8, 8, 8, 8, 8, 8, 8, 8, 8, 8, 8, 8, 8, 8, 8, 8, 8, 8, 8, 8, 8, 8, 8, 8, 8, 8, 8, 8, 8, 8, 8, 8, 8, 8, 8, 8, 8, 8, 8, 8, 8, 8, 8, 8, 8, 8, 8, 8, 8, 8, 8, 8, 8, 8, 8, 8, 8, 8, 8, 8, 8, 8, 8, 8, 8, 8, 8, 8, 8, 8, 8, 8, 8, 8, 8, 8]⟩) v1020 fun v1021 =>
xConv .i64 v1021 fun v1022 =>
xAdd (vs1014.getD 1 undef) v1022 fun v1023 =>
K v1023 w1016
theorem W_bits_Len64 {a0 : Value} {K : Value → World → Prop} {w : World} (h : S_bits_Len64 a0 K w) : Ret P n_bits_Len64 [a0] w K :=
  vcF_of mixed Tryz.func113 (show S_bits_Len64 a0 K w = vcF P Tryz.f113 [a0] w K from by kernel_rfl) h
/- internal/strconv.bool2[int] -/
abbrev S_istrconv_bool2_int (a0 : Value) (K : Value → World → Prop) (w0 : World) : Prop :=
xIf a0 (K (.int .i64 1) w0) (K (.int .i64 0) w0)
theorem W_istrconv_bool2_int {a0 : Value} {K : Value → World → Prop} {w : World} (h : S_istrconv_bool2_int a0 K w) : Ret P n_istrconv_bool2_int [a0] w K :=
  vcF_of mixed Tryz.func114 (show S_istrconv_bool2_int a0 K w = vcF P Tryz.f114 [a0] w K from by kernel_rfl) h
/- internal/strconv.isPowerOfTwo -/
abbrev S_istrconv_isPowerOfTwo (a0 : Value) (K : Value → World → Prop) (w0 : World) : Prop :=
xSub a0 (.int .i64 1) fun v1000 =>
xAnd a0 v1000 fun v1001 =>
xEq v1001 (.int .i64 0) fun v1002 =>
K v1002 w0
theorem W_istrconv_isPowerOfTwo {a0 : Value} {K : Value → World → Prop} {w : World} (h : S_istrconv_isPowerOfTwo a0 K w) : Ret P n_istrconv_isPowerOfTwo [a0] w K :=
  vcF_of mixed Tryz.func115 (show S_istrconv_isPowerOfTwo a0 K w = vcF P Tryz.f115 [a0] w K from by kernel_rfl) h
/- math/bits.TrailingZeros -/
abbrev S_bits_TrailingZeros (a0 : Value) (K : Value → World → Prop) (w0 : World) : Prop :=
Ret P n_bits_TrailingZeros64 [a0] w0 fun v1000 w1001 =>
K v1000 w1001
theorem W_bits_TrailingZeros {a0 : Value} {K : Value → World → Prop} {w : World} (h : S_bits_TrailingZeros a0 K w) : Ret P n_bits_TrailingZeros [a0] w K :=
  vcF_of mixed Tryz.func116 (show S_bits_TrailingZeros a0 K w = vcF P Tryz.f116 [a0] w K from by kernel_rfl) h
/- internal/stringslite.Clone -/
abbrev S_stringslite_Clone (a0 : Value) (K : Value → World → Prop) (w0 : World) : Prop :=
xLenS a0 fun v1000 =>
xEq v1000 (.int .i64 0) fun v1001 =>
xIf v1001 (K (.string ⟨#[]⟩) w0) (xLenS a0 fun v1002 =>
XRun P (Instr.makeSlice 22 v1002 v1002) w0 fun v1003 w1004 =>
XRun P (Builtin.copy_ #[22, 9] 3 #[v1003, a0]) w1004 fun v1005 w1006 =>
xIxS v1003 (.int .i64 0) 1 fun v1007 =>
xLen v1003 fun v1008 =>
XRun P (Builtin.unsafeString_ #[111, 3] 9 #[v1007, v1008]) w1006 fun v1009 w1010 =>
K v1009 w1010)
theorem W_stringslite_Clone {a0 : Value} {K : Value → World → Prop} {w : World} (h : S_stringslite_Clone a0 K w) : Ret P n_stringslite_Clone [a0] w K :=
  vcF_of mixed Tryz.func117 (show S_stringslite_Clone a0 K w = vcF P Tryz.f117 [a0] w K from by kernel_rfl) h
/- errors.New -/
abbrev S_errors_New (a0 : Value) (K : Value → World → Prop) (w0 : World) : Prop :=
xFill [(.string ⟨#[]⟩)] [(0, 1, a0)] fun c1000 =>
XNew w0 (cellsV (.agg c1000.toArray)) 168 fun a1001 w1002 =>
XRun P (Instr.makeInterface 166 (.pointer (some a1001))) w1002 fun v1003 w1004 =>
K v1003 w1004
theorem W_errors_New {a0 : Value} {K : Value → World → Prop} {w : World} (h : S_errors_New a0 K w) : Ret P n_errors_New [a0] w K :=
  vcF_of mixed Tryz.func118 (show S_errors_New a0 K w = vcF P Tryz.f118 [a0] w K from by kernel_rfl) h
/- math/bits.TrailingZeros32 -/
abbrev S_bits_TrailingZeros32 (a0 : Value) (K : Value → World → Prop) (w0 : World) : Prop :=
xEq a0 (.int .u32 0) fun v1000 =>
xIf v1000 (K (.int .i64 32) w0) (xNeg a0 fun v1001 =>
xAnd a0 v1001 fun v1002 =>
xMul v1002 (.int .u32 125613361) fun v1003 =>
xShr v1003 (.int .u64 27) fun v1004 =>
xIxA (.pointer (some ⟨6, 0, none⟩)) v1004 32 1 fun v1005 =>
xAt v1005 fun a1006 =>
XLd w0 a1006 fun v1007 =>
xConv .i64 v1007 fun v1008 =>
K v1008 w0)
theorem W_bits_TrailingZeros32 {a0 : Value} {K : Value → World → Prop} {w : World} (h : S_bits_TrailingZeros32 a0 K w) : Ret P n_bits_TrailingZeros32 [a0] w K :=
  vcF_of mixed Tryz.func119 (show S_bits_TrailingZeros32 a0 K w = vcF P Tryz.f119 [a0] w K from by kernel_rfl) h
/- math/bits.TrailingZeros64 -/
abbrev S_bits_TrailingZeros64 (a0 : Value) (K : Value → World → Prop) (w0 : World) : Prop :=
xEq a0 (.int .u64 0) fun v1000 =>
xIf v1000 (K (.int .i64 64) w0) (xNeg a0 fun v1001 =>
xAnd a0 v1001 fun v1002 =>
xMul v1002 (.int .u64 285870213051353865) fun v1003 =>
xShr v1003 (.int .u64 58) fun v1004 =>
xIxA (.pointer (some ⟨7, 0, none⟩)) v1004 64 1 fun v1005 =>
xAt v1005 fun a1006 =>
XLd w0 a1006 fun v1007 =>
xConv .i64 v1007 fun v1008 =>
K v1008 w0)
theorem W_bits_TrailingZeros64 {a0 : Value} {K : Value → World → Prop} {w : World} (h : S_bits_TrailingZeros64 a0 K w) : Ret P n_bits_TrailingZeros64 [a0] w K :=
  vcF_of mixed Tryz.func120 (show S_bits_TrailingZeros64 a0 K w = vcF P Tryz.f120 [a0] w K from by kernel_rfl) h
end Go.Proofs.YtbfnagdpanfphaaGreatDoor
