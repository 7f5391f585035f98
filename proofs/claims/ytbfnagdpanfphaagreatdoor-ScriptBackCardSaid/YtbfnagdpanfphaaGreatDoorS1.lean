/-  Written by gen.py for this claim: of each function a form without frames, the same as the engine's condition by reckoning.  -/
import Derived.Test.YtbfnagdpanfphaaGreatDoorSN
import Derived.Test.YtbfnagdpanfphaaGreatDoorProg
namespace Go.Proofs.YtbfnagdpanfphaaGreatDoor
open Go X
set_option linter.unusedVariables false
set_option maxRecDepth 100000
/- (*strings.Builder).Grow -/
abbrev S_strings_Builder_Grow (a0 : Value) (a1 : Value) (K : Value → World → Prop) (w0 : World) : Prop :=
Ret P n_strings_Builder_copyCheck [a0] w0 fun v1000 w1001 =>
/-  -/ XJ (fun J1002 =>
xLt a1 (.int .i64 0) fun v1006 =>
xIf v1006 (XRun P (Instr.makeInterface 9 (.string ⟨#[115, 116, 114, 105, 110, 103, 115, 46, 66, 117, 105, 108, 100, 101, 114, 46, 71, 114, 111, 119, 58, 32, 110, 101, 103, 97, 116, 105, 118, 101, 32, 99, 111, 117, 110, 116]⟩)) w1001 fun v1007 w1008 =>
False) (J1002 [] w1001)) fun vs1003 g1004 w1005 =>
xAt a0 fun a1009 =>
XLd w1005.drew (a1009.add 1) fun v1010 =>
xCap v1010 fun v1011 =>
xAt a0 fun a1012 =>
XLd w1005.drew (a1012.add 1) fun v1013 =>
xLen v1013 fun v1014 =>
xSub v1011 v1014 fun v1015 =>
xLt v1015 a1 fun v1016 =>
xIf v1016 (Ret P n_strings_Builder_grow [a0, a1] w1005.drew fun v1017 w1018 =>
K (.tuple #[]) w1018) (K (.tuple #[]) (w1005.drew))
theorem W_strings_Builder_Grow {a0 a1 : Value} {K : Value → World → Prop} {w : World} (h : S_strings_Builder_Grow a0 a1 K w) : Ret P n_strings_Builder_Grow [a0, a1] w K :=
  vcF_of mixed Tryz.func40 (show S_strings_Builder_Grow a0 a1 K w = vcF P Tryz.f40 [a0, a1] w K from by kernel_rfl) h
/- (*strings.Builder).WriteString -/
abbrev S_strings_Builder_WriteString (a0 : Value) (a1 : Value) (K : Value → World → Prop) (w0 : World) : Prop :=
Ret P n_strings_Builder_copyCheck [a0] w0 fun v1000 w1001 =>
xAt a0 fun a1002 =>
XLd w1001 (a1002.add 1) fun v1003 =>
XRun P (Builtin.append_ #[22, 9] 22 #[v1003, a1]) w1001 fun v1004 w1005 =>
xAt a0 fun a1006 =>
XSt w1005 (a1006.add 1) v1004 fun w1007 =>
xLenS a1 fun v1008 =>
K (.tuple #[v1008, .nilIface]) w1007
theorem W_strings_Builder_WriteString {a0 a1 : Value} {K : Value → World → Prop} {w : World} (h : S_strings_Builder_WriteString a0 a1 K w) : Ret P n_strings_Builder_WriteString [a0, a1] w K :=
  vcF_of mixed Tryz.func41 (show S_strings_Builder_WriteString a0 a1 K w = vcF P Tryz.f41 [a0, a1] w K from by kernel_rfl) h
/- (*strings.Builder).String -/
abbrev S_strings_Builder_String (a0 : Value) (K : Value → World → Prop) (w0 : World) : Prop :=
xAt a0 fun a1000 =>
XLd w0.drew (a1000.add 1) fun v1001 =>
xAt a0 fun a1002 =>
XLd w0.drew (a1002.add 1) fun v1003 =>
xLen v1003 fun v1004 =>
XRun P (Builtin.unsafeSliceData_ #[22] 111 #[v1001]) w0.drew fun v1005 w1006 =>
xKeep1 w1006 (.pointer (some (a1002.add 1))) v1003 ∧ (XRun P (Builtin.unsafeString_ #[111, 3] 9 #[v1005, v1004]) w1006 fun v1007 w1008 =>
K v1007 w1008)
theorem W_strings_Builder_String {a0 : Value} {K : Value → World → Prop} {w : World} (h : S_strings_Builder_String a0 K w) : Ret P n_strings_Builder_String [a0] w K :=
  vcF_of mixed Tryz.func42 (show S_strings_Builder_String a0 K w = vcF P Tryz.f42 [a0] w K from by kernel_rfl) h
/- spunyarn/spunyarnref36.TellNumber -/
abbrev S_ref36_TellNumber (a0 : Value) (K : Value → World → Prop) (w0 : World) : Prop :=
/- 0 -/ XJ (fun J1000 =>
xGt a0 (.int .i64 999999999) fun v1004 =>
xIf v1004 (J1000 [(.bool true)] w0) (xLt a0 (.int .i64 (-999999999)) fun v1005 =>
J1000 [v1005] w0)) fun vs1001 g1002 w1003 =>
xIf (vs1001.getD 0 undef) (K (.tuple #[(.string ⟨#[]⟩), (.int .i64 8)]) w1003) (xLt a0 (.int .i64 0) fun v1006 =>
xIf v1006 (xNeg a0 fun v1007 =>
xConv .u64 v1007 fun v1008 =>
Ret P n_ref13_Digits [v1008] w1003 fun v1009 w1010 =>
xSCat (.string ⟨#[45]⟩) v1009 fun v1011 =>
K (.tuple #[v1011, (.int .i64 0)]) w1010) (xConv .u64 a0 fun v1012 =>
Ret P n_ref13_Digits [v1012] w1003 fun v1013 w1014 =>
K (.tuple #[v1013, (.int .i64 0)]) w1014))
theorem W_ref36_TellNumber {a0 : Value} {K : Value → World → Prop} {w : World} (h : S_ref36_TellNumber a0 K w) : Ret P n_ref36_TellNumber [a0] w K :=
  vcF_of mixed Tryz.func43 (show S_ref36_TellNumber a0 K w = vcF P Tryz.f43 [a0] w K from by kernel_rfl) h
/- spunyarn/spunyarnref36.TellKey -/
abbrev S_ref36_TellKey (a0 : Value) (K : Value → World → Prop) (w0 : World) : Prop :=
xLen a0 fun v1000 =>
xGt v1000 (.int .i64 65535) fun v1001 =>
xIf v1001 (K (.tuple #[(.string ⟨#[]⟩), (.int .i64 8)]) w0) (xLen a0 fun v1002 =>
xEq v1002 (.int .i64 0) fun v1003 =>
xIf v1003 (K (.tuple #[(.string ⟨#[45]⟩), (.int .i64 0)]) w0) (Ret P n_ref01_Text [a0] w0 fun v1004 w1005 =>
K (.tuple #[v1004, (.int .i64 0)]) w1005))
theorem W_ref36_TellKey {a0 : Value} {K : Value → World → Prop} {w : World} (h : S_ref36_TellKey a0 K w) : Ret P n_ref36_TellKey [a0] w K :=
  vcF_of mixed Tryz.func44 (show S_ref36_TellKey a0 K w = vcF P Tryz.f44 [a0] w K from by kernel_rfl) h
/- spunyarn/spunyarnref13.Digits -/
/- S_ref13_Digits_l1: 0=slot 0 n 1=slot 4 d 2=slot 3 s 3=slot 2 -/
def S_ref13_Digits_l1 (K : Value → World → Prop) (I1000 : Nat → List Value → World → Prop) (n1001 : Nat) (vs1002 : List Value) (g1003 : Nat → Value) (w1004 : World) : Prop :=
xRem (vs1002.getD 0 undef) (.int .u64 10) fun v1005 =>
xConv .i64 v1005 fun v1006 =>
xAdd v1006 (.int .i64 1) fun v1007 =>
xCutStr (.string ⟨#[48, 49, 50, 51, 52, 53, 54, 55, 56, 57]⟩) (some v1006) (some v1007) fun v1008 =>
xSCat v1008 (vs1002.getD 2 undef) fun v1009 =>
xQuo (vs1002.getD 0 undef) (.int .u64 10) fun v1010 =>
xEq v1010 (.int .u64 0) fun v1011 =>
xIf v1011 (K v1009 w1004) (XNext I1000 n1001 [v1010, v1006, v1009, (vs1002.getD 3 undef)] w1004)
abbrev S_ref13_Digits (a0 : Value) (K : Value → World → Prop) (w0 : World) : Prop :=
XLoop [a0, undef, (.string ⟨#[]⟩), (.string ⟨#[]⟩)] w0 (S_ref13_Digits_l1 K)
theorem W_ref13_Digits {a0 : Value} {K : Value → World → Prop} {w : World} (h : S_ref13_Digits a0 K w) : Ret P n_ref13_Digits [a0] w K :=
  vcF_of mixed Tryz.func45 (show S_ref13_Digits a0 K w = vcF P Tryz.f45 [a0] w K from by kernel_rfl) h
/- spunyarn/spunyarnref36.TellPairs -/
/- S_ref36_TellPairs_l1: 0=slot 5 i 1=slot 6 k 2=slot 7 e 3=slot 2 4=slot 3 5=slot 4 out -/
def S_ref36_TellPairs_l1 (K : Value → World → Prop) (a0 : Value) (I1002 : Nat → List Value → World → Prop) (n1003 : Nat) (vs1004 : List Value) (g1005 : Nat → Value) (w1006 : World) : Prop :=
xLen a0 fun v1007 =>
xLt (vs1004.getD 0 undef) v1007 fun v1008 =>
xIf v1008 (xIxS a0 (vs1004.getD 0 undef) 2 fun v1009 =>
xFld v1009 0 fun v1010 =>
xAt v1010 fun a1011 =>
XLd w1006 a1011 fun v1012 =>
Ret P n_ref36_TellKey [v1012] w1006 fun v1013 w1014 =>
xTup v1013 0 fun v1015 =>
xTup v1013 1 fun v1016 =>
xNe v1016 (.int .i64 0) fun v1017 =>
xIf v1017 (K (.tuple #[(.string ⟨#[]⟩), v1016]) w1014) (/- 0 out -/ XJ (fun J1018 =>
xGt (vs1004.getD 0 undef) (.int .i64 0) fun v1022 =>
xIf v1022 (xSCat (vs1004.getD 5 undef) (.string ⟨#[44]⟩) fun v1023 =>
J1018 [v1023] w1014) (J1018 [(vs1004.getD 5 undef)] w1014)) fun vs1019 g1020 w1021 =>
xSCat v1015 (.string ⟨#[61]⟩) fun v1024 =>
xIxS a0 (vs1004.getD 0 undef) 2 fun v1025 =>
xFld v1025 1 fun v1026 =>
xAt v1026 fun a1027 =>
XLd w1021 a1027 fun v1028 =>
Ret P n_ref13_Digits [v1028] w1021 fun v1029 w1030 =>
xSCat v1024 v1029 fun v1031 =>
xSCat (vs1019.getD 0 undef) v1031 fun v1032 =>
xAdd (vs1004.getD 0 undef) (.int .i64 1) fun v1033 =>
XNext I1002 n1003 [v1033, v1015, v1016, (vs1004.getD 3 undef), (vs1004.getD 4 undef), v1032] w1030)) (K (.tuple #[(vs1004.getD 5 undef), (.int .i64 0)]) w1006)
abbrev S_ref36_TellPairs (a0 : Value) (K : Value → World → Prop) (w0 : World) : Prop :=
xLen a0 fun v1000 =>
xEq v1000 (.int .i64 0) fun v1001 =>
xIf v1001 (K (.tuple #[(.string ⟨#[45]⟩), (.int .i64 0)]) w0) (XLoop [(.int .i64 0), undef, undef, (.string ⟨#[]⟩), (.int .i64 0), (.string ⟨#[]⟩)] w0 (S_ref36_TellPairs_l1 K a0))
theorem W_ref36_TellPairs {a0 : Value} {K : Value → World → Prop} {w : World} (h : S_ref36_TellPairs a0 K w) : Ret P n_ref36_TellPairs [a0] w K :=
  vcF_of mixed Tryz.func46 (show S_ref36_TellPairs a0 K w = vcF P Tryz.f46 [a0] w K from by kernel_rfl) h
/- spunyarn/spunyarnref36.TellChanges -/
/- S_ref36_TellChanges_l1: 0=slot 5 i 1=slot 7 k 2=slot 8 e 3=slot 2 4=slot 3 5=slot 4 out 6=slot 49 7=slot 58 8=slot 77 9=slot 90 -/
def S_ref36_TellChanges_l1 (K : Value → World → Prop) (a0 : Value) (I1002 : Nat → List Value → World → Prop) (n1003 : Nat) (vs1004 : List Value) (g1005 : Nat → Value) (w1006 : World) : Prop :=
xLen a0 fun v1007 =>
xLt (vs1004.getD 0 undef) v1007 fun v1008 =>
xIf v1008 (/- 0 k 1 e 2 3 4 out 5 6 7 8 -/ XJ (fun J1009 =>
xIxS a0 (vs1004.getD 0 undef) 4 fun v1013 =>
xAt v1013 fun a1014 =>
XLdN w1006 a1014 4 fun v1015 =>
XNew w1006 [(.slice none 0 0), (.int .i64 0), (.int .u64 0), (.int .u64 0)] 52 fun a1016 w1017 =>
XDo P (storeVar 52 a1016 v1015) w1017 fun w1018 =>
XLd w1018 (a1016.add 0) fun v1019 =>
Ret P n_ref36_TellKey [v1019] w1018 fun v1020 w1021 =>
xTup v1020 0 fun v1022 =>
xTup v1020 1 fun v1023 =>
xNe v1023 (.int .i64 0) fun v1024 =>
xIf v1024 (K (.tuple #[(.string ⟨#[]⟩), v1023]) w1021) (/- 0 out -/ XJ (fun J1025 =>
xGt (vs1004.getD 0 undef) (.int .i64 0) fun v1029 =>
xIf v1029 (xSCat (vs1004.getD 5 undef) (.string ⟨#[44]⟩) fun v1030 =>
J1025 [v1030] w1021) (J1025 [(vs1004.getD 5 undef)] w1021)) fun vs1026 g1027 w1028 =>
/- 0 -/ XJ (fun J1031 =>
XLd w1028 (a1016.add 1) fun v1035 =>
xLt v1035 (.int .i64 1) fun v1036 =>
xIf v1036 (J1031 [(.bool true)] w1028) (XLd w1028 (a1016.add 1) fun v1037 =>
xGt v1037 (.int .i64 3) fun v1038 =>
J1031 [v1038] w1028)) fun vs1032 g1033 w1034 =>
xIf (vs1032.getD 0 undef) (K (.tuple #[(.string ⟨#[]⟩), (.int .i64 9)]) w1034) (/- 0 -/ XJ (fun J1039 =>
XLd w1034 (a1016.add 1) fun v1043 =>
xEq v1043 (.int .i64 1) fun v1044 =>
xIf v1044 (XLd w1034 (a1016.add 2) fun v1045 =>
xNe v1045 (.int .u64 0) fun v1046 =>
xIf v1046 (J1039 [(.bool true)] w1034) (XLd w1034 (a1016.add 1) fun v1047 =>
xEq v1047 (.int .i64 2) fun v1048 =>
xIf v1048 (XLd w1034 (a1016.add 3) fun v1049 =>
xNe v1049 (.int .u64 0) fun v1050 =>
J1039 [v1050] w1034) (J1039 [(.bool false)] w1034))) (XLd w1034 (a1016.add 1) fun v1051 =>
xEq v1051 (.int .i64 2) fun v1052 =>
xIf v1052 (XLd w1034 (a1016.add 3) fun v1053 =>
xNe v1053 (.int .u64 0) fun v1054 =>
J1039 [v1054] w1034) (J1039 [(.bool false)] w1034))) fun vs1040 g1041 w1042 =>
xIf (vs1040.getD 0 undef) (K (.tuple #[(.string ⟨#[]⟩), (.int .i64 3)]) w1042) (XLd w1042 (a1016.add 1) fun v1055 =>
xEq v1055 (.int .i64 1) fun v1056 =>
xIf v1056 (xSCat (.string ⟨#[43]⟩) v1022 fun v1057 =>
xSCat v1057 (.string ⟨#[61]⟩) fun v1058 =>
XLd w1042 (a1016.add 3) fun v1059 =>
Ret P n_ref13_Digits [v1059] w1042 fun v1060 w1061 =>
xSCat v1058 v1060 fun v1062 =>
xSCat (vs1026.getD 0 undef) v1062 fun v1063 =>
J1009 [v1022, v1023, (vs1004.getD 3 undef), (vs1004.getD 4 undef), v1063, (vs1032.getD 0 undef), (vs1040.getD 0 undef), v1056, (vs1004.getD 9 undef)] w1061) (XLd w1042 (a1016.add 1) fun v1064 =>
xEq v1064 (.int .i64 2) fun v1065 =>
xIf v1065 (xSCat (.string ⟨#[45]⟩) v1022 fun v1066 =>
xSCat v1066 (.string ⟨#[61]⟩) fun v1067 =>
XLd w1042 (a1016.add 2) fun v1068 =>
Ret P n_ref13_Digits [v1068] w1042 fun v1069 w1070 =>
xSCat v1067 v1069 fun v1071 =>
xSCat (vs1026.getD 0 undef) v1071 fun v1072 =>
J1009 [v1022, v1023, (vs1004.getD 3 undef), (vs1004.getD 4 undef), v1072, (vs1032.getD 0 undef), (vs1040.getD 0 undef), v1056, v1065] w1070) (xSCat (.string ⟨#[126]⟩) v1022 fun v1073 =>
xSCat v1073 (.string ⟨#[61]⟩) fun v1074 =>
XLd w1042.drew (a1016.add 2) fun v1075 =>
XLd w1042.drew (a1016.add 3) fun v1076 =>
Ret P n_ref13_Digits [v1075] w1042.drew fun v1077 w1078 =>
xKeep1 w1078 (.pointer (some (a1016.add 3))) v1076 ∧ (xSCat v1074 v1077 fun v1079 =>
xSCat v1079 (.string ⟨#[62]⟩) fun v1080 =>
Ret P n_ref13_Digits [v1076] w1078 fun v1081 w1082 =>
xSCat v1080 v1081 fun v1083 =>
xSCat (vs1026.getD 0 undef) v1083 fun v1084 =>
J1009 [v1022, v1023, (vs1004.getD 3 undef), (vs1004.getD 4 undef), v1084, (vs1032.getD 0 undef), (vs1040.getD 0 undef), v1056, v1065] w1082))))))) fun vs1010 g1011 w1012 =>
xAdd (vs1004.getD 0 undef) (.int .i64 1) fun v1085 =>
XNext I1002 n1003 [v1085, (vs1010.getD 0 undef), (vs1010.getD 1 undef), (vs1010.getD 2 undef), (vs1010.getD 3 undef), (vs1010.getD 4 undef), (vs1010.getD 5 undef), (vs1010.getD 6 undef), (vs1010.getD 7 undef), (vs1010.getD 8 undef)] w1012) (K (.tuple #[(vs1004.getD 5 undef), (.int .i64 0)]) w1006)
abbrev S_ref36_TellChanges (a0 : Value) (K : Value → World → Prop) (w0 : World) : Prop :=
xLen a0 fun v1000 =>
xEq v1000 (.int .i64 0) fun v1001 =>
xIf v1001 (K (.tuple #[(.string ⟨#[45]⟩), (.int .i64 0)]) w0) (XLoop [(.int .i64 0), undef, undef, (.string ⟨#[]⟩), (.int .i64 0), (.string ⟨#[]⟩), undef, undef, undef, undef] w0 (S_ref36_TellChanges_l1 K a0))
theorem W_ref36_TellChanges {a0 : Value} {K : Value → World → Prop} {w : World} (h : S_ref36_TellChanges a0 K w) : Ret P n_ref36_TellChanges [a0] w K :=
  vcF_of mixed Tryz.func47 (show S_ref36_TellChanges a0 K w = vcF P Tryz.f47 [a0] w K from by kernel_rfl) h
/- spunyarn/spunyarnref01.Cmp -/
abbrev S_ref01_Cmp (a0 : Value) (a1 : Value) (K : Value → World → Prop) (w0 : World) : Prop :=
Ret P n_ref01_Common [a0, a1] w0 fun v1000 w1001 =>
/- 0 -/ XJ (fun J1002 =>
xLen a0 fun v1006 =>
xEq v1000 v1006 fun v1007 =>
xIf v1007 (xLen a1 fun v1008 =>
xEq v1000 v1008 fun v1009 =>
J1002 [v1009] w1001) (J1002 [(.bool false)] w1001)) fun vs1003 g1004 w1005 =>
xIf (vs1003.getD 0 undef) (K (.int .i64 0) w1005) (xLen a0 fun v1010 =>
xEq v1000 v1010 fun v1011 =>
xIf v1011 (K (.int .i64 (-1)) w1005) (xLen a1 fun v1012 =>
xEq v1000 v1012 fun v1013 =>
xIf v1013 (K (.int .i64 1) w1005) (xIxS a0 v1000 1 fun v1014 =>
xAt v1014 fun a1015 =>
XLd w1005.drew a1015 fun v1016 =>
xIxS a1 v1000 1 fun v1017 =>
xAt v1017 fun a1018 =>
XLd w1005.drew a1018 fun v1019 =>
xLt v1016 v1019 fun v1020 =>
xIf v1020 (K (.int .i64 (-1)) (w1005.drew)) (K (.int .i64 1) (w1005.drew)))))
theorem W_ref01_Cmp {a0 a1 : Value} {K : Value → World → Prop} {w : World} (h : S_ref01_Cmp a0 a1 K w) : Ret P n_ref01_Cmp [a0, a1] w K :=
  vcF_of mixed Tryz.func48 (show S_ref01_Cmp a0 a1 K w = vcF P Tryz.f48 [a0, a1] w K from by kernel_rfl) h
/- strings.genSplit -/
/- S_strings_genSplit_l1: 0=slot 10 i 1=slot 0 s 2=slot 11 m -/
def S_strings_genSplit_l1 (a1 : Value) (a2 : Value) (v1015 : Value) (v1017 : Value) (J1018 : List Value → World → Prop) (I1022 : Nat → List Value → World → Prop) (n1023 : Nat) (vs1024 : List Value) (g1025 : Nat → Value) (w1026 : World) : Prop :=
xLt (vs1024.getD 0 undef) v1017 fun v1027 =>
xIf v1027 (Ret P n_strings_Index [(vs1024.getD 1 undef), a1] w1026 fun v1028 w1029 =>
xLt v1028 (.int .i64 0) fun v1030 =>
xIf v1030 (J1018 [v1028, (vs1024.getD 1 undef), (vs1024.getD 0 undef)] w1029) (xAdd v1028 a2 fun v1031 =>
xCutStr (vs1024.getD 1 undef) none (some v1031) fun v1032 =>
xIxS v1015 (vs1024.getD 0 undef) 1 fun v1033 =>
xAt v1033 fun a1035 =>
XSt w1029 a1035 v1032 fun w1034 =>
xLenS a1 fun v1036 =>
xAdd v1028 v1036 fun v1037 =>
xCutStr (vs1024.getD 1 undef) (some v1037) none fun v1038 =>
xAdd (vs1024.getD 0 undef) (.int .i64 1) fun v1039 =>
XNext I1022 n1023 [v1039, v1038, v1028] w1034)) (J1018 [(vs1024.getD 2 undef), (vs1024.getD 1 undef), (vs1024.getD 0 undef)] w1026)
abbrev S_strings_genSplit (a0 : Value) (a1 : Value) (a2 : Value) (a3 : Value) (K : Value → World → Prop) (w0 : World) : Prop :=
xEq a3 (.int .i64 0) fun v1000 =>
xIf v1000 (K (.slice none 0 0) w0) (xSEq a1 (.string ⟨#[]⟩) fun v1001 =>
xIf v1001 (Ret P n_strings_explode [a0, a3] w0 fun v1002 w1003 =>
K v1002 w1003) (/- 0 n -/ XJ (fun J1004 =>
xLt a3 (.int .i64 0) fun v1008 =>
xIf v1008 (Ret P n_strings_Count [a0, a1] w0 fun v1009 w1010 =>
xAdd v1009 (.int .i64 1) fun v1011 =>
J1004 [v1011] w1010) (J1004 [a3] w0)) fun vs1005 g1006 w1007 =>
xLenS a0 fun v1012 =>
xAdd v1012 (.int .i64 1) fun v1013 =>
xMin (vs1005.getD 0 undef) v1013 fun v1014 =>
XRun P (Instr.makeSlice 46 v1014 v1014) w1007 fun v1015 w1016 =>
xSub v1014 (.int .i64 1) fun v1017 =>
/- 0 m 1 s 2 i -/ XJ (fun J1018 =>
XLoop [(.int .i64 0), a0, undef] w1016 (S_strings_genSplit_l1 a1 a2 v1015 v1017 J1018)) fun vs1019 g1020 w1021 =>
xIxS v1015 (vs1019.getD 2 undef) 1 fun v1040 =>
xAt v1040 fun a1042 =>
XSt w1021 a1042 (vs1019.getD 1 undef) fun w1041 =>
xAdd (vs1019.getD 2 undef) (.int .i64 1) fun v1043 =>
xCutS 1 v1015 none (some v1043) none fun v1044 =>
K v1044 w1041))
theorem W_strings_genSplit {a0 a1 a2 a3 : Value} {K : Value → World → Prop} {w : World} (h : S_strings_genSplit a0 a1 a2 a3 K w) : Ret P n_strings_genSplit [a0, a1, a2, a3] w K :=
  vcF_of mixed Tryz.func49 (show S_strings_genSplit a0 a1 a2 a3 K w = vcF P Tryz.f49 [a0, a1, a2, a3] w K from by kernel_rfl) h
/- spunyarn/script.number -/
abbrev S_script_number (a0 : Value) (K : Value → World → Prop) (w0 : World) : Prop :=
Ret P n_strings_CutPrefix [a0, (.string ⟨#[45]⟩)] w0 fun v1000 w1001 =>
xTup v1000 0 fun v1002 =>
xTup v1000 1 fun v1003 =>
/- 0 -/ XJ (fun J1004 =>
Ret P n_script_digitsOnly [v1002] w1001 fun v1008 w1009 =>
xNot v1008 fun v1010 =>
xIf v1010 (J1004 [(.bool true)] w1009) (xIf v1003 (xSEq v1002 (.string ⟨#[48]⟩) fun v1011 =>
J1004 [v1011] w1009) (J1004 [(.bool false)] w1009))) fun vs1005 g1006 w1007 =>
xIf (vs1005.getD 0 undef) (K (.tuple #[(.int .i64 0), (.int .i64 3)]) w1007) (xLenS v1002 fun v1012 =>
xGt v1012 (.int .i64 9) fun v1013 =>
xIf v1013 (K (.tuple #[(.int .i64 0), (.int .i64 8)]) w1007) (Ret P n_strconv_Atoi [a0] w1007 fun v1014 w1015 =>
xTup v1014 0 fun v1016 =>
xTup v1014 1 fun v1017 =>
K (.tuple #[v1016, (.int .i64 0)]) w1015))
theorem W_script_number {a0 : Value} {K : Value → World → Prop} {w : World} (h : S_script_number a0 K w) : Ret P n_script_number [a0] w K :=
  vcF_of mixed Tryz.func50 (show S_script_number a0 K w = vcF P Tryz.f50 [a0] w K from by kernel_rfl) h
/- spunyarn/script.key -/
abbrev S_script_key (a0 : Value) (K : Value → World → Prop) (w0 : World) : Prop :=
xSEq a0 (.string ⟨#[45]⟩) fun v1000 =>
xIf v1000 (K (.tuple #[(.slice none 0 0), (.int .i64 0)]) w0) (xSEq a0 (.string ⟨#[]⟩) fun v1001 =>
xIf v1001 (K (.tuple #[(.slice none 0 0), (.int .i64 3)]) w0) (Ret P n_keys_Parse [a0] w0 fun v1002 w1003 =>
xTup v1002 0 fun v1004 =>
xTup v1002 1 fun v1005 =>
K (.tuple #[v1004, v1005]) w1003))
theorem W_script_key {a0 : Value} {K : Value → World → Prop} {w : World} (h : S_script_key a0 K w) : Ret P n_script_key [a0] w K :=
  vcF_of mixed Tryz.func51 (show S_script_key a0 K w = vcF P Tryz.f51 [a0] w K from by kernel_rfl) h
/- spunyarn/script.value -/
abbrev S_script_value (a0 : Value) (K : Value → World → Prop) (w0 : World) : Prop :=
Ret P n_script_digitsOnly [a0] w0 fun v1000 w1001 =>
xNot v1000 fun v1002 =>
xIf v1002 (K (.tuple #[(.int .u64 0), (.int .i64 3)]) w1001) (Ret P n_strconv_ParseUint [a0, (.int .i64 10), (.int .i64 64)] w1001 fun v1003 w1004 =>
xTup v1003 0 fun v1005 =>
xTup v1003 1 fun v1006 =>
xIfc P .neq 85 (.tmp 14) (.const .nilIface) v1006 .nilIface w1004 fun r1007 =>
xIf (.bool !r1007) (K (.tuple #[(.int .u64 0), (.int .i64 8)]) w1004) (K (.tuple #[v1005, (.int .i64 0)]) w1004))
theorem W_script_value {a0 : Value} {K : Value → World → Prop} {w : World} (h : S_script_value a0 K w) : Ret P n_script_value [a0] w K :=
  vcF_of mixed Tryz.func52 (show S_script_value a0 K w = vcF P Tryz.f52 [a0] w K from by kernel_rfl) h
/- spunyarn/script.way -/
abbrev S_script_way (a0 : Value) (K : Value → World → Prop) (w0 : World) : Prop :=
/- 0 -/ XJ (fun J1000 =>
xSNe a0 (.string ⟨#[117, 112]⟩) fun v1004 =>
xIf v1004 (xSNe a0 (.string ⟨#[100, 111, 119, 110]⟩) fun v1005 =>
J1000 [v1005] w0) (J1000 [(.bool false)] w0)) fun vs1001 g1002 w1003 =>
xIf (vs1001.getD 0 undef) (K (.tuple #[(.bool false), (.int .i64 3)]) w1003) (xSEq a0 (.string ⟨#[100, 111, 119, 110]⟩) fun v1006 =>
K (.tuple #[v1006, (.int .i64 0)]) w1003)
theorem W_script_way {a0 : Value} {K : Value → World → Prop} {w : World} (h : S_script_way a0 K w) : Ret P n_script_way [a0] w K :=
  vcF_of mixed Tryz.func53 (show S_script_way a0 K w = vcF P Tryz.f53 [a0] w K from by kernel_rfl) h
/- internal/stringslite.Cut -/
abbrev S_stringslite_Cut (a0 : Value) (a1 : Value) (K : Value → World → Prop) (w0 : World) : Prop :=
Ret P n_stringslite_Index [a0, a1] w0 fun v1000 w1001 =>
xGe v1000 (.int .i64 0) fun v1002 =>
xIf v1002 (xCutStr a0 none (some v1000) fun v1003 =>
xLenS a1 fun v1004 =>
xAdd v1000 v1004 fun v1005 =>
xCutStr a0 (some v1005) none fun v1006 =>
K (.tuple #[v1003, v1006, (.bool true)]) (w1001.drew)) (K (.tuple #[a0, (.string ⟨#[]⟩), (.bool false)]) w1001)
theorem W_stringslite_Cut {a0 a1 : Value} {K : Value → World → Prop} {w : World} (h : S_stringslite_Cut a0 a1 K w) : Ret P n_stringslite_Cut [a0, a1] w K :=
  vcF_of mixed Tryz.func56 (show S_stringslite_Cut a0 a1 K w = vcF P Tryz.f56 [a0, a1] w K from by kernel_rfl) h
/- strconv.Itoa -/
abbrev S_strconv_Itoa (a0 : Value) (K : Value → World → Prop) (w0 : World) : Prop :=
Ret P n_istrconv_Itoa [a0] w0 fun v1000 w1001 =>
K v1000 w1001
theorem W_strconv_Itoa {a0 : Value} {K : Value → World → Prop} {w : World} (h : S_strconv_Itoa a0 K w) : Ret P n_strconv_Itoa [a0] w K :=
  vcF_of mixed Tryz.func57 (show S_strconv_Itoa a0 K w = vcF P Tryz.f57 [a0] w K from by kernel_rfl) h
/- spunyarn/keys.May -/
abbrev S_keys_May (a0 : Value) (K : Value → World → Prop) (w0 : World) : Prop :=
xLen a0 fun v1000 =>
xGt v1000 (.int .i64 65535) fun v1001 =>
xIf v1001 (K (.int .i64 8) w0) (K (.int .i64 0) w0)
theorem W_keys_May {a0 : Value} {K : Value → World → Prop} {w : World} (h : S_keys_May a0 K w) : Ret P n_keys_May [a0] w K :=
  vcF_of mixed Tryz.func58 (show S_keys_May a0 K w = vcF P Tryz.f58 [a0] w K from by kernel_rfl) h
/- spunyarn/keys.Text -/
/- S_keys_Text_l1: 0=slot 12 1=slot 5 c 2=slot 3 b -/
def S_keys_Text_l1 (K : Value → World → Prop) (a0 : Value) (v1004 : Value) (I1005 : Nat → List Value → World → Prop) (n1006 : Nat) (vs1007 : List Value) (g1008 : Nat → Value) (w1009 : World) : Prop :=
xLt (vs1007.getD 0 undef) v1004 fun v1010 =>
xIf v1010 (xIxS a0 (vs1007.getD 0 undef) 1 fun v1011 =>
xAt v1011 fun a1012 =>
XLd w1009 a1012 fun v1013 =>
xShr v1013 (.int .u64 4) fun v1014 =>
xIxStr (.string ⟨#[48, 49, 50, 51, 52, 53, 54, 55, 56, 57, 97, 98, 99, 100, 101, 102]⟩) v1014 fun v1015 =>
xAnd v1013 (.int .u8 15) fun v1016 =>
xIxStr (.string ⟨#[48, 49, 50, 51, 52, 53, 54, 55, 56, 57, 97, 98, 99, 100, 101, 102]⟩) v1016 fun v1017 =>
xFill (repL [(.int .u8 0)] 2) [(0, 1, v1015), (1, 1, v1017)] fun c1018 =>
XNew w1009.drew c1018 5 fun a1019 w1020 =>
XRun P (Builtin.append_ #[22, 22] 22 #[(vs1007.getD 2 undef), (.slice (some a1019) 2 2)]) w1020 fun v1021 w1022 =>
xAdd (vs1007.getD 0 undef) (.int .i64 1) fun v1023 =>
XNext I1005 n1006 [v1023, v1013, v1021] w1022) (XRun P (convert 22 9 (vs1007.getD 2 undef)) w1009 fun v1024 w1025 =>
K v1024 w1025)
abbrev S_keys_Text (a0 : Value) (K : Value → World → Prop) (w0 : World) : Prop :=
xLen a0 fun v1000 =>
xMul (.int .i64 2) v1000 fun v1001 =>
XRun P (Instr.makeSlice 22 (.int .i64 0) v1001) w0 fun v1002 w1003 =>
xLen a0 fun v1004 =>
XLoop [(.int .i64 0), undef, v1002] w1003 (S_keys_Text_l1 K a0 v1004)
theorem W_keys_Text {a0 : Value} {K : Value → World → Prop} {w : World} (h : S_keys_Text a0 K w) : Ret P n_keys_Text [a0] w K :=
  vcF_of mixed Tryz.func59 (show S_keys_Text a0 K w = vcF P Tryz.f59 [a0] w K from by kernel_rfl) h
/- strconv.FormatUint -/
abbrev S_strconv_FormatUint (a0 : Value) (a1 : Value) (K : Value → World → Prop) (w0 : World) : Prop :=
Ret P n_istrconv_FormatUint [a0, a1] w0 fun v1000 w1001 =>
K v1000 w1001
theorem W_strconv_FormatUint {a0 a1 : Value} {K : Value → World → Prop} {w : World} (h : S_strconv_FormatUint a0 a1 K w) : Ret P n_strconv_FormatUint [a0, a1] w K :=
  vcF_of mixed Tryz.func60 (show S_strconv_FormatUint a0 a1 K w = vcF P Tryz.f60 [a0, a1] w K from by kernel_rfl) h
/- spunyarn/script.tellChange -/
abbrev S_script_tellChange (a0 : Value) (K : Value → World → Prop) (w0 : World) : Prop :=
XNew w0 (cellsV a0) 59 fun a1000 w1001 =>
XLd w1001 (a1000.add 0) fun v1002 =>
Ret P n_script_tellKey [v1002] w1001 fun v1003 w1004 =>
xTup v1003 0 fun v1005 =>
xTup v1003 1 fun v1006 =>
xNe v1006 (.int .i64 0) fun v1007 =>
xIf v1007 (K (.tuple #[(.string ⟨#[]⟩), v1006]) w1004) (/- 0 -/ XJ (fun J1008 =>
XLd w1004 (a1000.add 1) fun v1012 =>
xLt v1012 (.int .i64 1) fun v1013 =>
xIf v1013 (J1008 [(.bool true)] w1004) (XLd w1004 (a1000.add 1) fun v1014 =>
xGt v1014 (.int .i64 3) fun v1015 =>
J1008 [v1015] w1004)) fun vs1009 g1010 w1011 =>
xIf (vs1009.getD 0 undef) (K (.tuple #[(.string ⟨#[]⟩), (.int .i64 9)]) w1011) (/- 0 -/ XJ (fun J1016 =>
/- 0 -/ XJ (fun J1020 =>
XLd w1011 (a1000.add 1) fun v1024 =>
xEq v1024 (.int .i64 1) fun v1025 =>
xIf v1025 (XLd w1011 (a1000.add 2) fun v1026 =>
xNe v1026 (.int .u64 0) fun v1027 =>
J1020 [v1027] w1011) (J1020 [(.bool false)] w1011)) fun vs1021 g1022 w1023 =>
xIf (vs1021.getD 0 undef) (J1016 [(vs1021.getD 0 undef)] w1023) (XLd w1023 (a1000.add 1) fun v1028 =>
xEq v1028 (.int .i64 2) fun v1029 =>
xIf v1029 (XLd w1023 (a1000.add 3) fun v1030 =>
xNe v1030 (.int .u64 0) fun v1031 =>
J1016 [v1031] w1023) (J1016 [(.bool false)] w1023))) fun vs1017 g1018 w1019 =>
xIf (vs1017.getD 0 undef) (K (.tuple #[(.string ⟨#[]⟩), (.int .i64 3)]) w1019) (XLd w1019 (a1000.add 1) fun v1032 =>
xEq v1032 (.int .i64 1) fun v1033 =>
xIf v1033 (xSCat (.string ⟨#[43]⟩) v1005 fun v1034 =>
xSCat v1034 (.string ⟨#[61]⟩) fun v1035 =>
XLd w1019 (a1000.add 3) fun v1036 =>
Ret P n_script_tellValue [v1036] w1019 fun v1037 w1038 =>
xSCat v1035 v1037 fun v1039 =>
K (.tuple #[v1039, (.int .i64 0)]) w1038) (xEq v1032 (.int .i64 2) fun v1040 =>
xIf v1040 (xSCat (.string ⟨#[45]⟩) v1005 fun v1041 =>
xSCat v1041 (.string ⟨#[61]⟩) fun v1042 =>
XLd w1019 (a1000.add 2) fun v1043 =>
Ret P n_script_tellValue [v1043] w1019 fun v1044 w1045 =>
xSCat v1042 v1044 fun v1046 =>
K (.tuple #[v1046, (.int .i64 0)]) w1045) (xSCat (.string ⟨#[126]⟩) v1005 fun v1047 =>
xSCat v1047 (.string ⟨#[61]⟩) fun v1048 =>
XLd w1019.drew (a1000.add 2) fun v1049 =>
XLd w1019.drew (a1000.add 3) fun v1050 =>
Ret P n_script_tellValue [v1049] w1019.drew fun v1051 w1052 =>
xKeep1 w1052 (.pointer (some (a1000.add 3))) v1050 ∧ (xSCat v1048 v1051 fun v1053 =>
xSCat v1053 (.string ⟨#[62]⟩) fun v1054 =>
Ret P n_script_tellValue [v1050] w1052 fun v1055 w1056 =>
xSCat v1054 v1055 fun v1057 =>
K (.tuple #[v1057, (.int .i64 0)]) w1056))))))
theorem W_script_tellChange {a0 : Value} {K : Value → World → Prop} {w : World} (h : S_script_tellChange a0 K w) : Ret P n_script_tellChange [a0] w K :=
  vcF_of mixed Tryz.func61 (show S_script_tellChange a0 K w = vcF P Tryz.f61 [a0] w K from by kernel_rfl) h
/- (*strings.Builder).copyCheck -/
abbrev S_strings_Builder_copyCheck (a0 : Value) (K : Value → World → Prop) (w0 : World) : Prop :=
xAt a0 fun a1000 =>
XLd w0 (a1000.add 0) fun v1001 =>
xPEq P w0 v1001 (.pointer none) fun v1002 =>
xIf v1002 (XRun P (convert 80 125 a0) w0 fun v1003 w1004 =>
xCall P 79 [v1003] w1004 fun v1005 w1006 =>
XRun P (convert 125 80 v1005) w1006 fun v1007 w1008 =>
xAt a0 fun a1009 =>
XSt w1008 (a1009.add 0) v1007 fun w1010 =>
K (.tuple #[]) w1010) (xAt a0 fun a1011 =>
XLd w0 (a1011.add 0) fun v1012 =>
xPNe P w0 v1012 a0 fun v1013 =>
xIf v1013 (False) (K (.tuple #[]) w0))
theorem W_strings_Builder_copyCheck {a0 : Value} {K : Value → World → Prop} {w : World} (h : S_strings_Builder_copyCheck a0 K w) : Ret P n_strings_Builder_copyCheck [a0] w K :=
  vcF_of mixed Tryz.func62 (show S_strings_Builder_copyCheck a0 K w = vcF P Tryz.f62 [a0] w K from by kernel_rfl) h
/- (*strings.Builder).grow -/
abbrev S_strings_Builder_grow (a0 : Value) (a1 : Value) (K : Value → World → Prop) (w0 : World) : Prop :=
xAt a0 fun a1000 =>
XLd w0.drew (a1000.add 1) fun v1001 =>
xCap v1001 fun v1002 =>
xMul (.int .i64 2) v1002 fun v1003 =>
xAdd v1003 a1 fun v1004 =>
xAt a0 fun a1005 =>
XLd w0.drew (a1005.add 1) fun v1006 =>
xLen v1006 fun v1007 =>
xCall P 80 [v1004] w0.drew fun v1008 w1009 =>
xKeep1 w1009 (.pointer (some (a1005.add 1))) v1006 ∧ (xCutS 1 v1008 none (some v1007) none fun v1010 =>
xAt a0 fun a1011 =>
XLd w1009 (a1011.add 1) fun v1012 =>
XRun P (Builtin.copy_ #[22, 22] 3 #[v1010, v1012]) w1009 fun v1013 w1014 =>
xAt a0 fun a1015 =>
XSt w1014 (a1015.add 1) v1010 fun w1016 =>
K (.tuple #[]) w1016)
theorem W_strings_Builder_grow {a0 a1 : Value} {K : Value → World → Prop} {w : World} (h : S_strings_Builder_grow a0 a1 K w) : Ret P n_strings_Builder_grow [a0, a1] w K :=
  vcF_of mixed Tryz.func63 (show S_strings_Builder_grow a0 a1 K w = vcF P Tryz.f63 [a0, a1] w K from by kernel_rfl) h
/- spunyarn/spunyarnref01.Text -/
/- S_ref01_Text_l1: 0=slot 4 i 1=slot 3 s -/
def S_ref01_Text_l1 (K : Value → World → Prop) (a0 : Value) (I1000 : Nat → List Value → World → Prop) (n1001 : Nat) (vs1002 : List Value) (g1003 : Nat → Value) (w1004 : World) : Prop :=
xLen a0 fun v1005 =>
xLt (vs1002.getD 0 undef) v1005 fun v1006 =>
xIf v1006 (xIxS a0 (vs1002.getD 0 undef) 1 fun v1007 =>
xAt v1007 fun a1008 =>
XLd w1004 a1008 fun v1009 =>
Ret P n_ref01_digits [v1009] w1004 fun v1010 w1011 =>
xSCat (vs1002.getD 1 undef) v1010 fun v1012 =>
xAdd (vs1002.getD 0 undef) (.int .i64 1) fun v1013 =>
XNext I1000 n1001 [v1013, v1012] w1011) (K (vs1002.getD 1 undef) w1004)
abbrev S_ref01_Text (a0 : Value) (K : Value → World → Prop) (w0 : World) : Prop :=
XLoop [(.int .i64 0), (.string ⟨#[]⟩)] w0 (S_ref01_Text_l1 K a0)
theorem W_ref01_Text {a0 : Value} {K : Value → World → Prop} {w : World} (h : S_ref01_Text a0 K w) : Ret P n_ref01_Text [a0] w K :=
  vcF_of mixed Tryz.func64 (show S_ref01_Text a0 K w = vcF P Tryz.f64 [a0] w K from by kernel_rfl) h
/- spunyarn/spunyarnref01.Common -/
/- S_ref01_Common_l1: 0=slot 5 n -/
def S_ref01_Common_l1 (K : Value → World → Prop) (a0 : Value) (a1 : Value) (I1000 : Nat → List Value → World → Prop) (n1001 : Nat) (vs1002 : List Value) (g1003 : Nat → Value) (w1004 : World) : Prop :=
/- 0 -/ XJ (fun J1005 =>
xLen a0 fun v1009 =>
xLt (vs1002.getD 0 undef) v1009 fun v1010 =>
xIf v1010 (xLen a1 fun v1011 =>
xLt (vs1002.getD 0 undef) v1011 fun v1012 =>
xIf v1012 (xIxS a0 (vs1002.getD 0 undef) 1 fun v1013 =>
xAt v1013 fun a1014 =>
XLd w1004.drew a1014 fun v1015 =>
xIxS a1 (vs1002.getD 0 undef) 1 fun v1016 =>
xAt v1016 fun a1017 =>
XLd w1004.drew a1017 fun v1018 =>
xEq v1015 v1018 fun v1019 =>
J1005 [v1019] (w1004.drew)) (J1005 [(.bool false)] (w1004.drew))) (J1005 [(.bool false)] (w1004.drew))) fun vs1006 g1007 w1008 =>
xIf (vs1006.getD 0 undef) (xAdd (vs1002.getD 0 undef) (.int .i64 1) fun v1020 =>
XNext I1000 n1001 [v1020] w1008) (K (vs1002.getD 0 undef) w1008)
abbrev S_ref01_Common (a0 : Value) (a1 : Value) (K : Value → World → Prop) (w0 : World) : Prop :=
XLoop [(.int .i64 0)] w0 (S_ref01_Common_l1 K a0 a1)
theorem W_ref01_Common {a0 a1 : Value} {K : Value → World → Prop} {w : World} (h : S_ref01_Common a0 a1 K w) : Ret P n_ref01_Common [a0, a1] w K :=
  vcF_of mixed Tryz.func65 (show S_ref01_Common a0 a1 K w = vcF P Tryz.f65 [a0, a1] w K from by kernel_rfl) h
/- strings.explode -/
/- S_strings_explode_l1: 0=slot 7 i 1=slot 0 s 2=slot 8 _ 3=slot 9 size -/
def S_strings_explode_l1 (K : Value → World → Prop) (vs1003 : List Value) (v1012 : Value) (I1014 : Nat → List Value → World → Prop) (n1015 : Nat) (vs1016 : List Value) (g1017 : Nat → Value) (w1018 : World) : Prop :=
xSub (vs1003.getD 0 undef) (.int .i64 1) fun v1019 =>
xLt (vs1016.getD 0 undef) v1019 fun v1020 =>
xIf v1020 (Ret P n_utf8_DecodeRuneInString [(vs1016.getD 1 undef)] w1018 fun v1021 w1022 =>
xTup v1021 0 fun v1023 =>
xTup v1021 1 fun v1024 =>
xCutStr (vs1016.getD 1 undef) none (some v1024) fun v1025 =>
xIxS v1012 (vs1016.getD 0 undef) 1 fun v1026 =>
xAt v1026 fun a1028 =>
XSt w1022 a1028 v1025 fun w1027 =>
xCutStr (vs1016.getD 1 undef) (some v1024) none fun v1029 =>
xAdd (vs1016.getD 0 undef) (.int .i64 1) fun v1030 =>
XNext I1014 n1015 [v1030, v1029, v1023, v1024] w1027) (/-  -/ XJ (fun J1031 =>
xGt (vs1003.getD 0 undef) (.int .i64 0) fun v1035 =>
xIf v1035 (xSub (vs1003.getD 0 undef) (.int .i64 1) fun v1036 =>
xIxS v1012 v1036 1 fun v1037 =>
xAt v1037 fun a1039 =>
XSt w1018 a1039 (vs1016.getD 1 undef) fun w1038 =>
J1031 [] w1038) (J1031 [] w1018)) fun vs1032 g1033 w1034 =>
K v1012 w1034)
abbrev S_strings_explode (a0 : Value) (a1 : Value) (K : Value → World → Prop) (w0 : World) : Prop :=
Ret P n_utf8_RuneCountInString [a0] w0 fun v1000 w1001 =>
/- 0 n -/ XJ (fun J1002 =>
/- 0 -/ XJ (fun J1006 =>
xLt a1 (.int .i64 0) fun v1010 =>
xIf v1010 (J1006 [(.bool true)] w1001) (xGt a1 v1000 fun v1011 =>
J1006 [v1011] w1001)) fun vs1007 g1008 w1009 =>
xIf (vs1007.getD 0 undef) (J1002 [v1000] w1009) (J1002 [a1] w1009)) fun vs1003 g1004 w1005 =>
XRun P (Instr.makeSlice 46 (vs1003.getD 0 undef) (vs1003.getD 0 undef)) w1005 fun v1012 w1013 =>
XLoop [(.int .i64 0), a0, undef, undef] w1013 (S_strings_explode_l1 K vs1003 v1012)
theorem W_strings_explode {a0 a1 : Value} {K : Value → World → Prop} {w : World} (h : S_strings_explode a0 a1 K w) : Ret P n_strings_explode [a0, a1] w K :=
  vcF_of mixed Tryz.func66 (show S_strings_explode a0 a1 K w = vcF P Tryz.f66 [a0, a1] w K from by kernel_rfl) h
/- strings.Count -/
/- S_strings_Count_l1: 0=slot 0 s 1=slot 6 i 2=slot 5 n 3=slot 4 -/
def S_strings_Count_l1 (K : Value → World → Prop) (a1 : Value) (I1010 : Nat → List Value → World → Prop) (n1011 : Nat) (vs1012 : List Value) (g1013 : Nat → Value) (w1014 : World) : Prop :=
Ret P n_strings_Index [(vs1012.getD 0 undef), a1] w1014 fun v1015 w1016 =>
xEq v1015 (.int .i64 (-1)) fun v1017 =>
xIf v1017 (K (vs1012.getD 2 undef) w1016) (xAdd (vs1012.getD 2 undef) (.int .i64 1) fun v1018 =>
xLenS a1 fun v1019 =>
xAdd v1015 v1019 fun v1020 =>
xCutStr (vs1012.getD 0 undef) (some v1020) none fun v1021 =>
XNext I1010 n1011 [v1021, v1015, v1018, (vs1012.getD 3 undef)] w1016)
abbrev S_strings_Count (a0 : Value) (a1 : Value) (K : Value → World → Prop) (w0 : World) : Prop :=
xLenS a1 fun v1000 =>
xEq v1000 (.int .i64 0) fun v1001 =>
xIf v1001 (Ret P n_utf8_RuneCountInString [a0] w0 fun v1002 w1003 =>
xAdd v1002 (.int .i64 1) fun v1004 =>
K v1004 w1003) (xLenS a1 fun v1005 =>
xEq v1005 (.int .i64 1) fun v1006 =>
xIf v1006 (xIxStr a1 (.int .i64 0) fun v1007 =>
xCall P 84 [a0, v1007] w0 fun v1008 w1009 =>
K v1008 w1009) (XLoop [a0, undef, (.int .i64 0), (.int .i64 0)] w0 (S_strings_Count_l1 K a1)))
theorem W_strings_Count {a0 a1 : Value} {K : Value → World → Prop} {w : World} (h : S_strings_Count a0 a1 K w) : Ret P n_strings_Count [a0, a1] w K :=
  vcF_of mixed Tryz.func67 (show S_strings_Count a0 a1 K w = vcF P Tryz.f67 [a0, a1] w K from by kernel_rfl) h
/- strings.Index -/
abbrev S_strings_Index (a0 : Value) (a1 : Value) (K : Value → World → Prop) (w0 : World) : Prop :=
Ret P n_stringslite_Index [a0, a1] w0 fun v1000 w1001 =>
K v1000 w1001
theorem W_strings_Index {a0 a1 : Value} {K : Value → World → Prop} {w : World} (h : S_strings_Index a0 a1 K w) : Ret P n_strings_Index [a0, a1] w K :=
  vcF_of mixed Tryz.func68 (show S_strings_Index a0 a1 K w = vcF P Tryz.f68 [a0, a1] w K from by kernel_rfl) h
/- strings.CutPrefix -/
abbrev S_strings_CutPrefix (a0 : Value) (a1 : Value) (K : Value → World → Prop) (w0 : World) : Prop :=
Ret P n_stringslite_CutPrefix [a0, a1] w0 fun v1000 w1001 =>
xTup v1000 0 fun v1002 =>
xTup v1000 1 fun v1003 =>
K (.tuple #[v1002, v1003]) w1001
theorem W_strings_CutPrefix {a0 a1 : Value} {K : Value → World → Prop} {w : World} (h : S_strings_CutPrefix a0 a1 K w) : Ret P n_strings_CutPrefix [a0, a1] w K :=
  vcF_of mixed Tryz.func69 (show S_strings_CutPrefix a0 a1 K w = vcF P Tryz.f69 [a0, a1] w K from by kernel_rfl) h
/- spunyarn/script.digitsOnly -/
/- S_script_digitsOnly_l1: 0=slot 8 1=slot 4 c 2=slot 2 -/
def S_script_digitsOnly_l1 (K : Value → World → Prop) (a0 : Value) (v1000 : Value) (v1002 : Value) (I1003 : Nat → List Value → World → Prop) (n1004 : Nat) (vs1005 : List Value) (g1006 : Nat → Value) (w1007 : World) : Prop :=
xLt (vs1005.getD 0 undef) v1002 fun v1008 =>
xIf v1008 (xIxS v1000 (vs1005.getD 0 undef) 1 fun v1009 =>
xAt v1009 fun a1010 =>
XLd w1007 a1010 fun v1011 =>
/- 0 -/ XJ (fun J1012 =>
xLt v1011 (.int .u8 48) fun v1016 =>
xIf v1016 (J1012 [(.bool true)] w1007) (xGt v1011 (.int .u8 57) fun v1017 =>
J1012 [v1017] w1007)) fun vs1013 g1014 w1015 =>
xIf (vs1013.getD 0 undef) (K (.bool false) w1015) (xAdd (vs1005.getD 0 undef) (.int .i64 1) fun v1018 =>
XNext I1003 n1004 [v1018, v1011, (vs1005.getD 2 undef)] w1015)) (/- 0 -/ XJ (fun J1019 =>
xSEq a0 (.string ⟨#[48]⟩) fun v1023 =>
xIf v1023 (J1019 [(.bool true)] w1007) (xSNe a0 (.string ⟨#[]⟩) fun v1024 =>
xIf v1024 (xIxStr a0 (.int .i64 0) fun v1025 =>
xNe v1025 (.int .u8 48) fun v1026 =>
J1019 [v1026] w1007) (J1019 [(.bool false)] w1007))) fun vs1020 g1021 w1022 =>
K (vs1020.getD 0 undef) w1022)
abbrev S_script_digitsOnly (a0 : Value) (K : Value → World → Prop) (w0 : World) : Prop :=
XRun P (convert 9 22 a0) w0 fun v1000 w1001 =>
xLen v1000 fun v1002 =>
XLoop [(.int .i64 0), undef, (.bool false)] w1001 (S_script_digitsOnly_l1 K a0 v1000 v1002)
theorem W_script_digitsOnly {a0 : Value} {K : Value → World → Prop} {w : World} (h : S_script_digitsOnly a0 K w) : Ret P n_script_digitsOnly [a0] w K :=
  vcF_of mixed Tryz.func70 (show S_script_digitsOnly a0 K w = vcF P Tryz.f70 [a0] w K from by kernel_rfl) h
/- strconv.Atoi -/
abbrev S_strconv_Atoi (a0 : Value) (K : Value → World → Prop) (w0 : World) : Prop :=
Ret P n_istrconv_Atoi [a0] w0 fun v1000 w1001 =>
xTup v1000 0 fun v1002 =>
xTup v1000 1 fun v1003 =>
xIfc P .neq 85 (.tmp 11) (.const .nilIface) v1003 .nilIface w1001 fun r1004 =>
xIf (.bool !r1004) (Ret P n_strconv_toError [(.string ⟨#[65, 116, 111, 105]⟩), a0, (.int .i64 0), (.int .i64 0), v1003] w1001 fun v1005 w1006 =>
K (.tuple #[v1002, v1005]) w1006) (K (.tuple #[v1002, .nilIface]) w1001)
theorem W_strconv_Atoi {a0 : Value} {K : Value → World → Prop} {w : World} (h : S_strconv_Atoi a0 K w) : Ret P n_strconv_Atoi [a0] w K :=
  vcF_of mixed Tryz.func71 (show S_strconv_Atoi a0 K w = vcF P Tryz.f71 [a0] w K from by kernel_rfl) h
/- spunyarn/keys.Parse -/
/- S_keys_Parse_l1: 0=slot 0 s 1=slot 5 n 2=slot 2 3=slot 3 4=slot 4 k -/
def S_keys_Parse_l1 (K : Value → World → Prop) (I1005 : Nat → List Value → World → Prop) (n1006 : Nat) (vs1007 : List Value) (g1008 : Nat → Value) (w1009 : World) : Prop :=
xSNe (vs1007.getD 0 undef) (.string ⟨#[]⟩) fun v1010 =>
xIf v1010 (xIxStr (vs1007.getD 0 undef) (.int .i64 0) fun v1011 =>
xIxStr (vs1007.getD 0 undef) (.int .i64 1) fun v1012 =>
Ret P n_strings_IndexByte [(.string ⟨#[48, 49, 50, 51, 52, 53, 54, 55, 56, 57, 97, 98, 99, 100, 101, 102]⟩), v1011] w1009.drew fun v1013 w1014 =>
xShl v1013 (.int .u64 4) fun v1015 =>
Ret P n_strings_IndexByte [(.string ⟨#[48, 49, 50, 51, 52, 53, 54, 55, 56, 57, 97, 98, 99, 100, 101, 102]⟩), v1012] w1014 fun v1016 w1017 =>
xOr v1015 v1016 fun v1018 =>
xLt v1018 (.int .i64 0) fun v1019 =>
xIf v1019 (K (.tuple #[(.slice none 0 0), (.int .i64 3)]) w1017) (xConv .u8 v1018 fun v1020 =>
xFill (repL [(.int .u8 0)] 1) [(0, 1, v1020)] fun c1021 =>
XNew w1017 c1021 5 fun a1022 w1023 =>
XRun P (Builtin.append_ #[22, 22] 22 #[(vs1007.getD 4 undef), (.slice (some a1022) 1 1)]) w1023 fun v1024 w1025 =>
xCutStr (vs1007.getD 0 undef) (some (.int .i64 2)) none fun v1026 =>
XNext I1005 n1006 [v1026, v1018, (vs1007.getD 2 undef), (vs1007.getD 3 undef), v1024] w1025)) (K (.tuple #[(vs1007.getD 4 undef), (.int .i64 0)]) w1009)
abbrev S_keys_Parse (a0 : Value) (K : Value → World → Prop) (w0 : World) : Prop :=
xLenS a0 fun v1000 =>
xGt v1000 (.int .i64 131071) fun v1001 =>
xIf v1001 (K (.tuple #[(.slice none 0 0), (.int .i64 8)]) w0) (xLenS a0 fun v1002 =>
xRem v1002 (.int .i64 2) fun v1003 =>
xNe v1003 (.int .i64 0) fun v1004 =>
xIf v1004 (K (.tuple #[(.slice none 0 0), (.int .i64 3)]) w0) (XLoop [a0, undef, (.slice none 0 0), (.int .i64 0), (.slice none 0 0)] w0 (S_keys_Parse_l1 K)))
theorem W_keys_Parse {a0 : Value} {K : Value → World → Prop} {w : World} (h : S_keys_Parse a0 K w) : Ret P n_keys_Parse [a0] w K :=
  vcF_of mixed Tryz.func72 (show S_keys_Parse a0 K w = vcF P Tryz.f72 [a0] w K from by kernel_rfl) h
/- strconv.ParseUint -/
abbrev S_strconv_ParseUint (a0 : Value) (a1 : Value) (a2 : Value) (K : Value → World → Prop) (w0 : World) : Prop :=
Ret P n_istrconv_ParseUint [a0, a1, a2] w0 fun v1000 w1001 =>
xTup v1000 0 fun v1002 =>
xTup v1000 1 fun v1003 =>
xIfc P .neq 85 (.tmp 17) (.const .nilIface) v1003 .nilIface w1001 fun r1004 =>
xIf (.bool !r1004) (Ret P n_strconv_toError [(.string ⟨#[80, 97, 114, 115, 101, 85, 105, 110, 116]⟩), a0, a1, a2, v1003] w1001 fun v1005 w1006 =>
K (.tuple #[v1002, v1005]) w1006) (K (.tuple #[v1002, .nilIface]) w1001)
theorem W_strconv_ParseUint {a0 a1 a2 : Value} {K : Value → World → Prop} {w : World} (h : S_strconv_ParseUint a0 a1 a2 K w) : Ret P n_strconv_ParseUint [a0, a1, a2] w K :=
  vcF_of mixed Tryz.func73 (show S_strconv_ParseUint a0 a1 a2 K w = vcF P Tryz.f73 [a0, a1, a2] w K from by kernel_rfl) h
/- strings.SplitSeq -/
abbrev S_strings_SplitSeq (a0 : Value) (a1 : Value) (K : Value → World → Prop) (w0 : World) : Prop :=
Ret P n_strings_splitSeq [a0, a1, (.int .i64 0)] w0 fun v1000 w1001 =>
K v1000 w1001
theorem W_strings_SplitSeq {a0 a1 : Value} {K : Value → World → Prop} {w : World} (h : S_strings_SplitSeq a0 a1 K w) : Ret P n_strings_SplitSeq [a0, a1] w K :=
  vcF_of mixed Tryz.func74 (show S_strings_SplitSeq a0 a1 K w = vcF P Tryz.f74 [a0, a1] w K from by kernel_rfl) h
/- spunyarn/script.change -/
abbrev S_script_change (a0 : Value) (K : Value → World → Prop) (w0 : World) : Prop :=
XNew w0 [(.slice none 0 0), (.int .i64 0), (.int .u64 0), (.int .u64 0)] 59 fun a1000 w1001 =>
xFill [(.slice none 0 0), (.int .i64 0), (.int .u64 0), (.int .u64 0)] [] fun c1002 =>
XNew w1001 [(.slice none 0 0), (.int .i64 0), (.int .u64 0), (.int .u64 0)] 59 fun a1003 w1004 =>
XDo P (storeVar 59 a1003 (.agg c1002.toArray)) w1004 fun w1005 =>
/- 0 -/ XJ (fun J1006 =>
xSEq a0 (.string ⟨#[]⟩) fun v1010 =>
xIf v1010 (J1006 [(.bool true)] w1005) (xIxStr a0 (.int .i64 0) fun v1011 =>
Ret P n_strings_IndexByte [(.string ⟨#[43, 45, 126]⟩), v1011] w1005 fun v1012 w1013 =>
xLt v1012 (.int .i64 0) fun v1014 =>
J1006 [v1014] w1013)) fun vs1007 g1008 w1009 =>
xIf (vs1007.getD 0 undef) (XLdN w1009 a1003 4 fun v1015 =>
XDo P (storeVar 59 a1000 v1015) w1009 fun w1016 =>
XLdN w1016 a1000 4 fun v1017 =>
K (.tuple #[v1017, (.int .i64 3)]) w1016) (xCutStr a0 (some (.int .i64 1)) none fun v1018 =>
Ret P n_strings_Cut [v1018, (.string ⟨#[61]⟩)] w1009 fun v1019 w1020 =>
xTup v1019 0 fun v1021 =>
xTup v1019 1 fun v1022 =>
xTup v1019 2 fun v1023 =>
/- 0 was 1 now 2 turned -/ XJ (fun J1024 =>
xIxStr a0 (.int .i64 0) fun v1028 =>
xEq v1028 (.int .u8 126) fun v1029 =>
xIf v1029 (Ret P n_strings_Cut [v1022, (.string ⟨#[62]⟩)] w1020 fun v1030 w1031 =>
xTup v1030 0 fun v1032 =>
xTup v1030 1 fun v1033 =>
xTup v1030 2 fun v1034 =>
J1024 [v1032, v1033, v1034] w1031) (J1024 [v1022, (.string ⟨#[]⟩), (.bool true)] w1020)) fun vs1025 g1026 w1027 =>
/- 0 -/ XJ (fun J1035 =>
xNot v1023 fun v1039 =>
xIf v1039 (J1035 [(.bool true)] w1027) (xNot (vs1025.getD 2 undef) fun v1040 =>
J1035 [v1040] w1027)) fun vs1036 g1037 w1038 =>
xIf (vs1036.getD 0 undef) (XLdN w1038 a1003 4 fun v1041 =>
XDo P (storeVar 59 a1000 v1041) w1038 fun w1042 =>
XLdN w1042 a1000 4 fun v1043 =>
K (.tuple #[v1043, (.int .i64 3)]) w1042) (Ret P n_script_key [v1021] w1038 fun v1044 w1045 =>
xTup v1044 0 fun v1046 =>
xTup v1044 1 fun v1047 =>
xNe v1047 (.int .i64 0) fun v1048 =>
xIf v1048 (XLdN w1045 a1003 4 fun v1049 =>
XDo P (storeVar 59 a1000 v1049) w1045 fun w1050 =>
XLdN w1050 a1000 4 fun v1051 =>
K (.tuple #[v1051, v1047]) w1050) (Ret P n_script_value [(vs1025.getD 0 undef)] w1045 fun v1052 w1053 =>
xTup v1052 0 fun v1054 =>
xTup v1052 1 fun v1055 =>
xNe v1055 (.int .i64 0) fun v1056 =>
xIf v1056 (XLdN w1053 a1003 4 fun v1057 =>
XDo P (storeVar 59 a1000 v1057) w1053 fun w1058 =>
XLdN w1058 a1000 4 fun v1059 =>
K (.tuple #[v1059, v1055]) w1058) (xIxStr a0 (.int .i64 0) fun v1060 =>
xEq v1060 (.int .u8 43) fun v1061 =>
xIf v1061 (xFill [(.slice none 0 0), (.int .i64 0), (.int .u64 0), (.int .u64 0)] [(0, 1, v1046), (1, 1, (.int .i64 1)), (3, 1, v1054)] fun c1062 =>
XDo P (storeVar 59 a1000 (.agg c1062.toArray)) w1053 fun w1063 =>
XLdN w1063 a1000 4 fun v1064 =>
K (.tuple #[v1064, (.int .i64 0)]) w1063) (xEq v1060 (.int .u8 45) fun v1065 =>
xIf v1065 (xFill [(.slice none 0 0), (.int .i64 0), (.int .u64 0), (.int .u64 0)] [(0, 1, v1046), (1, 1, (.int .i64 2)), (2, 1, v1054)] fun c1066 =>
XDo P (storeVar 59 a1000 (.agg c1066.toArray)) w1053 fun w1067 =>
XLdN w1067 a1000 4 fun v1068 =>
K (.tuple #[v1068, (.int .i64 0)]) w1067) (Ret P n_script_value [(vs1025.getD 1 undef)] w1053 fun v1069 w1070 =>
xTup v1069 0 fun v1071 =>
xTup v1069 1 fun v1072 =>
xNe v1072 (.int .i64 0) fun v1073 =>
xIf v1073 (XLdN w1070 a1003 4 fun v1074 =>
XDo P (storeVar 59 a1000 v1074) w1070 fun w1075 =>
XLdN w1075 a1000 4 fun v1076 =>
K (.tuple #[v1076, v1072]) w1075) (xFill [(.slice none 0 0), (.int .i64 0), (.int .u64 0), (.int .u64 0)] [(0, 1, v1046), (1, 1, (.int .i64 3)), (2, 1, v1054), (3, 1, v1071)] fun c1077 =>
XDo P (storeVar 59 a1000 (.agg c1077.toArray)) w1070 fun w1078 =>
XLdN w1078 a1000 4 fun v1079 =>
K (.tuple #[v1079, (.int .i64 0)]) w1078)))))))
theorem W_script_change {a0 : Value} {K : Value → World → Prop} {w : World} (h : S_script_change a0 K w) : Ret P n_script_change [a0] w K :=
  vcF_of mixed Tryz.func75 (show S_script_change a0 K w = vcF P Tryz.f75 [a0] w K from by kernel_rfl) h
/- internal/stringslite.Index -/
/- S_stringslite_Index_l1: 0=slot 8 i 1=slot 11 o 2=slot 4 3=slot 10 fails 4=slot 12 r 5=slot 13 j -/
def S_stringslite_Index_l1 (K : Value → World → Prop) (a0 : Value) (a1 : Value) (v1000 : Value) (v1023 : Value) (v1024 : Value) (v1027 : Value) (I1028 : Nat → List Value → World → Prop) (n1029 : Nat) (vs1030 : List Value) (g1031 : Nat → Value) (w1032 : World) : Prop :=
xLt (vs1030.getD 0 undef) v1027 fun v1033 =>
xIf v1033 (/- 0 o 1 2 i -/ XJ (fun J1034 =>
xIxStr a0 (vs1030.getD 0 undef) fun v1038 =>
xNe v1038 v1023 fun v1039 =>
xIf v1039 (xAdd (vs1030.getD 0 undef) (.int .i64 1) fun v1040 =>
xCutStr a0 (some v1040) (some v1027) fun v1041 =>
Ret P n_stringslite_IndexByte [v1041, v1023] w1032 fun v1042 w1043 =>
xLt v1042 (.int .i64 0) fun v1044 =>
xIf v1044 (K (.int .i64 (-1)) w1043) (xAdd v1042 (.int .i64 1) fun v1045 =>
xAdd (vs1030.getD 0 undef) v1045 fun v1046 =>
J1034 [v1042, (vs1030.getD 2 undef), v1046] w1043)) (J1034 [(vs1030.getD 1 undef), (vs1030.getD 2 undef), (vs1030.getD 0 undef)] w1032)) fun vs1035 g1036 w1037 =>
/- 0 -/ XJ (fun J1047 =>
xAdd (vs1035.getD 2 undef) (.int .i64 1) fun v1051 =>
xIxStr a0 v1051 fun v1052 =>
xEq v1052 v1024 fun v1053 =>
xIf v1053 (xAdd (vs1035.getD 2 undef) v1000 fun v1054 =>
xCutStr a0 (some (vs1035.getD 2 undef)) (some v1054) fun v1055 =>
xSEq v1055 a1 fun v1056 =>
J1047 [v1056] w1037) (J1047 [(.bool false)] w1037)) fun vs1048 g1049 w1050 =>
xIf (vs1048.getD 0 undef) (K (vs1035.getD 2 undef) w1050) (xAdd (vs1035.getD 2 undef) (.int .i64 1) fun v1057 =>
xAdd (vs1030.getD 3 undef) (.int .i64 1) fun v1058 =>
/- 0 -/ XJ (fun J1059 =>
XLd w1050 ⟨0, 0, none⟩ fun v1063 =>
xLe v1000 v1063 fun v1064 =>
xIf v1064 (Ret P n_bytealg_Cutover [v1057] w1050 fun v1065 w1066 =>
xGt v1058 v1065 fun v1067 =>
J1059 [v1067] w1066) (J1059 [(.bool false)] w1050)) fun vs1060 g1061 w1062 =>
xIf (vs1060.getD 0 undef) (xCutStr a0 (some v1057) none fun v1068 =>
xCall P 92 [v1068, a1] w1062 fun v1069 w1070 =>
xGe v1069 (.int .i64 0) fun v1071 =>
xIf v1071 (xAdd v1069 v1057 fun v1072 =>
K v1072 w1070) (K (.int .i64 (-1)) w1070)) (/- 0 -/ XJ (fun J1073 =>
XLd w1062 ⟨0, 0, none⟩ fun v1077 =>
xGt v1000 v1077 fun v1078 =>
xIf v1078 (xShr v1057 (.int .u64 4) fun v1079 =>
xAdd (.int .i64 4) v1079 fun v1080 =>
xGe v1058 v1080 fun v1081 =>
xIf v1081 (xLt v1057 v1027 fun v1082 =>
J1073 [v1082] w1062) (J1073 [(.bool false)] w1062)) (J1073 [(.bool false)] w1062)) fun vs1074 g1075 w1076 =>
xIf (vs1074.getD 0 undef) (xCutStr a0 (some v1057) none fun v1083 =>
Ret P n_bytealg_IndexRabinKarp_string [v1083, a1] w1076 fun v1084 w1085 =>
xLt v1084 (.int .i64 0) fun v1086 =>
xIf v1086 (K (.int .i64 (-1)) w1085) (xAdd v1057 v1084 fun v1087 =>
K v1087 w1085)) (XNext I1028 n1029 [v1057, (vs1035.getD 0 undef), (vs1035.getD 1 undef), v1058, (vs1030.getD 4 undef), (vs1030.getD 5 undef)] w1076)))) (K (.int .i64 (-1)) w1032)
abbrev S_stringslite_Index (a0 : Value) (a1 : Value) (K : Value → World → Prop) (w0 : World) : Prop :=
xLenS a1 fun v1000 =>
/- 0 -/ XJ (fun J1001 =>
xEq v1000 (.int .i64 0) fun v1005 =>
xIf v1005 (J1001 [(.bool true)] w0) (xSEq a1 a0 fun v1006 =>
J1001 [v1006] w0)) fun vs1002 g1003 w1004 =>
xIf (vs1002.getD 0 undef) (K (.int .i64 0) w1004) (xEq v1000 (.int .i64 1) fun v1007 =>
xIf v1007 (xIxStr a1 (.int .i64 0) fun v1008 =>
Ret P n_stringslite_IndexByte [a0, v1008] w1004 fun v1009 w1010 =>
K v1009 w1010) (xLenS a0 fun v1011 =>
xGe v1000 v1011 fun v1012 =>
xIf v1012 (K (.int .i64 (-1)) w1004) (/- 0 -/ XJ (fun J1013 =>
XLd w1004 ⟨0, 0, none⟩ fun v1017 =>
xLe v1000 v1017 fun v1018 =>
xIf v1018 (xLenS a0 fun v1019 =>
xLe v1019 (.int .i64 64) fun v1020 =>
J1013 [v1020] w1004) (J1013 [(.bool false)] w1004)) fun vs1014 g1015 w1016 =>
xIf (vs1014.getD 0 undef) (xCall P 92 [a0, a1] w1016 fun v1021 w1022 =>
K v1021 w1022) (xIxStr a1 (.int .i64 0) fun v1023 =>
xIxStr a1 (.int .i64 1) fun v1024 =>
xLenS a0 fun v1025 =>
xSub v1025 v1000 fun v1026 =>
xAdd v1026 (.int .i64 1) fun v1027 =>
XLoop [(.int .i64 0), undef, (.int .i64 0), (.int .i64 0), undef, undef] w1016 (S_stringslite_Index_l1 K a0 a1 v1000 v1023 v1024 v1027)))))
theorem W_stringslite_Index {a0 a1 : Value} {K : Value → World → Prop} {w : World} (h : S_stringslite_Index a0 a1 K w) : Ret P n_stringslite_Index [a0, a1] w K :=
  vcF_of mixed Tryz.func76 (show S_stringslite_Index a0 a1 K w = vcF P Tryz.f76 [a0, a1] w K from by kernel_rfl) h
/- internal/strconv.Itoa -/
abbrev S_istrconv_Itoa (a0 : Value) (K : Value → World → Prop) (w0 : World) : Prop :=
Ret P n_istrconv_FormatInt [a0, (.int .i64 10)] w0 fun v1000 w1001 =>
K v1000 w1001
theorem W_istrconv_Itoa {a0 : Value} {K : Value → World → Prop} {w : World} (h : S_istrconv_Itoa a0 K w) : Ret P n_istrconv_Itoa [a0] w K :=
  vcF_of mixed Tryz.func77 (show S_istrconv_Itoa a0 K w = vcF P Tryz.f77 [a0] w K from by kernel_rfl) h
/- internal/strconv.FormatUint -/
abbrev S_istrconv_FormatUint (a0 : Value) (a1 : Value) (K : Value → World → Prop) (w0 : World) : Prop :=
xEq a1 (.int .i64 10) fun v1000 =>
xIf v1000 (xLt a0 (.int .u64 100) fun v1001 =>
xIf v1001 (xConv .i64 a0 fun v1002 =>
Ret P n_istrconv_small [v1002] w0 fun v1003 w1004 =>
K v1003 w1004) (XNew w0 [(.int .u8 0), (.int .u8 0), (.int .u8 0), (.int .u8 0), (.int .u8 0), (.int .u8 0), (.int .u8 0), (.int .u8 0), (.int .u8 0), (.int .u8 0), (.int .u8 0), (.int .u8 0), (.int .u8 0), (.int .u8 0), (.int .u8 0), (.int .u8 0), (.int .u8 0), (.int .u8 0), (.int .u8 0), (.int .u8 0), (.int .u8 0), (.int .u8 0), (.int .u8 0), (.int .u8 0)] 136 fun a1005 w1006 =>
Ret P n_istrconv_numDigits [a0] w1006 fun v1007 w1008 =>
xCutA 24 1 (.pointer (some a1005)) none (some v1007) none fun v1009 =>
Ret P n_istrconv_formatBase10 [v1009, a0] w1008 fun v1010 w1011 =>
xCutA 24 1 (.pointer (some a1005)) none (some v1007) none fun v1012 =>
XRun P (convert 22 9 v1012) w1011 fun v1013 w1014 =>
K v1013 w1014)) (Ret P n_istrconv_formatBits [(.slice none 0 0), a0, a1, (.bool false), (.bool false)] w0 fun v1015 w1016 =>
xTup v1015 0 fun v1017 =>
xTup v1015 1 fun v1018 =>
K v1018 w1016)
theorem W_istrconv_FormatUint {a0 a1 : Value} {K : Value → World → Prop} {w : World} (h : S_istrconv_FormatUint a0 a1 K w) : Ret P n_istrconv_FormatUint [a0, a1] w K :=
  vcF_of mixed Tryz.func78 (show S_istrconv_FormatUint a0 a1 K w = vcF P Tryz.f78 [a0, a1] w K from by kernel_rfl) h
/- spunyarn/spunyarnref01.digits -/
abbrev S_ref01_digits (a0 : Value) (K : Value → World → Prop) (w0 : World) : Prop :=
xConv .i64 a0 fun v1000 =>
xQuo v1000 (.int .i64 16) fun v1001 =>
xConv .i64 a0 fun v1002 =>
xRem v1002 (.int .i64 16) fun v1003 =>
xAdd v1001 (.int .i64 1) fun v1004 =>
xCutStr (.string ⟨#[48, 49, 50, 51, 52, 53, 54, 55, 56, 57, 97, 98, 99, 100, 101, 102]⟩) (some v1001) (some v1004) fun v1005 =>
xAdd v1003 (.int .i64 1) fun v1006 =>
xCutStr (.string ⟨#[48, 49, 50, 51, 52, 53, 54, 55, 56, 57, 97, 98, 99, 100, 101, 102]⟩) (some v1003) (some v1006) fun v1007 =>
xSCat v1005 v1007 fun v1008 =>
K v1008 (w0.drew)
theorem W_ref01_digits {a0 : Value} {K : Value → World → Prop} {w : World} (h : S_ref01_digits a0 K w) : Ret P n_ref01_digits [a0] w K :=
  vcF_of mixed Tryz.func81 (show S_ref01_digits a0 K w = vcF P Tryz.f81 [a0] w K from by kernel_rfl) h
/- unicode/utf8.RuneCountInString -/
/- S_utf8_RuneCountInString_l1: 0=slot 2 n -/
def S_utf8_RuneCountInString_l1 (K : Value → World → Prop) (v1000 : Value) (I1002 : Nat → List Value → World → Prop) (n1003 : Nat) (vs1004 : List Value) (g1005 : Nat → Value) (w1006 : World) : Prop :=
XRun P (Instr.next v1000 true 0) w1006 fun v1007 w1008 =>
xTup v1007 0 fun v1009 =>
xIf v1009 (xAdd (vs1004.getD 0 undef) (.int .i64 1) fun v1010 =>
XNext I1002 n1003 [v1010] w1008) (K (vs1004.getD 0 undef) w1008)
abbrev S_utf8_RuneCountInString (a0 : Value) (K : Value → World → Prop) (w0 : World) : Prop :=
XRun P (Instr.range 9 a0) w0 fun v1000 w1001 =>
XLoop [(.int .i64 0)] w1001 (S_utf8_RuneCountInString_l1 K v1000)
theorem W_utf8_RuneCountInString {a0 : Value} {K : Value → World → Prop} {w : World} (h : S_utf8_RuneCountInString a0 K w) : Ret P n_utf8_RuneCountInString [a0] w K :=
  vcF_of mixed Tryz.func82 (show S_utf8_RuneCountInString a0 K w = vcF P Tryz.f82 [a0] w K from by kernel_rfl) h
/- unicode/utf8.DecodeRuneInString -/
abbrev S_utf8_DecodeRuneInString (a0 : Value) (K : Value → World → Prop) (w0 : World) : Prop :=
/- 0 -/ XJ (fun J1000 =>
xSNe a0 (.string ⟨#[]⟩) fun v1004 =>
xIf v1004 (xIxStr a0 (.int .i64 0) fun v1005 =>
xLt v1005 (.int .u8 128) fun v1006 =>
J1000 [v1006] w0) (J1000 [(.bool false)] w0)) fun vs1001 g1002 w1003 =>
xIf (vs1001.getD 0 undef) (xIxStr a0 (.int .i64 0) fun v1007 =>
xConv .i32 v1007 fun v1008 =>
K (.tuple #[v1008, (.int .i64 1)]) w1003) (Ret P n_utf8_decodeRuneInStringSlow [a0] w1003 fun v1009 w1010 =>
xTup v1009 0 fun v1011 =>
xTup v1009 1 fun v1012 =>
K (.tuple #[v1011, v1012]) w1010)
theorem W_utf8_DecodeRuneInString {a0 : Value} {K : Value → World → Prop} {w : World} (h : S_utf8_DecodeRuneInString a0 K w) : Ret P n_utf8_DecodeRuneInString [a0] w K :=
  vcF_of mixed Tryz.func83 (show S_utf8_DecodeRuneInString a0 K w = vcF P Tryz.f83 [a0] w K from by kernel_rfl) h
/- internal/stringslite.CutPrefix -/
abbrev S_stringslite_CutPrefix (a0 : Value) (a1 : Value) (K : Value → World → Prop) (w0 : World) : Prop :=
Ret P n_stringslite_HasPrefix [a0, a1] w0 fun v1000 w1001 =>
xNot v1000 fun v1002 =>
xIf v1002 (K (.tuple #[a0, (.bool false)]) w1001) (xLenS a1 fun v1003 =>
xCutStr a0 (some v1003) none fun v1004 =>
K (.tuple #[v1004, (.bool true)]) w1001)
theorem W_stringslite_CutPrefix {a0 a1 : Value} {K : Value → World → Prop} {w : World} (h : S_stringslite_CutPrefix a0 a1 K w) : Ret P n_stringslite_CutPrefix [a0, a1] w K :=
  vcF_of mixed Tryz.func85 (show S_stringslite_CutPrefix a0 a1 K w = vcF P Tryz.f85 [a0, a1] w K from by kernel_rfl) h
/- internal/strconv.Atoi -/
/- S_istrconv_Atoi_l1: 0=slot 49 1=slot 8 ch 2=slot 2 3=slot 3 4=slot 6 n -/
def S_istrconv_Atoi_l1 (K : Value → World → Prop) (a0 : Value) (v1024 : Value) (v1026 : Value) (I1027 : Nat → List Value → World → Prop) (n1028 : Nat) (vs1029 : List Value) (g1030 : Nat → Value) (w1031 : World) : Prop :=
xLt (vs1029.getD 0 undef) v1026 fun v1032 =>
xIf v1032 (xIxS v1024 (vs1029.getD 0 undef) 1 fun v1033 =>
xAt v1033 fun a1034 =>
XLd w1031 a1034 fun v1035 =>
xSub v1035 (.int .u8 48) fun v1036 =>
xGt v1036 (.int .u8 9) fun v1037 =>
xIf v1037 (XRun P (Instr.makeInterface 142 (.int .i64 2)) w1031 fun v1038 w1039 =>
K (.tuple #[(.int .i64 0), v1038]) w1039) (xMul (vs1029.getD 4 undef) (.int .i64 10) fun v1040 =>
xConv .i64 v1036 fun v1041 =>
xAdd v1040 v1041 fun v1042 =>
xAdd (vs1029.getD 0 undef) (.int .i64 1) fun v1043 =>
XNext I1027 n1028 [v1043, v1036, (vs1029.getD 2 undef), (vs1029.getD 3 undef), v1042] w1031)) (/- 0 n -/ XJ (fun J1044 =>
xIxStr a0 (.int .i64 0) fun v1048 =>
xEq v1048 (.int .u8 45) fun v1049 =>
xIf v1049 (xNeg (vs1029.getD 4 undef) fun v1050 =>
J1044 [v1050] w1031) (J1044 [(vs1029.getD 4 undef)] w1031)) fun vs1045 g1046 w1047 =>
K (.tuple #[(vs1045.getD 0 undef), .nilIface]) w1047)
abbrev S_istrconv_Atoi (a0 : Value) (K : Value → World → Prop) (w0 : World) : Prop :=
xLenS a0 fun v1000 =>
/- 0 -/ XJ (fun J1001 =>
xLt (.int .i64 0) v1000 fun v1005 =>
xIf v1005 (xLt v1000 (.int .i64 19) fun v1006 =>
J1001 [v1006] w0) (J1001 [(.bool false)] w0)) fun vs1002 g1003 w1004 =>
xIf (vs1002.getD 0 undef) (/- 0 s 1 2 -/ XJ (fun J1007 =>
/- 0 -/ XJ (fun J1011 =>
xIxStr a0 (.int .i64 0) fun v1015 =>
xEq v1015 (.int .u8 45) fun v1016 =>
xIf v1016 (J1011 [(.bool true)] w1004) (xIxStr a0 (.int .i64 0) fun v1017 =>
xEq v1017 (.int .u8 43) fun v1018 =>
J1011 [v1018] w1004)) fun vs1012 g1013 w1014 =>
xIf (vs1012.getD 0 undef) (xCutStr a0 (some (.int .i64 1)) none fun v1019 =>
xLenS v1019 fun v1020 =>
xLt v1020 (.int .i64 1) fun v1021 =>
xIf v1021 (XRun P (Instr.makeInterface 142 (.int .i64 2)) w1014 fun v1022 w1023 =>
K (.tuple #[(.int .i64 0), v1022]) w1023) (J1007 [v1019, (.int .i64 0), .nilIface] w1014)) (J1007 [a0, (.int .i64 0), .nilIface] w1014)) fun vs1008 g1009 w1010 =>
XRun P (convert 9 22 (vs1008.getD 0 undef)) w1010 fun v1024 w1025 =>
xLen v1024 fun v1026 =>
XLoop [(.int .i64 0), undef, (vs1008.getD 1 undef), (vs1008.getD 2 undef), (.int .i64 0)] w1025 (S_istrconv_Atoi_l1 K a0 v1024 v1026)) (Ret P n_istrconv_ParseInt [a0, (.int .i64 10), (.int .i64 0)] w1004 fun v1051 w1052 =>
xTup v1051 0 fun v1053 =>
xTup v1051 1 fun v1054 =>
K (.tuple #[v1053, v1054]) w1052)
theorem W_istrconv_Atoi {a0 : Value} {K : Value → World → Prop} {w : World} (h : S_istrconv_Atoi a0 K w) : Ret P n_istrconv_Atoi [a0] w K :=
  vcF_of mixed Tryz.func86 (show S_istrconv_Atoi a0 K w = vcF P Tryz.f86 [a0] w K from by kernel_rfl) h
end Go.Proofs.YtbfnagdpanfphaaGreatDoor
