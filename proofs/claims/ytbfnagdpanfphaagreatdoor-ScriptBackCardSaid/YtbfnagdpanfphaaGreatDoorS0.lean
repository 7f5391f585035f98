/-  Written by gen.py for this claim: of each function a form without frames, the same as the engine's condition by reckoning.  -/
import Derived.Test.YtbfnagdpanfphaaGreatDoorSN
import Derived.Test.YtbfnagdpanfphaaGreatDoorProg
namespace Go.Proofs.YtbfnagdpanfphaaGreatDoor
open Go X
set_option linter.unusedVariables false
set_option maxRecDepth 100000
/- spunyarn/script.Text -/
/- S_script_Text_l1: 0=slot 8 sign 1=slot 9 w 2=slot 10 e 3=slot 2 4=slot 3 5=slot 6 words -/
def S_script_Text_l1 (K : Value → World → Prop) (a1000 : Addr) (v1011 : Value) (I1013 : Nat → List Value → World → Prop) (n1014 : Nat) (vs1015 : List Value) (g1016 : Nat → Value) (w1017 : World) : Prop :=
XRun P (Instr.next v1011 true 0) w1017 fun v1018 w1019 =>
xTup v1018 0 fun v1020 =>
xIf v1020 (xTup v1018 2 fun v1021 =>
XLdN w1019 a1000 12 fun v1022 =>
Ret P n_script_tell [v1022, v1021] w1019 fun v1023 w1024 =>
xTup v1023 0 fun v1025 =>
xTup v1023 1 fun v1026 =>
xNe v1026 (.int .i64 0) fun v1027 =>
xIf v1027 (K (.tuple #[(.string ⟨#[]⟩), v1026]) w1024) (xFill (repL [(.string ⟨#[]⟩)] 1) [(0, 1, v1025)] fun c1028 =>
XNew w1024 c1028 9 fun a1029 w1030 =>
XRun P (Builtin.append_ #[46, 46] 46 #[(vs1015.getD 5 undef), (.slice (some a1029) 1 1)]) w1030 fun v1031 w1032 =>
XNext I1013 n1014 [v1021, v1025, v1026, (vs1015.getD 3 undef), (vs1015.getD 4 undef), v1031] w1032)) (Ret P n_strings_Join [(vs1015.getD 5 undef), (.string ⟨#[32]⟩)] w1019 fun v1033 w1034 =>
K (.tuple #[v1033, (.int .i64 0)]) w1034)
abbrev S_script_Text (a0 : Value) (K : Value → World → Prop) (w0 : World) : Prop :=
XNew w0 (cellsV a0) 36 fun a1000 w1001 =>
XLd w1001 (a1000.add 0) fun v1002 =>
Ret P n_script_form [v1002] w1001 fun v1003 w1004 =>
xTup v1003 0 fun v1005 =>
xTup v1003 1 fun v1006 =>
xSEq v1005 (.string ⟨#[]⟩) fun v1007 =>
xIf v1007 (K (.tuple #[(.string ⟨#[]⟩), (.int .i64 1)]) w1004) (xFill (repL [(.string ⟨#[]⟩)] 1) [(0, 1, v1005)] fun c1008 =>
XNew w1004 c1008 9 fun a1009 w1010 =>
XRun P (Instr.range 9 v1006) w1010 fun v1011 w1012 =>
XLoop [undef, undef, undef, (.string ⟨#[]⟩), (.int .i64 0), (.slice (some a1009) 1 1)] w1012 (S_script_Text_l1 K a1000 v1011))
theorem W_script_Text {a0 : Value} {K : Value → World → Prop} {w : World} (h : S_script_Text a0 K w) : Ret P n_script_Text [a0] w K :=
  vcF_of mixed Tryz.func7 (show S_script_Text a0 K w = vcF P Tryz.f7 [a0] w K from by kernel_rfl) h
/- spunyarn/spunyarnref36.Text -/
/- S_ref36_Text_l1: 0=slot 6 i 1=slot 7 w 2=slot 8 e 3=slot 2 4=slot 3 5=slot 4 out -/
def S_ref36_Text_l1 (K : Value → World → Prop) (a1000 : Addr) (v1007 : Value) (I1009 : Nat → List Value → World → Prop) (n1010 : Nat) (vs1011 : List Value) (g1012 : Nat → Value) (w1013 : World) : Prop :=
xLenS v1007 fun v1014 =>
xLt (vs1011.getD 0 undef) v1014 fun v1015 =>
xIf v1015 (XLdN w1013.drew a1000 12 fun v1016 =>
xIxStr v1007 (vs1011.getD 0 undef) fun v1017 =>
Ret P n_ref36_tell [v1016, v1017] w1013.drew fun v1018 w1019 =>
xTup v1018 0 fun v1020 =>
xTup v1018 1 fun v1021 =>
xNe v1021 (.int .i64 0) fun v1022 =>
xIf v1022 (K (.tuple #[(.string ⟨#[]⟩), v1021]) w1019) (xSCat (.string ⟨#[32]⟩) v1020 fun v1023 =>
xSCat (vs1011.getD 5 undef) v1023 fun v1024 =>
xAdd (vs1011.getD 0 undef) (.int .i64 1) fun v1025 =>
XNext I1009 n1010 [v1025, v1020, v1021, (vs1011.getD 3 undef), (vs1011.getD 4 undef), v1024] w1019)) (K (.tuple #[(vs1011.getD 5 undef), (.int .i64 0)]) w1013)
abbrev S_ref36_Text (a0 : Value) (K : Value → World → Prop) (w0 : World) : Prop :=
XNew w0 (cellsV a0) 27 fun a1000 w1001 =>
XLd w1001 (a1000.add 0) fun v1002 =>
Ret P n_ref36_Name [v1002] w1001 fun v1003 w1004 =>
xSEq v1003 (.string ⟨#[]⟩) fun v1005 =>
xIf v1005 (K (.tuple #[(.string ⟨#[]⟩), (.int .i64 1)]) w1004) (XLd w1004 (a1000.add 0) fun v1006 =>
Ret P n_ref36_Form [v1006] w1004 fun v1007 w1008 =>
XLoop [(.int .i64 0), undef, undef, (.string ⟨#[]⟩), (.int .i64 0), v1003] w1008 (S_ref36_Text_l1 K a1000 v1007))
theorem W_ref36_Text {a0 : Value} {K : Value → World → Prop} {w : World} (h : S_ref36_Text a0 K w) : Ret P n_ref36_Text [a0] w K :=
  vcF_of mixed Tryz.func9 (show S_ref36_Text a0 K w = vcF P Tryz.f9 [a0] w K from by kernel_rfl) h
/- spunyarn/spunyarnref36.Same -/
abbrev S_ref36_Same (a0 : Value) (a1 : Value) (K : Value → World → Prop) (w0 : World) : Prop :=
XNew w0 (cellsV a0) 27 fun a1000 w1001 =>
XNew w1001 (cellsV a1) 27 fun a1002 w1003 =>
/- 0 -/ XJ (fun J1004 =>
XLd w1003 (a1000.add 0) fun v1008 =>
XLd w1003 (a1002.add 0) fun v1009 =>
xEq v1008 v1009 fun v1010 =>
xIf v1010 (XLd w1003 (a1000.add 1) fun v1011 =>
XLd w1003 (a1002.add 1) fun v1012 =>
xEq v1011 v1012 fun v1013 =>
xIf v1013 (XLd w1003 (a1000.add 2) fun v1014 =>
XLd w1003 (a1002.add 2) fun v1015 =>
xEq v1014 v1015 fun v1016 =>
xIf v1016 (XLd w1003 (a1000.add 3) fun v1017 =>
XLd w1003 (a1002.add 3) fun v1018 =>
Ret P n_ref01_Same [v1017, v1018] w1003 fun v1019 w1020 =>
xIf v1019 (XLd w1020 (a1000.add 4) fun v1021 =>
XLd w1020 (a1002.add 4) fun v1022 =>
Ret P n_ref01_Same [v1021, v1022] w1020 fun v1023 w1024 =>
xIf v1023 (XLd w1024 (a1000.add 5) fun v1025 =>
XLd w1024 (a1002.add 5) fun v1026 =>
xBEq v1025 v1026 fun v1027 =>
xIf v1027 (XLd w1024 (a1000.add 6) fun v1028 =>
XLd w1024 (a1002.add 6) fun v1029 =>
xEq v1028 v1029 fun v1030 =>
xIf v1030 (XLd w1024 (a1000.add 7) fun v1031 =>
XLd w1024 (a1002.add 7) fun v1032 =>
xEq v1031 v1032 fun v1033 =>
xIf v1033 (XLd w1024 (a1000.add 8) fun v1034 =>
XLd w1024 (a1002.add 8) fun v1035 =>
xBEq v1034 v1035 fun v1036 =>
xIf v1036 (XLd w1024 (a1000.add 9) fun v1037 =>
XLd w1024 (a1002.add 9) fun v1038 =>
Ret P n_ref19_Same [v1037, v1038] w1024 fun v1039 w1040 =>
xIf v1039 (XLd w1040 (a1000.add 10) fun v1041 =>
XLd w1040 (a1002.add 10) fun v1042 =>
Ret P n_ref29_Same [v1041, v1042] w1040 fun v1043 w1044 =>
xIf v1043 (XLd w1044 (a1000.add 11) fun v1045 =>
XLd w1044 (a1002.add 11) fun v1046 =>
Ret P n_ref01_Same [v1045, v1046] w1044 fun v1047 w1048 =>
J1004 [v1047] w1048) (J1004 [(.bool false)] w1044)) (J1004 [(.bool false)] w1040)) (J1004 [(.bool false)] w1024)) (J1004 [(.bool false)] w1024)) (J1004 [(.bool false)] w1024)) (J1004 [(.bool false)] w1024)) (J1004 [(.bool false)] w1024)) (J1004 [(.bool false)] w1020)) (J1004 [(.bool false)] w1003)) (J1004 [(.bool false)] w1003)) (J1004 [(.bool false)] w1003)) fun vs1005 g1006 w1007 =>
K (vs1005.getD 0 undef) w1007
theorem W_ref36_Same {a0 a1 : Value} {K : Value → World → Prop} {w : World} (h : S_ref36_Same a0 a1 K w) : Ret P n_ref36_Same [a0, a1] w K :=
  vcF_of mixed Tryz.func10 (show S_ref36_Same a0 a1 K w = vcF P Tryz.f10 [a0, a1] w K from by kernel_rfl) h
/- spunyarn/script.Bare -/
/- S_script_Bare_l1: 0=slot 7 sign 1=slot 30 2=slot 35 3=slot 40 4=slot 45 5=slot 51 6=slot 63 7=slot 68 8=slot 73 9=slot 79 -/
def S_script_Bare_l1 (K : Value → World → Prop) (a1000 : Addr) (a1002 : Addr) (a1015 : Addr) (v1018 : Value) (I1020 : Nat → List Value → World → Prop) (n1021 : Nat) (vs1022 : List Value) (g1023 : Nat → Value) (w1024 : World) : Prop :=
XRun P (Instr.next v1018 true 0) w1024 fun v1025 w1026 =>
xTup v1025 0 fun v1027 =>
xIf v1027 (xTup v1025 2 fun v1028 =>
xEq v1028 (.int .i32 97) fun v1029 =>
xIf v1029 (XLd w1026 (a1000.add 1) fun v1030 =>
XSt w1026 (a1015.add 1) v1030 fun w1031 =>
XNext I1020 n1021 [v1028, v1029, (vs1022.getD 2 undef), (vs1022.getD 3 undef), (vs1022.getD 4 undef), (vs1022.getD 5 undef), (vs1022.getD 6 undef), (vs1022.getD 7 undef), (vs1022.getD 8 undef), (vs1022.getD 9 undef)] w1031) (xEq v1028 (.int .i32 98) fun v1032 =>
xIf v1032 (XLd w1026 (a1000.add 2) fun v1033 =>
XSt w1026 (a1015.add 2) v1033 fun w1034 =>
XNext I1020 n1021 [v1028, v1029, v1032, (vs1022.getD 3 undef), (vs1022.getD 4 undef), (vs1022.getD 5 undef), (vs1022.getD 6 undef), (vs1022.getD 7 undef), (vs1022.getD 8 undef), (vs1022.getD 9 undef)] w1034) (xEq v1028 (.int .i32 110) fun v1035 =>
xIf v1035 (XLd w1026 (a1000.add 7) fun v1036 =>
XSt w1026 (a1015.add 7) v1036 fun w1037 =>
XNext I1020 n1021 [v1028, v1029, v1032, v1035, (vs1022.getD 4 undef), (vs1022.getD 5 undef), (vs1022.getD 6 undef), (vs1022.getD 7 undef), (vs1022.getD 8 undef), (vs1022.getD 9 undef)] w1037) (xEq v1028 (.int .i32 107) fun v1038 =>
xIf v1038 (XLd w1026 (a1000.add 3) fun v1039 =>
Ret P n_bytes_Clone [v1039] w1026 fun v1040 w1041 =>
XSt w1041 (a1015.add 3) v1040 fun w1042 =>
XNext I1020 n1021 [v1028, v1029, v1032, v1035, v1038, (vs1022.getD 5 undef), (vs1022.getD 6 undef), (vs1022.getD 7 undef), (vs1022.getD 8 undef), (vs1022.getD 9 undef)] w1042) (xEq v1028 (.int .i32 116) fun v1043 =>
xIf v1043 (XLd w1026 (a1000.add 5) fun v1044 =>
XSt w1026 (a1015.add 5) v1044 fun w1045 =>
XLd w1045 (a1000.add 5) fun v1046 =>
xNot v1046 fun v1047 =>
xIf v1047 (XLd w1045 (a1000.add 4) fun v1048 =>
Ret P n_bytes_Clone [v1048] w1045 fun v1049 w1050 =>
XSt w1050 (a1015.add 4) v1049 fun w1051 =>
XNext I1020 n1021 [v1028, v1029, v1032, v1035, v1038, v1043, (vs1022.getD 6 undef), (vs1022.getD 7 undef), (vs1022.getD 8 undef), (vs1022.getD 9 undef)] w1051) (XNext I1020 n1021 [v1028, v1029, v1032, v1035, v1038, v1043, (vs1022.getD 6 undef), (vs1022.getD 7 undef), (vs1022.getD 8 undef), (vs1022.getD 9 undef)] w1045)) (xEq v1028 (.int .i32 118) fun v1052 =>
xIf v1052 (XLd w1026 (a1000.add 6) fun v1053 =>
XSt w1026 (a1015.add 6) v1053 fun w1054 =>
XNext I1020 n1021 [v1028, v1029, v1032, v1035, v1038, v1043, v1052, (vs1022.getD 7 undef), (vs1022.getD 8 undef), (vs1022.getD 9 undef)] w1054) (xEq v1028 (.int .i32 102) fun v1055 =>
xIf v1055 (XLd w1026 (a1000.add 8) fun v1056 =>
XSt w1026 (a1015.add 8) v1056 fun w1057 =>
XNext I1020 n1021 [v1028, v1029, v1032, v1035, v1038, v1043, v1052, v1055, (vs1022.getD 8 undef), (vs1022.getD 9 undef)] w1057) (xEq v1028 (.int .i32 112) fun v1058 =>
xIf v1058 (XLd w1026 (a1000.add 9) fun v1059 =>
Ret P n_script_copyPairs [v1059] w1026 fun v1060 w1061 =>
XSt w1061 (a1015.add 9) v1060 fun w1062 =>
XNext I1020 n1021 [v1028, v1029, v1032, v1035, v1038, v1043, v1052, v1055, v1058, (vs1022.getD 9 undef)] w1062) (xEq v1028 (.int .i32 99) fun v1063 =>
xIf v1063 (XLd w1026 (a1000.add 10) fun v1064 =>
Ret P n_script_copyChanges [v1064] w1026 fun v1065 w1066 =>
XSt w1066 (a1015.add 10) v1065 fun w1067 =>
XNext I1020 n1021 [v1028, v1029, v1032, v1035, v1038, v1043, v1052, v1055, v1058, v1063] w1067) (XLd w1026 (a1000.add 11) fun v1068 =>
Ret P n_bytes_Clone [v1068] w1026 fun v1069 w1070 =>
XSt w1070 (a1015.add 11) v1069 fun w1071 =>
XNext I1020 n1021 [v1028, v1029, v1032, v1035, v1038, v1043, v1052, v1055, v1058, v1063] w1071)))))))))) (XLdN w1026 a1015 12 fun v1072 =>
XDo P (storeVar 36 a1002 v1072) w1026 fun w1073 =>
XLdN w1073 a1002 12 fun v1074 =>
K v1074 w1073)
abbrev S_script_Bare (a0 : Value) (K : Value → World → Prop) (w0 : World) : Prop :=
XNew w0 (cellsV a0) 36 fun a1000 w1001 =>
XNew w1001 [(.int .i64 0), (.int .i64 0), (.int .i64 0), (.slice none 0 0), (.slice none 0 0), (.bool false), (.int .u64 0), (.int .i64 0), (.bool false), (.slice none 0 0), (.slice none 0 0), (.slice none 0 0)] 36 fun a1002 w1003 =>
XLd w1003 (a1000.add 0) fun v1004 =>
Ret P n_script_form [v1004] w1003 fun v1005 w1006 =>
xTup v1005 0 fun v1007 =>
xTup v1005 1 fun v1008 =>
xSEq v1007 (.string ⟨#[]⟩) fun v1009 =>
xIf v1009 (xFill [(.int .i64 0), (.int .i64 0), (.int .i64 0), (.slice none 0 0), (.slice none 0 0), (.bool false), (.int .u64 0), (.int .i64 0), (.bool false), (.slice none 0 0), (.slice none 0 0), (.slice none 0 0)] [] fun c1010 =>
XDo P (storeVar 36 a1002 (.agg c1010.toArray)) w1006 fun w1011 =>
XLdN w1011 a1002 12 fun v1012 =>
K v1012 w1011) (XLd w1006 (a1000.add 0) fun v1013 =>
xFill [(.int .i64 0), (.int .i64 0), (.int .i64 0), (.slice none 0 0), (.slice none 0 0), (.bool false), (.int .u64 0), (.int .i64 0), (.bool false), (.slice none 0 0), (.slice none 0 0), (.slice none 0 0)] [(0, 1, v1013)] fun c1014 =>
XNew w1006 [(.int .i64 0), (.int .i64 0), (.int .i64 0), (.slice none 0 0), (.slice none 0 0), (.bool false), (.int .u64 0), (.int .i64 0), (.bool false), (.slice none 0 0), (.slice none 0 0), (.slice none 0 0)] 36 fun a1015 w1016 =>
XDo P (storeVar 36 a1015 (.agg c1014.toArray)) w1016 fun w1017 =>
XRun P (Instr.range 9 v1008) w1017 fun v1018 w1019 =>
XLoop [undef, undef, undef, undef, undef, undef, undef, undef, undef, undef] w1019 (S_script_Bare_l1 K a1000 a1002 a1015 v1018))
theorem W_script_Bare {a0 : Value} {K : Value → World → Prop} {w : World} (h : S_script_Bare a0 K w) : Ret P n_script_Bare [a0] w K :=
  vcF_of mixed Tryz.func12 (show S_script_Bare a0 K w = vcF P Tryz.f12 [a0] w K from by kernel_rfl) h
/- spunyarn/spunyarnref36.Bare -/
abbrev S_ref36_Bare (a0 : Value) (K : Value → World → Prop) (w0 : World) : Prop :=
XNew w0 (cellsV a0) 27 fun a1000 w1001 =>
XNew w1001 [(.int .i64 0), (.int .i64 0), (.int .i64 0), (.slice none 0 0), (.slice none 0 0), (.bool false), (.int .u64 0), (.int .i64 0), (.bool false), (.slice none 0 0), (.slice none 0 0), (.slice none 0 0)] 27 fun a1002 w1003 =>
XLd w1003 (a1000.add 0) fun v1004 =>
Ret P n_ref36_Form [v1004] w1003 fun v1005 w1006 =>
XLd w1006 (a1000.add 0) fun v1007 =>
Ret P n_ref36_Name [v1007] w1006 fun v1008 w1009 =>
xSEq v1008 (.string ⟨#[]⟩) fun v1010 =>
xIf v1010 (xFill [(.int .i64 0), (.int .i64 0), (.int .i64 0), (.slice none 0 0), (.slice none 0 0), (.bool false), (.int .u64 0), (.int .i64 0), (.bool false), (.slice none 0 0), (.slice none 0 0), (.slice none 0 0)] [] fun c1011 =>
XDo P (storeVar 27 a1002 (.agg c1011.toArray)) w1009 fun w1012 =>
XLdN w1012 a1002 12 fun v1013 =>
K v1013 w1012) (XLd w1009 (a1000.add 0) fun v1014 =>
xFill [(.int .i64 0), (.int .i64 0), (.int .i64 0), (.slice none 0 0), (.slice none 0 0), (.bool false), (.int .u64 0), (.int .i64 0), (.bool false), (.slice none 0 0), (.slice none 0 0), (.slice none 0 0)] [(0, 1, v1014)] fun c1015 =>
XNew w1009 [(.int .i64 0), (.int .i64 0), (.int .i64 0), (.slice none 0 0), (.slice none 0 0), (.bool false), (.int .u64 0), (.int .i64 0), (.bool false), (.slice none 0 0), (.slice none 0 0), (.slice none 0 0)] 27 fun a1016 w1017 =>
XDo P (storeVar 27 a1016 (.agg c1015.toArray)) w1017 fun w1018 =>
/-  -/ XJ (fun J1019 =>
Ret P n_ref36_has [v1005, (.int .u8 97)] w1018 fun v1023 w1024 =>
xIf v1023 (XLd w1024 (a1000.add 1) fun v1025 =>
XSt w1024 (a1016.add 1) v1025 fun w1026 =>
J1019 [] w1026) (J1019 [] w1024)) fun vs1020 g1021 w1022 =>
/-  -/ XJ (fun J1027 =>
Ret P n_ref36_has [v1005, (.int .u8 98)] w1022 fun v1031 w1032 =>
xIf v1031 (XLd w1032 (a1000.add 2) fun v1033 =>
XSt w1032 (a1016.add 2) v1033 fun w1034 =>
J1027 [] w1034) (J1027 [] w1032)) fun vs1028 g1029 w1030 =>
/-  -/ XJ (fun J1035 =>
Ret P n_ref36_has [v1005, (.int .u8 110)] w1030 fun v1039 w1040 =>
xIf v1039 (XLd w1040 (a1000.add 7) fun v1041 =>
XSt w1040 (a1016.add 7) v1041 fun w1042 =>
J1035 [] w1042) (J1035 [] w1040)) fun vs1036 g1037 w1038 =>
/-  -/ XJ (fun J1043 =>
Ret P n_ref36_has [v1005, (.int .u8 107)] w1038 fun v1047 w1048 =>
xIf v1047 (XLd w1048 (a1000.add 3) fun v1049 =>
XSt w1048 (a1016.add 3) v1049 fun w1050 =>
J1043 [] w1050) (J1043 [] w1048)) fun vs1044 g1045 w1046 =>
/-  -/ XJ (fun J1051 =>
Ret P n_ref36_has [v1005, (.int .u8 116)] w1046 fun v1055 w1056 =>
xIf v1055 (XLd w1056 (a1000.add 5) fun v1057 =>
XSt w1056 (a1016.add 5) v1057 fun w1058 =>
XLd w1058 (a1000.add 5) fun v1059 =>
xNot v1059 fun v1060 =>
xIf v1060 (XLd w1058 (a1000.add 4) fun v1061 =>
XSt w1058 (a1016.add 4) v1061 fun w1062 =>
J1051 [] w1062) (J1051 [] w1058)) (J1051 [] w1056)) fun vs1052 g1053 w1054 =>
/-  -/ XJ (fun J1063 =>
Ret P n_ref36_has [v1005, (.int .u8 118)] w1054 fun v1067 w1068 =>
xIf v1067 (XLd w1068 (a1000.add 6) fun v1069 =>
XSt w1068 (a1016.add 6) v1069 fun w1070 =>
J1063 [] w1070) (J1063 [] w1068)) fun vs1064 g1065 w1066 =>
/-  -/ XJ (fun J1071 =>
Ret P n_ref36_has [v1005, (.int .u8 102)] w1066 fun v1075 w1076 =>
xIf v1075 (XLd w1076 (a1000.add 8) fun v1077 =>
XSt w1076 (a1016.add 8) v1077 fun w1078 =>
J1071 [] w1078) (J1071 [] w1076)) fun vs1072 g1073 w1074 =>
/-  -/ XJ (fun J1079 =>
Ret P n_ref36_has [v1005, (.int .u8 112)] w1074 fun v1083 w1084 =>
xIf v1083 (XLd w1084 (a1000.add 9) fun v1085 =>
XSt w1084 (a1016.add 9) v1085 fun w1086 =>
J1079 [] w1086) (J1079 [] w1084)) fun vs1080 g1081 w1082 =>
/-  -/ XJ (fun J1087 =>
Ret P n_ref36_has [v1005, (.int .u8 99)] w1082 fun v1091 w1092 =>
xIf v1091 (XLd w1092 (a1000.add 10) fun v1093 =>
XSt w1092 (a1016.add 10) v1093 fun w1094 =>
J1087 [] w1094) (J1087 [] w1092)) fun vs1088 g1089 w1090 =>
/-  -/ XJ (fun J1095 =>
Ret P n_ref36_has [v1005, (.int .u8 120)] w1090 fun v1099 w1100 =>
xIf v1099 (XLd w1100 (a1000.add 11) fun v1101 =>
XSt w1100 (a1016.add 11) v1101 fun w1102 =>
J1095 [] w1102) (J1095 [] w1100)) fun vs1096 g1097 w1098 =>
XLdN w1098 a1016 12 fun v1103 =>
XDo P (storeVar 27 a1002 v1103) w1098 fun w1104 =>
XLdN w1104 a1002 12 fun v1105 =>
K v1105 w1104)
theorem W_ref36_Bare {a0 : Value} {K : Value → World → Prop} {w : World} (h : S_ref36_Bare a0 K w) : Ret P n_ref36_Bare [a0] w K :=
  vcF_of mixed Tryz.func13 (show S_ref36_Bare a0 K w = vcF P Tryz.f13 [a0] w K from by kernel_rfl) h
/- spunyarn/script.Parse -/
/- S_script_Parse_l1: 0=slot 9 sign 1=slot 4 words 2=slot 3 3=slot 10 e -/
def S_script_Parse_l1 (K : Value → World → Prop) (a1000 : Addr) (a1010 : Addr) (v1024 : Value) (I1026 : Nat → List Value → World → Prop) (n1027 : Nat) (vs1028 : List Value) (g1029 : Nat → Value) (w1030 : World) : Prop :=
XRun P (Instr.next v1024 true 0) w1030 fun v1031 w1032 =>
xTup v1031 0 fun v1033 =>
xIf v1033 (xTup v1031 2 fun v1034 =>
xLen (vs1028.getD 1 undef) fun v1035 =>
xEq v1035 (.int .i64 0) fun v1036 =>
xIf v1036 (xFill [(.int .i64 0), (.int .i64 0), (.int .i64 0), (.slice none 0 0), (.slice none 0 0), (.bool false), (.int .u64 0), (.int .i64 0), (.bool false), (.slice none 0 0), (.slice none 0 0), (.slice none 0 0)] [] fun c1037 =>
XDo P (storeVar 36 a1000 (.agg c1037.toArray)) w1032 fun w1038 =>
XLdN w1038 a1000 12 fun v1039 =>
K (.tuple #[v1039, (.int .i64 4)]) w1038) (xIxS (vs1028.getD 1 undef) (.int .i64 0) 1 fun v1040 =>
xAt v1040 fun a1041 =>
XLd w1032 a1041 fun v1042 =>
Ret P n_script_word [(.pointer (some a1010)), v1034, v1042] w1032 fun v1043 w1044 =>
xNe v1043 (.int .i64 0) fun v1045 =>
xIf v1045 (xFill [(.int .i64 0), (.int .i64 0), (.int .i64 0), (.slice none 0 0), (.slice none 0 0), (.bool false), (.int .u64 0), (.int .i64 0), (.bool false), (.slice none 0 0), (.slice none 0 0), (.slice none 0 0)] [] fun c1046 =>
XDo P (storeVar 36 a1000 (.agg c1046.toArray)) w1044 fun w1047 =>
XLdN w1047 a1000 12 fun v1048 =>
K (.tuple #[v1048, v1043]) w1047) (xCutS 1 (vs1028.getD 1 undef) (some (.int .i64 1)) none none fun v1049 =>
XNext I1026 n1027 [v1034, v1049, (vs1028.getD 2 undef), v1043] w1044))) (xLen (vs1028.getD 1 undef) fun v1050 =>
xGt v1050 (.int .i64 0) fun v1051 =>
xIf v1051 (xFill [(.int .i64 0), (.int .i64 0), (.int .i64 0), (.slice none 0 0), (.slice none 0 0), (.bool false), (.int .u64 0), (.int .i64 0), (.bool false), (.slice none 0 0), (.slice none 0 0), (.slice none 0 0)] [] fun c1052 =>
XDo P (storeVar 36 a1000 (.agg c1052.toArray)) w1032 fun w1053 =>
XLdN w1053 a1000 12 fun v1054 =>
K (.tuple #[v1054, (.int .i64 5)]) w1053) (XLdN w1032 a1010 12 fun v1055 =>
XDo P (storeVar 36 a1000 v1055) w1032 fun w1056 =>
XLdN w1056 a1000 12 fun v1057 =>
K (.tuple #[v1057, (.int .i64 0)]) w1056))
abbrev S_script_Parse (a0 : Value) (K : Value → World → Prop) (w0 : World) : Prop :=
XNew w0 [(.int .i64 0), (.int .i64 0), (.int .i64 0), (.slice none 0 0), (.slice none 0 0), (.bool false), (.int .u64 0), (.int .i64 0), (.bool false), (.slice none 0 0), (.slice none 0 0), (.slice none 0 0)] 36 fun a1000 w1001 =>
Ret P n_strings_Split [a0, (.string ⟨#[32]⟩)] w1001 fun v1002 w1003 =>
xIxS v1002 (.int .i64 0) 1 fun v1004 =>
xAt v1004 fun a1005 =>
XLd w1003 a1005 fun v1006 =>
Ret P n_script_find [v1006] w1003 fun v1007 w1008 =>
xFill [(.int .i64 0), (.int .i64 0), (.int .i64 0), (.slice none 0 0), (.slice none 0 0), (.bool false), (.int .u64 0), (.int .i64 0), (.bool false), (.slice none 0 0), (.slice none 0 0), (.slice none 0 0)] [(0, 1, v1007)] fun c1009 =>
XNew w1008 [(.int .i64 0), (.int .i64 0), (.int .i64 0), (.slice none 0 0), (.slice none 0 0), (.bool false), (.int .u64 0), (.int .i64 0), (.bool false), (.slice none 0 0), (.slice none 0 0), (.slice none 0 0)] 36 fun a1010 w1011 =>
XDo P (storeVar 36 a1010 (.agg c1009.toArray)) w1011 fun w1012 =>
XLd w1012 (a1010.add 0) fun v1013 =>
xEq v1013 (.int .i64 0) fun v1014 =>
xIf v1014 (xFill [(.int .i64 0), (.int .i64 0), (.int .i64 0), (.slice none 0 0), (.slice none 0 0), (.bool false), (.int .u64 0), (.int .i64 0), (.bool false), (.slice none 0 0), (.slice none 0 0), (.slice none 0 0)] [] fun c1015 =>
XDo P (storeVar 36 a1000 (.agg c1015.toArray)) w1012 fun w1016 =>
XLdN w1016 a1000 12 fun v1017 =>
K (.tuple #[v1017, (.int .i64 6)]) w1016) (XLd w1012 (a1010.add 0) fun v1018 =>
Ret P n_script_form [v1018] w1012 fun v1019 w1020 =>
xTup v1019 0 fun v1021 =>
xTup v1019 1 fun v1022 =>
xCutS 1 v1002 (some (.int .i64 1)) none none fun v1023 =>
XRun P (Instr.range 9 v1022) w1020 fun v1024 w1025 =>
XLoop [undef, v1023, (.int .i64 0), undef] w1025 (S_script_Parse_l1 K a1000 a1010 v1024))
theorem W_script_Parse {a0 : Value} {K : Value → World → Prop} {w : World} (h : S_script_Parse a0 K w) : Ret P n_script_Parse [a0] w K :=
  vcF_of mixed Tryz.func14 (show S_script_Parse a0 K w = vcF P Tryz.f14 [a0] w K from by kernel_rfl) h
/- spunyarn/script.Lines -/
abbrev S_script_Lines (a0 : Value) (K : Value → World → Prop) (w0 : World) : Prop :=
Ret P n_strings_Split [a0, (.string ⟨#[10]⟩)] w0 fun v1000 w1001 =>
/- 0 l -/ XJ (fun J1002 =>
xLen v1000 fun v1006 =>
xSub v1006 (.int .i64 1) fun v1007 =>
xIxS v1000 v1007 1 fun v1008 =>
xAt v1008 fun a1009 =>
XLd w1001 a1009 fun v1010 =>
xSEq v1010 (.string ⟨#[]⟩) fun v1011 =>
xIf v1011 (xLen v1000 fun v1012 =>
xSub v1012 (.int .i64 1) fun v1013 =>
xCutS 1 v1000 none (some v1013) none fun v1014 =>
J1002 [v1014] w1001) (J1002 [v1000] w1001)) fun vs1003 g1004 w1005 =>
K (vs1003.getD 0 undef) w1005
theorem W_script_Lines {a0 : Value} {K : Value → World → Prop} {w : World} (h : S_script_Lines a0 K w) : Ret P n_script_Lines [a0] w K :=
  vcF_of mixed Tryz.func15 (show S_script_Lines a0 K w = vcF P Tryz.f15 [a0] w K from by kernel_rfl) h
/- spunyarn/script.Name -/
abbrev S_script_Name (a0 : Value) (K : Value → World → Prop) (w0 : World) : Prop :=
Ret P n_script_form [a0] w0 fun v1000 w1001 =>
xTup v1000 0 fun v1002 =>
xTup v1000 1 fun v1003 =>
K v1002 w1001
theorem W_script_Name {a0 : Value} {K : Value → World → Prop} {w : World} (h : S_script_Name a0 K w) : Ret P n_script_Name [a0] w K :=
  vcF_of mixed Tryz.func16 (show S_script_Name a0 K w = vcF P Tryz.f16 [a0] w K from by kernel_rfl) h
/- spunyarn/script.form -/
abbrev S_script_form (a0 : Value) (K : Value → World → Prop) (w0 : World) : Prop :=
Ret P n_script_forms [] w0 fun v1000 w1001 =>
/- 0 -/ XJ (fun J1002 =>
xLt a0 (.int .i64 1) fun v1006 =>
xIf v1006 (J1002 [(.bool true)] w1001) (xLen v1000 fun v1007 =>
xGt a0 v1007 fun v1008 =>
J1002 [v1008] w1001)) fun vs1003 g1004 w1005 =>
xIf (vs1003.getD 0 undef) (K (.tuple #[(.string ⟨#[]⟩), (.string ⟨#[]⟩)]) w1005) (xSub a0 (.int .i64 1) fun v1009 =>
xIxS v1000 v1009 1 fun v1010 =>
xAt v1010 fun a1011 =>
XLd w1005 a1011 fun v1012 =>
Ret P n_strings_Cut [v1012, (.string ⟨#[32]⟩)] w1005 fun v1013 w1014 =>
xTup v1013 0 fun v1015 =>
xTup v1013 1 fun v1016 =>
xTup v1013 2 fun v1017 =>
K (.tuple #[v1015, v1016]) w1014)
theorem W_script_form {a0 : Value} {K : Value → World → Prop} {w : World} (h : S_script_form a0 K w) : Ret P n_script_form [a0] w K :=
  vcF_of mixed Tryz.func17 (show S_script_form a0 K w = vcF P Tryz.f17 [a0] w K from by kernel_rfl) h
/- spunyarn/script.tell -/
abbrev S_script_tell (a0 : Value) (a1 : Value) (K : Value → World → Prop) (w0 : World) : Prop :=
XNew w0 (cellsV a0) 36 fun a1000 w1001 =>
xEq a1 (.int .i32 97) fun v1002 =>
xIf v1002 (XLd w1001 (a1000.add 1) fun v1003 =>
Ret P n_script_tellNumber [v1003] w1001 fun v1004 w1005 =>
xTup v1004 0 fun v1006 =>
xTup v1004 1 fun v1007 =>
K (.tuple #[v1006, v1007]) w1005) (xEq a1 (.int .i32 98) fun v1008 =>
xIf v1008 (XLd w1001 (a1000.add 2) fun v1009 =>
Ret P n_script_tellNumber [v1009] w1001 fun v1010 w1011 =>
xTup v1010 0 fun v1012 =>
xTup v1010 1 fun v1013 =>
K (.tuple #[v1012, v1013]) w1011) (xEq a1 (.int .i32 110) fun v1014 =>
xIf v1014 (XLd w1001 (a1000.add 7) fun v1015 =>
Ret P n_script_tellNumber [v1015] w1001 fun v1016 w1017 =>
xTup v1016 0 fun v1018 =>
xTup v1016 1 fun v1019 =>
K (.tuple #[v1018, v1019]) w1017) (xEq a1 (.int .i32 107) fun v1020 =>
xIf v1020 (XLd w1001 (a1000.add 3) fun v1021 =>
Ret P n_script_tellKey [v1021] w1001 fun v1022 w1023 =>
xTup v1022 0 fun v1024 =>
xTup v1022 1 fun v1025 =>
K (.tuple #[v1024, v1025]) w1023) (/- 0 -/ XJ (fun J1026 =>
xEq a1 (.int .i32 116) fun v1030 =>
xIf v1030 (XLd w1001 (a1000.add 5) fun v1031 =>
J1026 [v1031] w1001) (J1026 [(.bool false)] w1001)) fun vs1027 g1028 w1029 =>
xIf (vs1027.getD 0 undef) (K (.tuple #[(.string ⟨#[42]⟩), (.int .i64 0)]) w1029) (xEq a1 (.int .i32 116) fun v1032 =>
xIf v1032 (XLd w1029 (a1000.add 4) fun v1033 =>
Ret P n_script_tellKey [v1033] w1029 fun v1034 w1035 =>
xTup v1034 0 fun v1036 =>
xTup v1034 1 fun v1037 =>
K (.tuple #[v1036, v1037]) w1035) (xEq a1 (.int .i32 118) fun v1038 =>
xIf v1038 (XLd w1029 (a1000.add 6) fun v1039 =>
Ret P n_script_tellValue [v1039] w1029 fun v1040 w1041 =>
K (.tuple #[v1040, (.int .i64 0)]) w1041) (/- 0 -/ XJ (fun J1042 =>
xEq a1 (.int .i32 102) fun v1046 =>
xIf v1046 (XLd w1029 (a1000.add 8) fun v1047 =>
J1042 [v1047] w1029) (J1042 [(.bool false)] w1029)) fun vs1043 g1044 w1045 =>
xIf (vs1043.getD 0 undef) (K (.tuple #[(.string ⟨#[100, 111, 119, 110]⟩), (.int .i64 0)]) w1045) (xEq a1 (.int .i32 102) fun v1048 =>
xIf v1048 (K (.tuple #[(.string ⟨#[117, 112]⟩), (.int .i64 0)]) w1045) (xEq a1 (.int .i32 112) fun v1049 =>
xIf v1049 (XLd w1045 (a1000.add 9) fun v1050 =>
Ret P n_script_tellPairs [v1050] w1045 fun v1051 w1052 =>
xTup v1051 0 fun v1053 =>
xTup v1051 1 fun v1054 =>
K (.tuple #[v1053, v1054]) w1052) (xEq a1 (.int .i32 99) fun v1055 =>
xIf v1055 (XLd w1045 (a1000.add 10) fun v1056 =>
Ret P n_script_tellChanges [v1056] w1045 fun v1057 w1058 =>
xTup v1057 0 fun v1059 =>
xTup v1057 1 fun v1060 =>
K (.tuple #[v1059, v1060]) w1058) (XLd w1045 (a1000.add 11) fun v1061 =>
Ret P n_script_tellKey [v1061] w1045 fun v1062 w1063 =>
xTup v1062 0 fun v1064 =>
xTup v1062 1 fun v1065 =>
K (.tuple #[v1064, v1065]) w1063)))))))))))
theorem W_script_tell {a0 a1 : Value} {K : Value → World → Prop} {w : World} (h : S_script_tell a0 a1 K w) : Ret P n_script_tell [a0, a1] w K :=
  vcF_of mixed Tryz.func18 (show S_script_tell a0 a1 K w = vcF P Tryz.f18 [a0, a1] w K from by kernel_rfl) h
/- strings.Join -/
/- S_strings_Join_l1: 0=slot 65 1=slot 10 s -/
def S_strings_Join_l1 (K : Value → World → Prop) (a1 : Value) (a1050 : Addr) (v1059 : Value) (v1060 : Value) (I1061 : Nat → List Value → World → Prop) (n1062 : Nat) (vs1063 : List Value) (g1064 : Nat → Value) (w1065 : World) : Prop :=
xLt (vs1063.getD 0 undef) v1060 fun v1066 =>
xIf v1066 (xIxS v1059 (vs1063.getD 0 undef) 1 fun v1067 =>
xAt v1067 fun a1068 =>
XLd w1065 a1068 fun v1069 =>
Ret P n_strings_Builder_WriteString [(.pointer (some a1050)), a1] w1065 fun v1070 w1071 =>
Ret P n_strings_Builder_WriteString [(.pointer (some a1050)), v1069] w1071 fun v1072 w1073 =>
xAdd (vs1063.getD 0 undef) (.int .i64 1) fun v1074 =>
XNext I1061 n1062 [v1074, v1069] w1073) (Ret P n_strings_Builder_String [(.pointer (some a1050))] w1065 fun v1075 w1076 =>
K v1075 w1076)
/- S_strings_Join_l2: 0=slot 41 1=slot 7 elem 2=slot 5 n -/
def S_strings_Join_l2 (K : Value → World → Prop) (a0 : Value) (a1 : Value) (v1028 : Value) (I1029 : Nat → List Value → World → Prop) (n1030 : Nat) (vs1031 : List Value) (g1032 : Nat → Value) (w1033 : World) : Prop :=
xLt (vs1031.getD 0 undef) v1028 fun v1034 =>
xIf v1034 (xIxS a0 (vs1031.getD 0 undef) 1 fun v1035 =>
xAt v1035 fun a1036 =>
XLd w1033 a1036 fun v1037 =>
/-  -/ XJ (fun J1038 =>
xLenS v1037 fun v1042 =>
xSub (.int .i64 9223372036854775807) (vs1031.getD 2 undef) fun v1043 =>
xGt v1042 v1043 fun v1044 =>
xIf v1044 (XRun P (Instr.makeInterface 9 (.string ⟨#[115, 116, 114, 105, 110, 103, 115, 58, 32, 74, 111, 105, 110, 32, 111, 117, 116, 112, 117, 116, 32, 108, 101, 110, 103, 116, 104, 32, 111, 118, 101, 114, 102, 108, 111, 119]⟩)) w1033 fun v1045 w1046 =>
False) (J1038 [] w1033)) fun vs1039 g1040 w1041 =>
xLenS v1037 fun v1047 =>
xAdd (vs1031.getD 2 undef) v1047 fun v1048 =>
xAdd (vs1031.getD 0 undef) (.int .i64 1) fun v1049 =>
XNext I1029 n1030 [v1049, v1037, v1048] w1041) (XNew w1033 [(.pointer none), (.slice none 0 0)] 82 fun a1050 w1051 =>
Ret P n_strings_Builder_Grow [(.pointer (some a1050)), (vs1031.getD 2 undef)] w1051 fun v1052 w1053 =>
xIxS a0 (.int .i64 0) 1 fun v1054 =>
xAt v1054 fun a1055 =>
XLd w1053 a1055 fun v1056 =>
Ret P n_strings_Builder_WriteString [(.pointer (some a1050)), v1056] w1053 fun v1057 w1058 =>
xCutS 1 a0 (some (.int .i64 1)) none none fun v1059 =>
xLen v1059 fun v1060 =>
XLoop [(.int .i64 0), undef] w1058 (S_strings_Join_l1 K a1 a1050 v1059 v1060))
abbrev S_strings_Join (a0 : Value) (a1 : Value) (K : Value → World → Prop) (w0 : World) : Prop :=
xLen a0 fun v1000 =>
xEq v1000 (.int .i64 0) fun v1001 =>
xIf v1001 (K (.string ⟨#[]⟩) w0) (xEq v1000 (.int .i64 1) fun v1002 =>
xIf v1002 (xIxS a0 (.int .i64 0) 1 fun v1003 =>
xAt v1003 fun a1004 =>
XLd w0 a1004 fun v1005 =>
K v1005 w0) (/- 0 n -/ XJ (fun J1006 =>
xLenS a1 fun v1010 =>
xGt v1010 (.int .i64 0) fun v1011 =>
xIf v1011 (/-  -/ XJ (fun J1012 =>
xLenS a1 fun v1016 =>
xLen a0 fun v1017 =>
xSub v1017 (.int .i64 1) fun v1018 =>
xQuo (.int .i64 9223372036854775807) v1018 fun v1019 =>
xGe v1016 v1019 fun v1020 =>
xIf v1020 (XRun P (Instr.makeInterface 9 (.string ⟨#[115, 116, 114, 105, 110, 103, 115, 58, 32, 74, 111, 105, 110, 32, 111, 117, 116, 112, 117, 116, 32, 108, 101, 110, 103, 116, 104, 32, 111, 118, 101, 114, 102, 108, 111, 119]⟩)) w0 fun v1021 w1022 =>
False) (J1012 [] w0)) fun vs1013 g1014 w1015 =>
xLenS a1 fun v1023 =>
xLen a0 fun v1024 =>
xSub v1024 (.int .i64 1) fun v1025 =>
xMul v1023 v1025 fun v1026 =>
xAdd (.int .i64 0) v1026 fun v1027 =>
J1006 [v1027] w1015) (J1006 [(.int .i64 0)] w0)) fun vs1007 g1008 w1009 =>
xLen a0 fun v1028 =>
XLoop [(.int .i64 0), undef, (vs1007.getD 0 undef)] w1009 (S_strings_Join_l2 K a0 a1 v1028)))
theorem W_strings_Join {a0 a1 : Value} {K : Value → World → Prop} {w : World} (h : S_strings_Join a0 a1 K w) : Ret P n_strings_Join [a0, a1] w K :=
  vcF_of mixed Tryz.func19 (show S_strings_Join a0 a1 K w = vcF P Tryz.f19 [a0, a1] w K from by kernel_rfl) h
/- spunyarn/spunyarnref36.Name -/
abbrev S_ref36_Name (a0 : Value) (K : Value → World → Prop) (w0 : World) : Prop :=
xFill (repL [(.string ⟨#[]⟩)] 32) [(0, 1, (.string ⟨#[101, 109, 112, 116, 121]⟩)), (1, 1, (.string ⟨#[102, 114, 111, 109]⟩)), (2, 1, (.string ⟨#[112, 117, 116]⟩)), (3, 1, (.string ⟨#[100, 101, 108]⟩)), (4, 1, (.string ⟨#[103, 101, 116]⟩)), (5, 1, (.string ⟨#[108, 101, 110]⟩)), (6, 1, (.string ⟨#[108, 105, 115, 116]⟩)), (7, 1, (.string ⟨#[110, 101, 97, 114]⟩)), (8, 1, (.string ⟨#[112, 97, 114, 116]⟩)), (9, 1, (.string ⟨#[101, 100, 105, 116]⟩)), (10, 1, (.string ⟨#[119, 114, 105, 116, 101]⟩)), (11, 1, (.string ⟨#[101, 114, 97, 115, 101]⟩)), (12, 1, (.string ⟨#[108, 111, 97, 100]⟩)), (13, 1, (.string ⟨#[102, 114, 101, 101, 122, 101]⟩)), (14, 1, (.string ⟨#[111, 112, 101, 110]⟩)), (15, 1, (.string ⟨#[109, 111, 118, 101]⟩)), (16, 1, (.string ⟨#[97, 116]⟩)), (17, 1, (.string ⟨#[115, 99, 97, 110]⟩)), (18, 1, (.string ⟨#[117, 110, 105, 111, 110]⟩)), (19, 1, (.string ⟨#[105, 110, 116, 101, 114]⟩)), (20, 1, (.string ⟨#[100, 105, 102, 102]⟩)), (21, 1, (.string ⟨#[99, 117, 116]⟩)), (22, 1, (.string ⟨#[115, 112, 108, 105, 116]⟩)), (23, 1, (.string ⟨#[115, 97, 109, 101]⟩)), (24, 1, (.string ⟨#[100, 101, 108, 116, 97]⟩)), (25, 1, (.string ⟨#[97, 112, 112, 108, 121]⟩)), (26, 1, (.string ⟨#[101, 110, 99, 111, 100, 101]⟩)), (27, 1, (.string ⟨#[100, 101, 99, 111, 100, 101]⟩)), (28, 1, (.string ⟨#[115, 104, 97, 112, 101]⟩)), (29, 1, (.string ⟨#[107, 105, 110, 100]⟩)), (30, 1, (.string ⟨#[100, 114, 111, 112]⟩)), (31, 1, (.string ⟨#[99, 111, 117, 110, 116]⟩))] fun c1000 =>
XNew w0 c1000 9 fun a1001 w1002 =>
/- 0 -/ XJ (fun J1003 =>
xLt a0 (.int .i64 1) fun v1007 =>
xIf v1007 (J1003 [(.bool true)] w1002) (xLen (.slice (some a1001) 32 32) fun v1008 =>
xGt a0 v1008 fun v1009 =>
J1003 [v1009] w1002)) fun vs1004 g1005 w1006 =>
xIf (vs1004.getD 0 undef) (K (.string ⟨#[]⟩) w1006) (xSub a0 (.int .i64 1) fun v1010 =>
xIxS (.slice (some a1001) 32 32) v1010 1 fun v1011 =>
xAt v1011 fun a1012 =>
XLd w1006 a1012 fun v1013 =>
K v1013 w1006)
theorem W_ref36_Name {a0 : Value} {K : Value → World → Prop} {w : World} (h : S_ref36_Name a0 K w) : Ret P n_ref36_Name [a0] w K :=
  vcF_of mixed Tryz.func20 (show S_ref36_Name a0 K w = vcF P Tryz.f20 [a0] w K from by kernel_rfl) h
/- spunyarn/spunyarnref36.Form -/
abbrev S_ref36_Form (a0 : Value) (K : Value → World → Prop) (w0 : World) : Prop :=
xFill (repL [(.string ⟨#[]⟩)] 32) [(0, 1, (.string ⟨#[]⟩)), (1, 1, (.string ⟨#[112]⟩)), (2, 1, (.string ⟨#[97, 107, 118]⟩)), (3, 1, (.string ⟨#[97, 107]⟩)), (4, 1, (.string ⟨#[97, 107]⟩)), (5, 1, (.string ⟨#[97]⟩)), (6, 1, (.string ⟨#[97]⟩)), (7, 1, (.string ⟨#[97, 110, 107]⟩)), (8, 1, (.string ⟨#[97, 110, 107]⟩)), (9, 1, (.string ⟨#[97]⟩)), (10, 1, (.string ⟨#[97, 107, 118]⟩)), (11, 1, (.string ⟨#[97, 107]⟩)), (12, 1, (.string ⟨#[97, 112]⟩)), (13, 1, (.string ⟨#[97]⟩)), (14, 1, (.string ⟨#[97, 107, 116]⟩)), (15, 1, (.string ⟨#[97, 110, 107]⟩)), (16, 1, (.string ⟨#[97]⟩)), (17, 1, (.string ⟨#[97, 107, 116, 110, 102]⟩)), (18, 1, (.string ⟨#[97, 98, 110]⟩)), (19, 1, (.string ⟨#[97, 98, 110]⟩)), (20, 1, (.string ⟨#[97, 98, 110]⟩)), (21, 1, (.string ⟨#[97, 107, 116, 110]⟩)), (22, 1, (.string ⟨#[97, 107]⟩)), (23, 1, (.string ⟨#[97, 98]⟩)), (24, 1, (.string ⟨#[97, 98]⟩)), (25, 1, (.string ⟨#[97, 99]⟩)), (26, 1, (.string ⟨#[97]⟩)), (27, 1, (.string ⟨#[120]⟩)), (28, 1, (.string ⟨#[97]⟩)), (29, 1, (.string ⟨#[97]⟩)), (30, 1, (.string ⟨#[97]⟩)), (31, 1, (.string ⟨#[97, 107, 116]⟩))] fun c1000 =>
XNew w0 c1000 9 fun a1001 w1002 =>
/- 0 -/ XJ (fun J1003 =>
xLt a0 (.int .i64 1) fun v1007 =>
xIf v1007 (J1003 [(.bool true)] w1002) (xLen (.slice (some a1001) 32 32) fun v1008 =>
xGt a0 v1008 fun v1009 =>
J1003 [v1009] w1002)) fun vs1004 g1005 w1006 =>
xIf (vs1004.getD 0 undef) (K (.string ⟨#[]⟩) w1006) (xSub a0 (.int .i64 1) fun v1010 =>
xIxS (.slice (some a1001) 32 32) v1010 1 fun v1011 =>
xAt v1011 fun a1012 =>
XLd w1006 a1012 fun v1013 =>
K v1013 w1006)
theorem W_ref36_Form {a0 : Value} {K : Value → World → Prop} {w : World} (h : S_ref36_Form a0 K w) : Ret P n_ref36_Form [a0] w K :=
  vcF_of mixed Tryz.func21 (show S_ref36_Form a0 K w = vcF P Tryz.f21 [a0] w K from by kernel_rfl) h
/- spunyarn/spunyarnref36.tell -/
abbrev S_ref36_tell (a0 : Value) (a1 : Value) (K : Value → World → Prop) (w0 : World) : Prop :=
XNew w0 (cellsV a0) 27 fun a1000 w1001 =>
xEq a1 (.int .u8 97) fun v1002 =>
xIf v1002 (XLd w1001 (a1000.add 1) fun v1003 =>
Ret P n_ref36_TellNumber [v1003] w1001 fun v1004 w1005 =>
xTup v1004 0 fun v1006 =>
xTup v1004 1 fun v1007 =>
K (.tuple #[v1006, v1007]) w1005) (xEq a1 (.int .u8 98) fun v1008 =>
xIf v1008 (XLd w1001 (a1000.add 2) fun v1009 =>
Ret P n_ref36_TellNumber [v1009] w1001 fun v1010 w1011 =>
xTup v1010 0 fun v1012 =>
xTup v1010 1 fun v1013 =>
K (.tuple #[v1012, v1013]) w1011) (xEq a1 (.int .u8 110) fun v1014 =>
xIf v1014 (XLd w1001 (a1000.add 7) fun v1015 =>
Ret P n_ref36_TellNumber [v1015] w1001 fun v1016 w1017 =>
xTup v1016 0 fun v1018 =>
xTup v1016 1 fun v1019 =>
K (.tuple #[v1018, v1019]) w1017) (xEq a1 (.int .u8 107) fun v1020 =>
xIf v1020 (XLd w1001 (a1000.add 3) fun v1021 =>
Ret P n_ref36_TellKey [v1021] w1001 fun v1022 w1023 =>
xTup v1022 0 fun v1024 =>
xTup v1022 1 fun v1025 =>
K (.tuple #[v1024, v1025]) w1023) (xEq a1 (.int .u8 116) fun v1026 =>
xIf v1026 (XLd w1001 (a1000.add 5) fun v1027 =>
xIf v1027 (K (.tuple #[(.string ⟨#[42]⟩), (.int .i64 0)]) w1001) (XLd w1001 (a1000.add 4) fun v1028 =>
Ret P n_ref36_TellKey [v1028] w1001 fun v1029 w1030 =>
xTup v1029 0 fun v1031 =>
xTup v1029 1 fun v1032 =>
K (.tuple #[v1031, v1032]) w1030)) (xEq a1 (.int .u8 118) fun v1033 =>
xIf v1033 (XLd w1001 (a1000.add 6) fun v1034 =>
Ret P n_ref13_Digits [v1034] w1001 fun v1035 w1036 =>
K (.tuple #[v1035, (.int .i64 0)]) w1036) (xEq a1 (.int .u8 102) fun v1037 =>
xIf v1037 (XLd w1001 (a1000.add 8) fun v1038 =>
xIf v1038 (K (.tuple #[(.string ⟨#[100, 111, 119, 110]⟩), (.int .i64 0)]) w1001) (K (.tuple #[(.string ⟨#[117, 112]⟩), (.int .i64 0)]) w1001)) (xEq a1 (.int .u8 112) fun v1039 =>
xIf v1039 (XLd w1001 (a1000.add 9) fun v1040 =>
Ret P n_ref36_TellPairs [v1040] w1001 fun v1041 w1042 =>
xTup v1041 0 fun v1043 =>
xTup v1041 1 fun v1044 =>
K (.tuple #[v1043, v1044]) w1042) (xEq a1 (.int .u8 99) fun v1045 =>
xIf v1045 (XLd w1001 (a1000.add 10) fun v1046 =>
Ret P n_ref36_TellChanges [v1046] w1001 fun v1047 w1048 =>
xTup v1047 0 fun v1049 =>
xTup v1047 1 fun v1050 =>
K (.tuple #[v1049, v1050]) w1048) (XLd w1001 (a1000.add 11) fun v1051 =>
Ret P n_ref36_TellKey [v1051] w1001 fun v1052 w1053 =>
xTup v1052 0 fun v1054 =>
xTup v1052 1 fun v1055 =>
K (.tuple #[v1054, v1055]) w1053)))))))))
theorem W_ref36_tell {a0 a1 : Value} {K : Value → World → Prop} {w : World} (h : S_ref36_tell a0 a1 K w) : Ret P n_ref36_tell [a0, a1] w K :=
  vcF_of mixed Tryz.func22 (show S_ref36_tell a0 a1 K w = vcF P Tryz.f22 [a0, a1] w K from by kernel_rfl) h
/- spunyarn/spunyarnref01.Same -/
abbrev S_ref01_Same (a0 : Value) (a1 : Value) (K : Value → World → Prop) (w0 : World) : Prop :=
Ret P n_ref01_Cmp [a0, a1] w0 fun v1000 w1001 =>
xEq v1000 (.int .i64 0) fun v1002 =>
K v1002 w1001
theorem W_ref01_Same {a0 a1 : Value} {K : Value → World → Prop} {w : World} (h : S_ref01_Same a0 a1 K w) : Ret P n_ref01_Same [a0, a1] w K :=
  vcF_of mixed Tryz.func23 (show S_ref01_Same a0 a1 K w = vcF P Tryz.f23 [a0, a1] w K from by kernel_rfl) h
/- spunyarn/spunyarnref19.Same -/
/- S_ref19_Same_l1: 0=slot 5 i 1=slot 4 -/
def S_ref19_Same_l1 (K : Value → World → Prop) (a0 : Value) (a1 : Value) (I1003 : Nat → List Value → World → Prop) (n1004 : Nat) (vs1005 : List Value) (g1006 : Nat → Value) (w1007 : World) : Prop :=
xLen a0 fun v1008 =>
xLt (vs1005.getD 0 undef) v1008 fun v1009 =>
xIf v1009 (/- 0 -/ XJ (fun J1010 =>
xIxS a0 (vs1005.getD 0 undef) 2 fun v1014 =>
xFld v1014 1 fun v1015 =>
xAt v1015 fun a1016 =>
XLd w1007.drew a1016 fun v1017 =>
xIxS a1 (vs1005.getD 0 undef) 2 fun v1018 =>
xFld v1018 1 fun v1019 =>
xAt v1019 fun a1020 =>
XLd w1007.drew a1020 fun v1021 =>
xNe v1017 v1021 fun v1022 =>
xIf v1022 (J1010 [(.bool true)] (w1007.drew)) (xIxS a0 (vs1005.getD 0 undef) 2 fun v1023 =>
xFld v1023 0 fun v1024 =>
xAt v1024 fun a1025 =>
XLd w1007.drew a1025 fun v1026 =>
xIxS a1 (vs1005.getD 0 undef) 2 fun v1027 =>
xFld v1027 0 fun v1028 =>
xAt v1028 fun a1029 =>
XLd w1007.drew a1029 fun v1030 =>
Ret P n_ref01_Same [v1026, v1030] w1007.drew fun v1031 w1032 =>
xNot v1031 fun v1033 =>
J1010 [v1033] w1032)) fun vs1011 g1012 w1013 =>
xIf (vs1011.getD 0 undef) (K (.bool false) w1013) (xAdd (vs1005.getD 0 undef) (.int .i64 1) fun v1034 =>
XNext I1003 n1004 [v1034, (vs1005.getD 1 undef)] w1013)) (K (.bool true) w1007)
abbrev S_ref19_Same (a0 : Value) (a1 : Value) (K : Value → World → Prop) (w0 : World) : Prop :=
xLen a0 fun v1000 =>
xLen a1 fun v1001 =>
xNe v1000 v1001 fun v1002 =>
xIf v1002 (K (.bool false) w0) (XLoop [(.int .i64 0), (.bool false)] w0 (S_ref19_Same_l1 K a0 a1))
theorem W_ref19_Same {a0 a1 : Value} {K : Value → World → Prop} {w : World} (h : S_ref19_Same a0 a1 K w) : Ret P n_ref19_Same [a0, a1] w K :=
  vcF_of mixed Tryz.func24 (show S_ref19_Same a0 a1 K w = vcF P Tryz.f24 [a0, a1] w K from by kernel_rfl) h
/- bytes.Clone -/
abbrev S_bytes_Clone (a0 : Value) (K : Value → World → Prop) (w0 : World) : Prop :=
xLEq a0 (.slice none 0 0) fun v1000 =>
xIf v1000 (K (.slice none 0 0) w0) (xFill (repL [(.int .u8 0)] 0) [] fun c1001 =>
XNew w0 c1001 5 fun a1002 w1003 =>
XRun P (Builtin.append_ #[22, 22] 22 #[(.slice (some a1002) 0 0), a0]) w1003 fun v1004 w1005 =>
K v1004 w1005)
theorem W_bytes_Clone {a0 : Value} {K : Value → World → Prop} {w : World} (h : S_bytes_Clone a0 K w) : Ret P n_bytes_Clone [a0] w K :=
  vcF_of mixed Tryz.func26 (show S_bytes_Clone a0 K w = vcF P Tryz.f26 [a0] w K from by kernel_rfl) h
/- spunyarn/script.copyPairs -/
/- S_script_copyPairs_l1: 0=slot 8 1=slot 3 out -/
def S_script_copyPairs_l1 (K : Value → World → Prop) (a0 : Value) (v1000 : Value) (I1001 : Nat → List Value → World → Prop) (n1002 : Nat) (vs1003 : List Value) (g1004 : Nat → Value) (w1005 : World) : Prop :=
xLt (vs1003.getD 0 undef) v1000 fun v1006 =>
xIf v1006 (xIxS a0 (vs1003.getD 0 undef) 2 fun v1007 =>
xAt v1007 fun a1008 =>
XLdN w1005 a1008 2 fun v1009 =>
XNew w1005 [(.slice none 0 0), (.int .u64 0)] 58 fun a1010 w1011 =>
XDo P (storeVar 58 a1010 v1009) w1011 fun w1012 =>
XLd w1012.drew (a1010.add 0) fun v1013 =>
XLd w1012.drew (a1010.add 1) fun v1014 =>
Ret P n_bytes_Clone [v1013] w1012.drew fun v1015 w1016 =>
xKeep1 w1016 (.pointer (some (a1010.add 1))) v1014 ∧ (xFill [(.slice none 0 0), (.int .u64 0)] [(0, 1, v1015), (1, 1, v1014)] fun c1017 =>
xFill (repL [(.slice none 0 0), (.int .u64 0)] 1) [(0, 2, (.agg c1017.toArray))] fun c1018 =>
XNew w1016 c1018 58 fun a1019 w1020 =>
XRun P (Builtin.append_ #[33, 33] 33 #[(vs1003.getD 1 undef), (.slice (some a1019) 1 1)]) w1020 fun v1021 w1022 =>
xAdd (vs1003.getD 0 undef) (.int .i64 1) fun v1023 =>
XNext I1001 n1002 [v1023, v1021] w1022)) (K (vs1003.getD 1 undef) w1005)
abbrev S_script_copyPairs (a0 : Value) (K : Value → World → Prop) (w0 : World) : Prop :=
xLen a0 fun v1000 =>
XLoop [(.int .i64 0), (.slice none 0 0)] w0 (S_script_copyPairs_l1 K a0 v1000)
theorem W_script_copyPairs {a0 : Value} {K : Value → World → Prop} {w : World} (h : S_script_copyPairs a0 K w) : Ret P n_script_copyPairs [a0] w K :=
  vcF_of mixed Tryz.func27 (show S_script_copyPairs a0 K w = vcF P Tryz.f27 [a0] w K from by kernel_rfl) h
/- spunyarn/script.copyChanges -/
/- S_script_copyChanges_l1: 0=slot 8 1=slot 3 out -/
def S_script_copyChanges_l1 (K : Value → World → Prop) (a0 : Value) (v1000 : Value) (I1001 : Nat → List Value → World → Prop) (n1002 : Nat) (vs1003 : List Value) (g1004 : Nat → Value) (w1005 : World) : Prop :=
xLt (vs1003.getD 0 undef) v1000 fun v1006 =>
xIf v1006 (xIxS a0 (vs1003.getD 0 undef) 4 fun v1007 =>
xAt v1007 fun a1008 =>
XLdN w1005 a1008 4 fun v1009 =>
XNew w1005 [(.slice none 0 0), (.int .i64 0), (.int .u64 0), (.int .u64 0)] 59 fun a1010 w1011 =>
XDo P (storeVar 59 a1010 v1009) w1011 fun w1012 =>
XLd w1012 (a1010.add 0) fun v1013 =>
Ret P n_bytes_Clone [v1013] w1012 fun v1014 w1015 =>
XSt w1015 (a1010.add 0) v1014 fun w1016 =>
XLdN w1016 a1010 4 fun v1017 =>
xFill (repL [(.slice none 0 0), (.int .i64 0), (.int .u64 0), (.int .u64 0)] 1) [(0, 4, v1017)] fun c1018 =>
XNew w1016 c1018 59 fun a1019 w1020 =>
XRun P (Builtin.append_ #[34, 34] 34 #[(vs1003.getD 1 undef), (.slice (some a1019) 1 1)]) w1020 fun v1021 w1022 =>
xAdd (vs1003.getD 0 undef) (.int .i64 1) fun v1023 =>
XNext I1001 n1002 [v1023, v1021] w1022) (K (vs1003.getD 1 undef) w1005)
abbrev S_script_copyChanges (a0 : Value) (K : Value → World → Prop) (w0 : World) : Prop :=
xLen a0 fun v1000 =>
XLoop [(.int .i64 0), (.slice none 0 0)] w0 (S_script_copyChanges_l1 K a0 v1000)
theorem W_script_copyChanges {a0 : Value} {K : Value → World → Prop} {w : World} (h : S_script_copyChanges a0 K w) : Ret P n_script_copyChanges [a0] w K :=
  vcF_of mixed Tryz.func28 (show S_script_copyChanges a0 K w = vcF P Tryz.f28 [a0] w K from by kernel_rfl) h
/- spunyarn/spunyarnref36.has -/
/- S_ref36_has_l1: 0=slot 5 i 1=slot 4 -/
def S_ref36_has_l1 (K : Value → World → Prop) (a0 : Value) (a1 : Value) (I1000 : Nat → List Value → World → Prop) (n1001 : Nat) (vs1002 : List Value) (g1003 : Nat → Value) (w1004 : World) : Prop :=
xLenS a0 fun v1005 =>
xLt (vs1002.getD 0 undef) v1005 fun v1006 =>
xIf v1006 (xIxStr a0 (vs1002.getD 0 undef) fun v1007 =>
xEq v1007 a1 fun v1008 =>
xIf v1008 (K (.bool true) w1004) (xAdd (vs1002.getD 0 undef) (.int .i64 1) fun v1009 =>
XNext I1000 n1001 [v1009, (vs1002.getD 1 undef)] w1004)) (K (.bool false) w1004)
abbrev S_ref36_has (a0 : Value) (a1 : Value) (K : Value → World → Prop) (w0 : World) : Prop :=
XLoop [(.int .i64 0), (.bool false)] w0 (S_ref36_has_l1 K a0 a1)
theorem W_ref36_has {a0 a1 : Value} {K : Value → World → Prop} {w : World} (h : S_ref36_has a0 a1 K w) : Ret P n_ref36_has [a0, a1] w K :=
  vcF_of mixed Tryz.func29 (show S_ref36_has a0 a1 K w = vcF P Tryz.f29 [a0, a1] w K from by kernel_rfl) h
/- strings.Split -/
abbrev S_strings_Split (a0 : Value) (a1 : Value) (K : Value → World → Prop) (w0 : World) : Prop :=
Ret P n_strings_genSplit [a0, a1, (.int .i64 0), (.int .i64 (-1))] w0 fun v1000 w1001 =>
K v1000 w1001
theorem W_strings_Split {a0 a1 : Value} {K : Value → World → Prop} {w : World} (h : S_strings_Split a0 a1 K w) : Ret P n_strings_Split [a0, a1] w K :=
  vcF_of mixed Tryz.func30 (show S_strings_Split a0 a1 K w = vcF P Tryz.f30 [a0, a1] w K from by kernel_rfl) h
/- spunyarn/script.find -/
/- S_script_find_l1: 0=slot 6 1=slot 3 i 2=slot 2 -/
def S_script_find_l1 (K : Value → World → Prop) (a0 : Value) (v1002 : Value) (I1003 : Nat → List Value → World → Prop) (n1004 : Nat) (vs1005 : List Value) (g1006 : Nat → Value) (w1007 : World) : Prop :=
xLt (vs1005.getD 0 undef) v1002 fun v1008 =>
xIf v1008 (xAdd (vs1005.getD 0 undef) (.int .i64 1) fun v1009 =>
Ret P n_script_Name [v1009] w1007 fun v1010 w1011 =>
xSEq v1010 a0 fun v1012 =>
xIf v1012 (xAdd (vs1005.getD 0 undef) (.int .i64 1) fun v1013 =>
K v1013 w1011) (xAdd (vs1005.getD 0 undef) (.int .i64 1) fun v1014 =>
XNext I1003 n1004 [v1014, (vs1005.getD 0 undef), (vs1005.getD 2 undef)] w1011)) (K (.int .i64 0) w1007)
abbrev S_script_find (a0 : Value) (K : Value → World → Prop) (w0 : World) : Prop :=
Ret P n_script_forms [] w0 fun v1000 w1001 =>
xLen v1000 fun v1002 =>
XLoop [(.int .i64 0), undef, (.int .i64 0)] w1001 (S_script_find_l1 K a0 v1002)
theorem W_script_find {a0 : Value} {K : Value → World → Prop} {w : World} (h : S_script_find a0 K w) : Ret P n_script_find [a0] w K :=
  vcF_of mixed Tryz.func31 (show S_script_find a0 K w = vcF P Tryz.f31 [a0] w K from by kernel_rfl) h
/- spunyarn/script.word -/
abbrev S_script_word (a0 : Value) (a1 : Value) (a2 : Value) (K : Value → World → Prop) (w0 : World) : Prop :=
/- 0 1 e 2 3 4 5 6 7 8 9 -/ XJ (fun J1000 =>
xEq a1 (.int .i32 97) fun v1004 =>
xIf v1004 (Ret P n_script_number [a2] w0 fun v1005 w1006 =>
xTup v1005 0 fun v1007 =>
xTup v1005 1 fun v1008 =>
xAt a0 fun a1009 =>
XSt w1006 (a1009.add 1) v1007 fun w1010 =>
J1000 [v1004, v1008, undef, undef, undef, undef, undef, undef, undef, undef] w1010) (xEq a1 (.int .i32 98) fun v1011 =>
xIf v1011 (Ret P n_script_number [a2] w0 fun v1012 w1013 =>
xTup v1012 0 fun v1014 =>
xTup v1012 1 fun v1015 =>
xAt a0 fun a1016 =>
XSt w1013 (a1016.add 2) v1014 fun w1017 =>
J1000 [v1004, v1015, v1011, undef, undef, undef, undef, undef, undef, undef] w1017) (xEq a1 (.int .i32 110) fun v1018 =>
xIf v1018 (Ret P n_script_number [a2] w0 fun v1019 w1020 =>
xTup v1019 0 fun v1021 =>
xTup v1019 1 fun v1022 =>
xAt a0 fun a1023 =>
XSt w1020 (a1023.add 7) v1021 fun w1024 =>
J1000 [v1004, v1022, v1011, v1018, undef, undef, undef, undef, undef, undef] w1024) (xEq a1 (.int .i32 107) fun v1025 =>
xIf v1025 (Ret P n_script_key [a2] w0 fun v1026 w1027 =>
xTup v1026 0 fun v1028 =>
xTup v1026 1 fun v1029 =>
xAt a0 fun a1030 =>
XSt w1027 (a1030.add 3) v1028 fun w1031 =>
J1000 [v1004, v1029, v1011, v1018, v1025, undef, undef, undef, undef, undef] w1031) (xEq a1 (.int .i32 116) fun v1032 =>
xIf v1032 (xSEq a2 (.string ⟨#[42]⟩) fun v1033 =>
xAt a0 fun a1034 =>
XSt w0 (a1034.add 5) v1033 fun w1035 =>
xAt a0 fun a1036 =>
XLd w1035 (a1036.add 5) fun v1037 =>
xNot v1037 fun v1038 =>
xIf v1038 (Ret P n_script_key [a2] w1035 fun v1039 w1040 =>
xTup v1039 0 fun v1041 =>
xTup v1039 1 fun v1042 =>
xAt a0 fun a1043 =>
XSt w1040 (a1043.add 4) v1041 fun w1044 =>
J1000 [v1004, v1042, v1011, v1018, v1025, v1032, undef, undef, undef, undef] w1044) (J1000 [v1004, (.int .i64 0), v1011, v1018, v1025, v1032, undef, undef, undef, undef] w1035)) (xEq a1 (.int .i32 118) fun v1045 =>
xIf v1045 (Ret P n_script_value [a2] w0 fun v1046 w1047 =>
xTup v1046 0 fun v1048 =>
xTup v1046 1 fun v1049 =>
xAt a0 fun a1050 =>
XSt w1047 (a1050.add 6) v1048 fun w1051 =>
J1000 [v1004, v1049, v1011, v1018, v1025, v1032, v1045, undef, undef, undef] w1051) (xEq a1 (.int .i32 102) fun v1052 =>
xIf v1052 (Ret P n_script_way [a2] w0 fun v1053 w1054 =>
xTup v1053 0 fun v1055 =>
xTup v1053 1 fun v1056 =>
xAt a0 fun a1057 =>
XSt w1054 (a1057.add 8) v1055 fun w1058 =>
J1000 [v1004, v1056, v1011, v1018, v1025, v1032, v1045, v1052, undef, undef] w1058) (xEq a1 (.int .i32 112) fun v1059 =>
xIf v1059 (Ret P n_script_pairs [a2] w0 fun v1060 w1061 =>
xTup v1060 0 fun v1062 =>
xTup v1060 1 fun v1063 =>
xAt a0 fun a1064 =>
XSt w1061 (a1064.add 9) v1062 fun w1065 =>
J1000 [v1004, v1063, v1011, v1018, v1025, v1032, v1045, v1052, v1059, undef] w1065) (xEq a1 (.int .i32 99) fun v1066 =>
xIf v1066 (Ret P n_script_changes [a2] w0 fun v1067 w1068 =>
xTup v1067 0 fun v1069 =>
xTup v1067 1 fun v1070 =>
xAt a0 fun a1071 =>
XSt w1068 (a1071.add 10) v1069 fun w1072 =>
J1000 [v1004, v1070, v1011, v1018, v1025, v1032, v1045, v1052, v1059, v1066] w1072) (Ret P n_script_key [a2] w0 fun v1073 w1074 =>
xTup v1073 0 fun v1075 =>
xTup v1073 1 fun v1076 =>
xAt a0 fun a1077 =>
XSt w1074 (a1077.add 11) v1075 fun w1078 =>
J1000 [v1004, v1076, v1011, v1018, v1025, v1032, v1045, v1052, v1059, v1066] w1078)))))))))) fun vs1001 g1002 w1003 =>
K (vs1001.getD 1 undef) w1003
theorem W_script_word {a0 a1 a2 : Value} {K : Value → World → Prop} {w : World} (h : S_script_word a0 a1 a2 K w) : Ret P n_script_word [a0, a1, a2] w K :=
  vcF_of mixed Tryz.func32 (show S_script_word a0 a1 a2 K w = vcF P Tryz.f32 [a0, a1, a2] w K from by kernel_rfl) h
/- spunyarn/script.forms -/
abbrev S_script_forms  (K : Value → World → Prop) (w0 : World) : Prop :=
xFill (repL [(.string ⟨#[]⟩)] 32) [(0, 1, (.string ⟨#[101, 109, 112, 116, 121]⟩)), (1, 1, (.string ⟨#[102, 114, 111, 109, 32, 112]⟩)), (2, 1, (.string ⟨#[112, 117, 116, 32, 97, 107, 118]⟩)), (3, 1, (.string ⟨#[100, 101, 108, 32, 97, 107]⟩)), (4, 1, (.string ⟨#[103, 101, 116, 32, 97, 107]⟩)), (5, 1, (.string ⟨#[108, 101, 110, 32, 97]⟩)), (6, 1, (.string ⟨#[108, 105, 115, 116, 32, 97]⟩)), (7, 1, (.string ⟨#[110, 101, 97, 114, 32, 97, 110, 107]⟩)), (8, 1, (.string ⟨#[112, 97, 114, 116, 32, 97, 110, 107]⟩)), (9, 1, (.string ⟨#[101, 100, 105, 116, 32, 97]⟩)), (10, 1, (.string ⟨#[119, 114, 105, 116, 101, 32, 97, 107, 118]⟩)), (11, 1, (.string ⟨#[101, 114, 97, 115, 101, 32, 97, 107]⟩)), (12, 1, (.string ⟨#[108, 111, 97, 100, 32, 97, 112]⟩)), (13, 1, (.string ⟨#[102, 114, 101, 101, 122, 101, 32, 97]⟩)), (14, 1, (.string ⟨#[111, 112, 101, 110, 32, 97, 107, 116]⟩)), (15, 1, (.string ⟨#[109, 111, 118, 101, 32, 97, 110, 107]⟩)), (16, 1, (.string ⟨#[97, 116, 32, 97]⟩)), (17, 1, (.string ⟨#[115, 99, 97, 110, 32, 97, 107, 116, 110, 102]⟩)), (18, 1, (.string ⟨#[117, 110, 105, 111, 110, 32, 97, 98, 110]⟩)), (19, 1, (.string ⟨#[105, 110, 116, 101, 114, 32, 97, 98, 110]⟩)), (20, 1, (.string ⟨#[100, 105, 102, 102, 32, 97, 98, 110]⟩)), (21, 1, (.string ⟨#[99, 117, 116, 32, 97, 107, 116, 110]⟩)), (22, 1, (.string ⟨#[115, 112, 108, 105, 116, 32, 97, 107]⟩)), (23, 1, (.string ⟨#[115, 97, 109, 101, 32, 97, 98]⟩)), (24, 1, (.string ⟨#[100, 101, 108, 116, 97, 32, 97, 98]⟩)), (25, 1, (.string ⟨#[97, 112, 112, 108, 121, 32, 97, 99]⟩)), (26, 1, (.string ⟨#[101, 110, 99, 111, 100, 101, 32, 97]⟩)), (27, 1, (.string ⟨#[100, 101, 99, 111, 100, 101, 32, 120]⟩)), (28, 1, (.string ⟨#[115, 104, 97, 112, 101, 32, 97]⟩)), (29, 1, (.string ⟨#[107, 105, 110, 100, 32, 97]⟩)), (30, 1, (.string ⟨#[100, 114, 111, 112, 32, 97]⟩)), (31, 1, (.string ⟨#[99, 111, 117, 110, 116, 32, 97, 107, 116]⟩))] fun c1000 =>
XNew w0 c1000 9 fun a1001 w1002 =>
K (.slice (some a1001) 32 32) w1002
theorem W_script_forms {K : Value → World → Prop} {w : World} (h : S_script_forms  K w) : Ret P n_script_forms [] w K :=
  vcF_of mixed Tryz.func33 (show S_script_forms  K w = vcF P Tryz.f33 [] w K from by kernel_rfl) h
/- strings.Cut -/
abbrev S_strings_Cut (a0 : Value) (a1 : Value) (K : Value → World → Prop) (w0 : World) : Prop :=
Ret P n_stringslite_Cut [a0, a1] w0 fun v1000 w1001 =>
xTup v1000 0 fun v1002 =>
xTup v1000 1 fun v1003 =>
xTup v1000 2 fun v1004 =>
K (.tuple #[v1002, v1003, v1004]) w1001
theorem W_strings_Cut {a0 a1 : Value} {K : Value → World → Prop} {w : World} (h : S_strings_Cut a0 a1 K w) : Ret P n_strings_Cut [a0, a1] w K :=
  vcF_of mixed Tryz.func34 (show S_strings_Cut a0 a1 K w = vcF P Tryz.f34 [a0, a1] w K from by kernel_rfl) h
/- spunyarn/script.tellNumber -/
abbrev S_script_tellNumber (a0 : Value) (K : Value → World → Prop) (w0 : World) : Prop :=
/- 0 -/ XJ (fun J1000 =>
xGt a0 (.int .i64 999999999) fun v1004 =>
xIf v1004 (J1000 [(.bool true)] w0) (xLt a0 (.int .i64 (-999999999)) fun v1005 =>
J1000 [v1005] w0)) fun vs1001 g1002 w1003 =>
xIf (vs1001.getD 0 undef) (K (.tuple #[(.string ⟨#[]⟩), (.int .i64 8)]) w1003) (Ret P n_strconv_Itoa [a0] w1003 fun v1006 w1007 =>
K (.tuple #[v1006, (.int .i64 0)]) w1007)
theorem W_script_tellNumber {a0 : Value} {K : Value → World → Prop} {w : World} (h : S_script_tellNumber a0 K w) : Ret P n_script_tellNumber [a0] w K :=
  vcF_of mixed Tryz.func35 (show S_script_tellNumber a0 K w = vcF P Tryz.f35 [a0] w K from by kernel_rfl) h
/- spunyarn/script.tellKey -/
abbrev S_script_tellKey (a0 : Value) (K : Value → World → Prop) (w0 : World) : Prop :=
Ret P n_keys_May [a0] w0 fun v1000 w1001 =>
xNe v1000 (.int .i64 0) fun v1002 =>
xIf v1002 (K (.tuple #[(.string ⟨#[]⟩), v1000]) w1001) (xLen a0 fun v1003 =>
xEq v1003 (.int .i64 0) fun v1004 =>
xIf v1004 (K (.tuple #[(.string ⟨#[45]⟩), (.int .i64 0)]) w1001) (Ret P n_keys_Text [a0] w1001 fun v1005 w1006 =>
K (.tuple #[v1005, (.int .i64 0)]) w1006))
theorem W_script_tellKey {a0 : Value} {K : Value → World → Prop} {w : World} (h : S_script_tellKey a0 K w) : Ret P n_script_tellKey [a0] w K :=
  vcF_of mixed Tryz.func36 (show S_script_tellKey a0 K w = vcF P Tryz.f36 [a0] w K from by kernel_rfl) h
/- spunyarn/script.tellValue -/
abbrev S_script_tellValue (a0 : Value) (K : Value → World → Prop) (w0 : World) : Prop :=
Ret P n_strconv_FormatUint [a0, (.int .i64 10)] w0 fun v1000 w1001 =>
K v1000 w1001
theorem W_script_tellValue {a0 : Value} {K : Value → World → Prop} {w : World} (h : S_script_tellValue a0 K w) : Ret P n_script_tellValue [a0] w K :=
  vcF_of mixed Tryz.func37 (show S_script_tellValue a0 K w = vcF P Tryz.f37 [a0] w K from by kernel_rfl) h
/- spunyarn/script.tellPairs -/
/- S_script_tellPairs_l1: 0=slot 11 1=slot 7 k 2=slot 8 e 3=slot 2 4=slot 3 5=slot 4 words -/
def S_script_tellPairs_l1 (K : Value → World → Prop) (a0 : Value) (v1000 : Value) (I1001 : Nat → List Value → World → Prop) (n1002 : Nat) (vs1003 : List Value) (g1004 : Nat → Value) (w1005 : World) : Prop :=
xLt (vs1003.getD 0 undef) v1000 fun v1006 =>
xIf v1006 (xIxS a0 (vs1003.getD 0 undef) 2 fun v1007 =>
xAt v1007 fun a1008 =>
XLdN w1005 a1008 2 fun v1009 =>
XNew w1005 [(.slice none 0 0), (.int .u64 0)] 58 fun a1010 w1011 =>
XDo P (storeVar 58 a1010 v1009) w1011 fun w1012 =>
XLd w1012 (a1010.add 0) fun v1013 =>
Ret P n_script_tellKey [v1013] w1012 fun v1014 w1015 =>
xTup v1014 0 fun v1016 =>
xTup v1014 1 fun v1017 =>
xNe v1017 (.int .i64 0) fun v1018 =>
xIf v1018 (K (.tuple #[(.string ⟨#[]⟩), v1017]) w1015) (xSCat v1016 (.string ⟨#[61]⟩) fun v1019 =>
XLd w1015 (a1010.add 1) fun v1020 =>
Ret P n_script_tellValue [v1020] w1015 fun v1021 w1022 =>
xSCat v1019 v1021 fun v1023 =>
xFill (repL [(.string ⟨#[]⟩)] 1) [(0, 1, v1023)] fun c1024 =>
XNew w1022 c1024 9 fun a1025 w1026 =>
XRun P (Builtin.append_ #[46, 46] 46 #[(vs1003.getD 5 undef), (.slice (some a1025) 1 1)]) w1026 fun v1027 w1028 =>
xAdd (vs1003.getD 0 undef) (.int .i64 1) fun v1029 =>
XNext I1001 n1002 [v1029, v1016, v1017, (vs1003.getD 3 undef), (vs1003.getD 4 undef), v1027] w1028)) (xLen (vs1003.getD 5 undef) fun v1030 =>
xEq v1030 (.int .i64 0) fun v1031 =>
xIf v1031 (K (.tuple #[(.string ⟨#[45]⟩), (.int .i64 0)]) w1005) (Ret P n_strings_Join [(vs1003.getD 5 undef), (.string ⟨#[44]⟩)] w1005 fun v1032 w1033 =>
K (.tuple #[v1032, (.int .i64 0)]) w1033))
abbrev S_script_tellPairs (a0 : Value) (K : Value → World → Prop) (w0 : World) : Prop :=
xLen a0 fun v1000 =>
XLoop [(.int .i64 0), undef, undef, (.string ⟨#[]⟩), (.int .i64 0), (.slice none 0 0)] w0 (S_script_tellPairs_l1 K a0 v1000)
theorem W_script_tellPairs {a0 : Value} {K : Value → World → Prop} {w : World} (h : S_script_tellPairs a0 K w) : Ret P n_script_tellPairs [a0] w K :=
  vcF_of mixed Tryz.func38 (show S_script_tellPairs a0 K w = vcF P Tryz.f38 [a0] w K from by kernel_rfl) h
/- spunyarn/script.tellChanges -/
/- S_script_tellChanges_l1: 0=slot 11 1=slot 7 w 2=slot 8 e 3=slot 2 4=slot 3 5=slot 4 words -/
def S_script_tellChanges_l1 (K : Value → World → Prop) (a0 : Value) (v1000 : Value) (I1001 : Nat → List Value → World → Prop) (n1002 : Nat) (vs1003 : List Value) (g1004 : Nat → Value) (w1005 : World) : Prop :=
xLt (vs1003.getD 0 undef) v1000 fun v1006 =>
xIf v1006 (xIxS a0 (vs1003.getD 0 undef) 4 fun v1007 =>
xAt v1007 fun a1008 =>
XLdN w1005 a1008 4 fun v1009 =>
XNew w1005 [(.slice none 0 0), (.int .i64 0), (.int .u64 0), (.int .u64 0)] 59 fun a1010 w1011 =>
XDo P (storeVar 59 a1010 v1009) w1011 fun w1012 =>
XLdN w1012 a1010 4 fun v1013 =>
Ret P n_script_tellChange [v1013] w1012 fun v1014 w1015 =>
xTup v1014 0 fun v1016 =>
xTup v1014 1 fun v1017 =>
xNe v1017 (.int .i64 0) fun v1018 =>
xIf v1018 (K (.tuple #[(.string ⟨#[]⟩), v1017]) w1015) (xFill (repL [(.string ⟨#[]⟩)] 1) [(0, 1, v1016)] fun c1019 =>
XNew w1015 c1019 9 fun a1020 w1021 =>
XRun P (Builtin.append_ #[46, 46] 46 #[(vs1003.getD 5 undef), (.slice (some a1020) 1 1)]) w1021 fun v1022 w1023 =>
xAdd (vs1003.getD 0 undef) (.int .i64 1) fun v1024 =>
XNext I1001 n1002 [v1024, v1016, v1017, (vs1003.getD 3 undef), (vs1003.getD 4 undef), v1022] w1023)) (xLen (vs1003.getD 5 undef) fun v1025 =>
xEq v1025 (.int .i64 0) fun v1026 =>
xIf v1026 (K (.tuple #[(.string ⟨#[45]⟩), (.int .i64 0)]) w1005) (Ret P n_strings_Join [(vs1003.getD 5 undef), (.string ⟨#[44]⟩)] w1005 fun v1027 w1028 =>
K (.tuple #[v1027, (.int .i64 0)]) w1028))
abbrev S_script_tellChanges (a0 : Value) (K : Value → World → Prop) (w0 : World) : Prop :=
xLen a0 fun v1000 =>
XLoop [(.int .i64 0), undef, undef, (.string ⟨#[]⟩), (.int .i64 0), (.slice none 0 0)] w0 (S_script_tellChanges_l1 K a0 v1000)
theorem W_script_tellChanges {a0 : Value} {K : Value → World → Prop} {w : World} (h : S_script_tellChanges a0 K w) : Ret P n_script_tellChanges [a0] w K :=
  vcF_of mixed Tryz.func39 (show S_script_tellChanges a0 K w = vcF P Tryz.f39 [a0] w K from by kernel_rfl) h
end Go.Proofs.YtbfnagdpanfphaaGreatDoor
