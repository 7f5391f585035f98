/-  Written by gen.py for this claim: of each function a form without frames, the same as the engine's condition by reckoning.  -/
import Derived.Test.YthnegkjhciakpaaGreatDoorSN
import Derived.Test.YthnegkjhciakpaaGreatDoorProg
namespace Go.Proofs.YthnegkjhciakpaaGreatDoor
open Go X
set_option linter.unusedVariables false
set_option maxRecDepth 100000
/- spunyarn/spunyarnref18.Sub -/
/- S_ref18_Sub_l1: 0=slot 6 i 1=slot 5 out -/
def S_ref18_Sub_l1 (K : Value → World → Prop) (a0 : Value) (a1 : Value) (I1000 : Nat → List Value → World → Prop) (n1001 : Nat) (vs1002 : List Value) (g1003 : Nat → Value) (w1004 : World) : Prop :=
xLen a0 fun v1005 =>
xLt (vs1002.getD 0 undef) v1005 fun v1006 =>
xIf v1006 (/- 0 out -/ XJ (fun J1007 =>
xIxS a0 (vs1002.getD 0 undef) 2 fun v1011 =>
xFld v1011 0 fun v1012 =>
xAt v1012 fun a1013 =>
XLd w1004 a1013 fun v1014 =>
Ret P n_ref01_Begins [v1014, a1] w1004 fun v1015 w1016 =>
xIf v1015 (xIxS a0 (vs1002.getD 0 undef) 2 fun v1017 =>
xAt v1017 fun a1018 =>
XLdN w1016 a1018 2 fun v1019 =>
xFill (repL [(.slice none 0 0), (.int .u64 0)] 1) [(0, 2, v1019)] fun c1020 =>
XNew w1016 c1020 86 fun a1021 w1022 =>
XRun P (Builtin.append_ #[33, 33] 33 #[(vs1002.getD 1 undef), (.slice (some a1021) 1 1)]) w1022 fun v1023 w1024 =>
J1007 [v1023] w1024) (J1007 [(vs1002.getD 1 undef)] w1016)) fun vs1008 g1009 w1010 =>
xAdd (vs1002.getD 0 undef) (.int .i64 1) fun v1025 =>
XNext I1000 n1001 [v1025, (vs1008.getD 0 undef)] w1010) (K (vs1002.getD 1 undef) w1004)
abbrev S_ref18_Sub (a0 : Value) (a1 : Value) (K : Value → World → Prop) (w0 : World) : Prop :=
XLoop [(.int .i64 0), (.slice none 0 0)] w0 (S_ref18_Sub_l1 K a0 a1)
theorem W_ref18_Sub {a0 a1 : Value} {K : Value → World → Prop} {w : World} (h : S_ref18_Sub a0 a1 K w) : Ret P n_ref18_Sub [a0, a1] w K :=
  vcF_of mixed Tryz.func127 (show S_ref18_Sub a0 a1 K w = vcF P Tryz.f127 [a0, a1] w K from by kernel_rfl) h
/- spunyarn/spunyarnref18.Strip -/
/- S_ref18_Strip_l1: 0=slot 6 i -/
def S_ref18_Strip_l1 (K : Value → World → Prop) (a1 : Value) (v1000 : Value) (I1002 : Nat → List Value → World → Prop) (n1003 : Nat) (vs1004 : List Value) (g1005 : Nat → Value) (w1006 : World) : Prop :=
xLen v1000 fun v1007 =>
xLt (vs1004.getD 0 undef) v1007 fun v1008 =>
xIf v1008 (xIxS v1000 (vs1004.getD 0 undef) 2 fun v1009 =>
xFld v1009 0 fun v1010 =>
xAt v1010 fun a1011 =>
XLd w1006 a1011 fun v1012 =>
xLen a1 fun v1013 =>
xCutS 1 v1012 (some v1013) none none fun v1014 =>
xIxS v1000 (vs1004.getD 0 undef) 2 fun v1015 =>
xFld v1015 0 fun v1016 =>
xAt v1016 fun a1018 =>
XSt w1006 a1018 v1014 fun w1017 =>
xAdd (vs1004.getD 0 undef) (.int .i64 1) fun v1019 =>
XNext I1002 n1003 [v1019] w1017) (K v1000 w1006)
abbrev S_ref18_Strip (a0 : Value) (a1 : Value) (K : Value → World → Prop) (w0 : World) : Prop :=
Ret P n_ref18_Sub [a0, a1] w0 fun v1000 w1001 =>
XLoop [(.int .i64 0)] w1001 (S_ref18_Strip_l1 K a1 v1000)
theorem W_ref18_Strip {a0 a1 : Value} {K : Value → World → Prop} {w : World} (h : S_ref18_Strip a0 a1 K w) : Ret P n_ref18_Strip [a0, a1] w K :=
  vcF_of mixed Tryz.func128 (show S_ref18_Strip a0 a1 K w = vcF P Tryz.f128 [a0, a1] w K from by kernel_rfl) h
/- spunyarn/spunyarnref18.Under -/
/- S_ref18_Under_l1: 0=slot 7 i 1=slot 6 out -/
def S_ref18_Under_l1 (K : Value → World → Prop) (a0 : Value) (a1 : Value) (I1011 : Nat → List Value → World → Prop) (n1012 : Nat) (vs1013 : List Value) (g1014 : Nat → Value) (w1015 : World) : Prop :=
xLen a0 fun v1016 =>
xLt (vs1013.getD 0 undef) v1016 fun v1017 =>
xIf v1017 (xIxS a0 (vs1013.getD 0 undef) 2 fun v1018 =>
xFld v1018 0 fun v1019 =>
xAt v1019 fun a1020 =>
XLd w1015.drew a1020 fun v1021 =>
xIxS a0 (vs1013.getD 0 undef) 2 fun v1022 =>
xFld v1022 1 fun v1023 =>
xAt v1023 fun a1024 =>
XLd w1015.drew a1024 fun v1025 =>
XRun P (Builtin.append_ #[41, 41] 41 #[(.slice none 0 0), a1]) w1015.drew fun v1026 w1027 =>
xKeep1 w1027 v1023 v1025 ∧ (xKeep1 w1027 v1019 v1021 ∧ (XRun P (Builtin.append_ #[41, 41] 41 #[v1026, v1021]) w1027 fun v1028 w1029 =>
xKeep1 w1029 v1023 v1025 ∧ (xFill [(.slice none 0 0), (.int .u64 0)] [(0, 1, v1028), (1, 1, v1025)] fun c1030 =>
xFill (repL [(.slice none 0 0), (.int .u64 0)] 1) [(0, 2, (.agg c1030.toArray))] fun c1031 =>
XNew w1029 c1031 86 fun a1032 w1033 =>
XRun P (Builtin.append_ #[33, 33] 33 #[(vs1013.getD 1 undef), (.slice (some a1032) 1 1)]) w1033 fun v1034 w1035 =>
xAdd (vs1013.getD 0 undef) (.int .i64 1) fun v1036 =>
XNext I1011 n1012 [v1036, v1034] w1035)))) (K (.tuple #[(vs1013.getD 1 undef), (.int .i64 0)]) w1015)
abbrev S_ref18_Under (a0 : Value) (a1 : Value) (K : Value → World → Prop) (w0 : World) : Prop :=
/- 0 -/ XJ (fun J1000 =>
xLen a0 fun v1004 =>
xGt v1004 (.int .i64 0) fun v1005 =>
xIf v1005 (xLen a1 fun v1006 =>
Ret P n_ref18_Longest [a0] w0 fun v1007 w1008 =>
xSub (.int .i64 65535) v1007 fun v1009 =>
xGt v1006 v1009 fun v1010 =>
J1000 [v1010] w1008) (J1000 [(.bool false)] w0)) fun vs1001 g1002 w1003 =>
xIf (vs1001.getD 0 undef) (K (.tuple #[(.slice none 0 0), (.int .i64 8)]) w1003) (XLoop [(.int .i64 0), (.slice none 0 0)] w1003 (S_ref18_Under_l1 K a0 a1))
theorem W_ref18_Under {a0 a1 : Value} {K : Value → World → Prop} {w : World} (h : S_ref18_Under a0 a1 K w) : Ret P n_ref18_Under [a0, a1] w K :=
  vcF_of mixed Tryz.func129 (show S_ref18_Under a0 a1 K w = vcF P Tryz.f129 [a0, a1] w K from by kernel_rfl) h
/- spunyarn/spunyarnref18.Longest -/
/- S_ref18_Longest_l1: 0=slot 4 i 1=slot 3 n -/
def S_ref18_Longest_l1 (K : Value → World → Prop) (a0 : Value) (I1000 : Nat → List Value → World → Prop) (n1001 : Nat) (vs1002 : List Value) (g1003 : Nat → Value) (w1004 : World) : Prop :=
xLen a0 fun v1005 =>
xLt (vs1002.getD 0 undef) v1005 fun v1006 =>
xIf v1006 (xIxS a0 (vs1002.getD 0 undef) 2 fun v1007 =>
xFld v1007 0 fun v1008 =>
xAt v1008 fun a1009 =>
XLd w1004 a1009 fun v1010 =>
xLen v1010 fun v1011 =>
xMax (vs1002.getD 1 undef) v1011 fun v1012 =>
xAdd (vs1002.getD 0 undef) (.int .i64 1) fun v1013 =>
XNext I1000 n1001 [v1013, v1012] w1004) (K (vs1002.getD 1 undef) w1004)
abbrev S_ref18_Longest (a0 : Value) (K : Value → World → Prop) (w0 : World) : Prop :=
XLoop [(.int .i64 0), (.int .i64 0)] w0 (S_ref18_Longest_l1 K a0)
theorem W_ref18_Longest {a0 : Value} {K : Value → World → Prop} {w : World} (h : S_ref18_Longest a0 K w) : Ret P n_ref18_Longest [a0] w K :=
  vcF_of mixed Tryz.func187 (show S_ref18_Longest a0 K w = vcF P Tryz.f187 [a0] w K from by kernel_rfl) h
end Go.Proofs.YthnegkjhciakpaaGreatDoor
