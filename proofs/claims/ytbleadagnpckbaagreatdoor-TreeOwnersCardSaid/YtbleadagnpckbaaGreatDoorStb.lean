/-  Written by gen.py for this claim: of each function a form without frames, the same as the engine's condition by reckoning.  -/
import Derived.Test.YtbleadagnpckbaaGreatDoorSN
import Derived.Test.YtbleadagnpckbaaGreatDoorProg
namespace Go.Proofs.YtbleadagnpckbaaGreatDoor
open Go X
set_option linter.unusedVariables false
set_option maxRecDepth 100000
/- (*internal/sync.Mutex).Lock -/
abbrev S_sync_Mutex_Lock_302 (a0 : Value) (K : Value → World → Prop) (w0 : World) : Prop :=
xCall P 311 [] w0 fun v1000 w1001 =>
xAt a0 fun a1002 =>
xCall P 312 [(.pointer (some (a1002.add 0))), (.int .i32 0), (.int .i32 1)] w1001 fun v1003 w1004 =>
xIf v1003 (/-  -/ XJ (fun J1005 =>
xCall P 313 [] w1004 fun v1009 w1010 =>
XRun P (convert 364 321 a0) w1010 fun v1011 w1012 =>
xCall P 314 [v1011] w1012 fun v1013 w1014 =>
J1005 [] w1014) fun vs1006 g1007 w1008 =>
K (.tuple #[]) w1008) (Ret P n_sync_Mutex_lockSlow [a0] w1004 fun v1015 w1016 =>
K (.tuple #[]) w1016)
theorem W_sync_Mutex_Lock_302 {a0 : Value} {K : Value → World → Prop} {w : World} (h : S_sync_Mutex_Lock_302 a0 K w) : Ret P n_sync_Mutex_Lock_302 [a0] w K :=
  vcF_of mixed Tryz.func302 (show S_sync_Mutex_Lock_302 a0 K w = vcF P Tryz.f302 [a0] w K from by kernel_rfl) h
/- (*internal/sync.Mutex).Unlock -/
abbrev S_sync_Mutex_Unlock_303 (a0 : Value) (K : Value → World → Prop) (w0 : World) : Prop :=
/-  -/ XJ (fun J1000 =>
xAt a0 fun a1004 =>
XLd w0 (a1004.add 0) fun v1005 =>
XRun P (convert 364 321 a0) w0 fun v1006 w1007 =>
xCall P 316 [v1006] w1007 fun v1008 w1009 =>
xCall P 311 [] w1009 fun v1010 w1011 =>
J1000 [] w1011) fun vs1001 g1002 w1003 =>
xAt a0 fun a1012 =>
xCall P 317 [(.pointer (some (a1012.add 0))), (.int .i32 (-1))] w1003 fun v1013 w1014 =>
/-  -/ XJ (fun J1015 =>
xNe v1013 (.int .i32 0) fun v1019 =>
xIf v1019 (Ret P n_sync_Mutex_unlockSlow [a0, v1013] w1014 fun v1020 w1021 =>
J1015 [] w1021) (J1015 [] w1014)) fun vs1016 g1017 w1018 =>
xCall P 313 [] w1018 fun v1022 w1023 =>
K (.tuple #[]) w1023
theorem W_sync_Mutex_Unlock_303 {a0 : Value} {K : Value → World → Prop} {w : World} (h : S_sync_Mutex_Unlock_303 a0 K w) : Ret P n_sync_Mutex_Unlock_303 [a0] w K :=
  vcF_of mixed Tryz.func303 (show S_sync_Mutex_Unlock_303 a0 K w = vcF P Tryz.f303 [a0] w K from by kernel_rfl) h
/- slices.swapRangeCmpFunc[spunyarn/api.Pair] -/
/- S_slices_swapRangeCmpFunc_Pair_l1: 0=slot 10 i -/
def S_slices_swapRangeCmpFunc_Pair_l1 (K : Value → World → Prop) (a0 : Value) (a1 : Value) (a2 : Value) (a3 : Value) (I1000 : Nat → List Value → World → Prop) (n1001 : Nat) (vs1002 : List Value) (g1003 : Nat → Value) (w1004 : World) : Prop :=
xLt (vs1002.getD 0 undef) a3 fun v1005 =>
xIf v1005 (xAdd a1 (vs1002.getD 0 undef) fun v1006 =>
xAdd a2 (vs1002.getD 0 undef) fun v1007 =>
xAdd a2 (vs1002.getD 0 undef) fun v1008 =>
xIxS a0 v1008 2 fun v1009 =>
xAt v1009 fun a1010 =>
XLdN w1004.drew a1010 2 fun v1011 =>
xAdd a1 (vs1002.getD 0 undef) fun v1012 =>
xIxS a0 v1012 2 fun v1013 =>
xAt v1013 fun a1014 =>
XLdN w1004.drew a1014 2 fun v1015 =>
xIxS a0 v1006 2 fun v1016 =>
xAt v1016 fun a1018 =>
XDo P (storeVar 102 a1018 v1011) w1004.drew fun w1017 =>
xIxS a0 v1007 2 fun v1019 =>
xAt v1019 fun a1021 =>
XDo P (storeVar 102 a1021 v1015) w1017 fun w1020 =>
xAdd (vs1002.getD 0 undef) (.int .i64 1) fun v1022 =>
XNext I1000 n1001 [v1022] w1020) (K (.tuple #[]) w1004)
abbrev S_slices_swapRangeCmpFunc_Pair (a0 : Value) (a1 : Value) (a2 : Value) (a3 : Value) (a4 : Value) (K : Value → World → Prop) (w0 : World) : Prop :=
XLoop [(.int .i64 0)] w0 (S_slices_swapRangeCmpFunc_Pair_l1 K a0 a1 a2 a3)
theorem W_slices_swapRangeCmpFunc_Pair {a0 a1 a2 a3 a4 : Value} {K : Value → World → Prop} {w : World} (h : S_slices_swapRangeCmpFunc_Pair a0 a1 a2 a3 a4 K w) : Ret P n_slices_swapRangeCmpFunc_Pair [a0, a1, a2, a3, a4] w K :=
  vcF_of mixed Tryz.func306 (show S_slices_swapRangeCmpFunc_Pair a0 a1 a2 a3 a4 K w = vcF P Tryz.f306 [a0, a1, a2, a3, a4] w K from by kernel_rfl) h
/- (*internal/sync.Mutex).unlockSlow -/
/- S_sync_Mutex_unlockSlow_l1: 0=slot 4 old 1=slot 1 new -/
def S_sync_Mutex_unlockSlow_l1 (K : Value → World → Prop) (a0 : Value) (I1011 : Nat → List Value → World → Prop) (n1012 : Nat) (vs1013 : List Value) (g1014 : Nat → Value) (w1015 : World) : Prop :=
/- 0 -/ XJ (fun J1016 =>
xShr (vs1013.getD 0 undef) (.int .u64 3) fun v1020 =>
xEq v1020 (.int .i32 0) fun v1021 =>
xIf v1021 (J1016 [(.bool true)] w1015) (xAnd (vs1013.getD 0 undef) (.int .i32 7) fun v1022 =>
xNe v1022 (.int .i32 0) fun v1023 =>
J1016 [v1023] w1015)) fun vs1017 g1018 w1019 =>
xIf (vs1017.getD 0 undef) (K (.tuple #[]) w1019) (xSub (vs1013.getD 0 undef) (.int .i32 8) fun v1024 =>
xOr v1024 (.int .i32 2) fun v1025 =>
xAt a0 fun a1026 =>
xCall P 312 [(.pointer (some (a1026.add 0))), (vs1013.getD 0 undef), v1025] w1019 fun v1027 w1028 =>
xIf v1027 (xAt a0 fun a1029 =>
xCall P 326 [(.pointer (some (a1029.add 1))), (.bool false), (.int .i64 2)] w1028 fun v1030 w1031 =>
K (.tuple #[]) w1031) (xAt a0 fun a1032 =>
XLd w1028 (a1032.add 0) fun v1033 =>
XNext I1011 n1012 [v1033, v1025] w1028))
abbrev S_sync_Mutex_unlockSlow (a0 : Value) (a1 : Value) (K : Value → World → Prop) (w0 : World) : Prop :=
/-  -/ XJ (fun J1000 =>
xAdd a1 (.int .i32 1) fun v1004 =>
xAnd v1004 (.int .i32 1) fun v1005 =>
xEq v1005 (.int .i32 0) fun v1006 =>
xIf v1006 (xCall P 325 [(.string ⟨#[115, 121, 110, 99, 58, 32, 117, 110, 108, 111, 99, 107, 32, 111, 102, 32, 117, 110, 108, 111, 99, 107, 101, 100, 32, 109, 117, 116, 101, 120]⟩)] w0 fun v1007 w1008 =>
J1000 [] w1008) (J1000 [] w0)) fun vs1001 g1002 w1003 =>
xAnd a1 (.int .i32 4) fun v1009 =>
xEq v1009 (.int .i32 0) fun v1010 =>
xIf v1010 (XLoop [a1, a1] w1003 (S_sync_Mutex_unlockSlow_l1 K a0)) (xAt a0 fun a1034 =>
xCall P 326 [(.pointer (some (a1034.add 1))), (.bool true), (.int .i64 2)] w1003 fun v1035 w1036 =>
K (.tuple #[]) w1036)
theorem W_sync_Mutex_unlockSlow {a0 a1 : Value} {K : Value → World → Prop} {w : World} (h : S_sync_Mutex_unlockSlow a0 a1 K w) : Ret P n_sync_Mutex_unlockSlow [a0, a1] w K :=
  vcF_of mixed Tryz.func318 (show S_sync_Mutex_unlockSlow a0 a1 K w = vcF P Tryz.f318 [a0, a1] w K from by kernel_rfl) h
end Go.Proofs.YtbleadagnpckbaaGreatDoor
