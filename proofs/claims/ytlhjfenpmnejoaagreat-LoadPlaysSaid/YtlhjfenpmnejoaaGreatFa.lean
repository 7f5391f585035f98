/-  what is true of the whole program, once for all rows.  -/
import Derived.Test.YtlhjfenpmnejoaaGreatChecked
import Derived.SevenTiedAt
import Derived.KernelRfl
namespace Go.Proofs.YtlhjfenpmnejoaaGreat.Fa
open Go
set_option maxRecDepth 100000

abbrev c (n : Nat) : Char := Char.ofNat n
abbrev all : List Char := [c 104, c 97, c 114, c 110, c 101, c 115, c 115, c 32, c 100, c 102, c 55, c 48, c 48, c 56, c 102, c 53, c 50, c 56, c 50, c 53, c 53, c 54, c 97, c 56, c 97, c 52, c 98, c 101, c 99, c 98, c 56, c 49, c 100, c 51, c 100, c 54, c 50, c 55, c 97, c 49, c 56, c 97, c 54, c 101, c 52, c 57, c 50, c 102, c 97, c 97, c 99, c 54, c 50, c 97, c 99, c 49, c 101, c 53, c 52, c 53, c 49, c 101, c 49, c 51, c 101, c 101, c 97, c 98, c 55, c 53, c 98, c 55, c 32, c 99, c 117, c 116, c 32, c 97, c 116, c 32, c 115, c 112, c 117, c 110, c 121, c 97, c 114, c 110, c 47, c 115, c 112, c 117, c 110, c 121, c 97, c 114, c 110, c 108, c 97, c 119, c 50, c 49, c 46, c 76, c 111, c 97, c 100, c 80, c 108, c 97, c 121, c 115]
theorem io : Tryz.prog.initOrder = String.ofList all := by kernel_rfl
theorem words : wordsSigns Tryz.prog.initOrder.toList = [[c 104, c 97, c 114, c 110, c 101, c 115, c 115], [c 100, c 102, c 55, c 48, c 48, c 56, c 102, c 53, c 50, c 56, c 50, c 53, c 53, c 54, c 97, c 56, c 97, c 52, c 98, c 101, c 99, c 98, c 56, c 49, c 100, c 51, c 100, c 54, c 50, c 55, c 97, c 49, c 56, c 97, c 54, c 101, c 52, c 57, c 50, c 102, c 97, c 97, c 99, c 54, c 50, c 97, c 99, c 49, c 101, c 53, c 52, c 53, c 49, c 101, c 49, c 51, c 101, c 101, c 97, c 98, c 55, c 53, c 98, c 55], [c 99, c 117, c 116], [c 97, c 116], [c 115, c 112, c 117, c 110, c 121, c 97, c 114, c 110, c 47, c 115, c 112, c 117, c 110, c 121, c 97, c 114, c 110, c 108, c 97, c 119, c 50, c 49, c 46, c 76, c 111, c 97, c 100, c 80, c 108, c 97, c 121, c 115]] := by
  rw [io, String.toList_ofList]
  kernel_rfl
theorem sum : "df7008f5282556a8a4becb81d3d627a18a6e492faac62ac1e5451e13eeab75b7".toList = [c 100, c 102, c 55, c 48, c 48, c 56, c 102, c 53, c 50, c 56, c 50, c 53, c 53, c 54, c 97, c 56, c 97, c 52, c 98, c 101, c 99, c 98, c 56, c 49, c 100, c 51, c 100, c 54, c 50, c 55, c 97, c 49, c 56, c 97, c 54, c 101, c 52, c 57, c 50, c 102, c 97, c 97, c 99, c 54, c 50, c 97, c 99, c 49, c 101, c 53, c 52, c 53, c 49, c 101, c 49, c 51, c 101, c 101, c 97, c 98, c 55, c 53, c 98, c 55] := by
  rw [show "df7008f5282556a8a4becb81d3d627a18a6e492faac62ac1e5451e13eeab75b7" = String.ofList [c 100, c 102, c 55, c 48, c 48, c 56, c 102, c 53, c 50, c 56, c 50, c 53, c 53, c 54, c 97, c 56, c 97, c 52, c 98, c 101, c 99, c 98, c 56, c 49, c 100, c 51, c 100, c 54, c 50, c 55, c 97, c 49, c 56, c 97, c 54, c 101, c 52, c 57, c 50, c 102, c 97, c 97, c 99, c 54, c 50, c 97, c 99, c 49, c 101, c 53, c 52, c 53, c 49, c 101, c 49, c 51, c 101, c 101, c 97, c 98, c 55, c 53, c 98, c 55] from by kernel_rfl, String.toList_ofList]
theorem laid : laidOutB Tryz.prog = true := by kernel_rfl
theorem maps : mapsRowed Tryz.prog = true := by kernel_rfl
theorem stops : (Tryz.prog.stops == []) = true := by kernel_rfl
theorem knobs : (Tryz.prog.stopKnobs == []) = true := by kernel_rfl
theorem plainKeys : Tryz.prog.plainKeys = true := by kernel_rfl
theorem heard : Tryz.prog.stopsHeard = true := by kernel_rfl
theorem lays : Tryz.prog.laysLater = false := by kernel_rfl
theorem bears : Tryz.prog.bearsReflect = false := by kernel_rfl
theorem may : Tryz.prog.mayEnter = true := by
  unfold Program.mayEnter Program.doorFits
  rw [words, lays, bears]
  kernel_rfl
theorem head : Tryz.prog.headLifts = [] := by
  unfold Program.headLifts
  rw [words]
  kernel_rfl
theorem lifts : Tryz.prog.liftsFinal = false := by
  unfold Program.liftsFinal
  rw [words, head]
  kernel_rfl
theorem make : Tryz.prog.make = some .cut := by
  unfold Program.make
  rw [words]
  kernel_rfl
theorem main : Tryz.prog.mainIs = some (true, "df7008f5282556a8a4becb81d3d627a18a6e492faac62ac1e5451e13eeab75b7".toList) := by
  unfold Program.mainIs
  rw [words, sum]
  kernel_rfl
theorem looks : false = Tryz.prog.looks [] := by kernel_rfl
end Go.Proofs.YtlhjfenpmnejoaaGreat.Fa
