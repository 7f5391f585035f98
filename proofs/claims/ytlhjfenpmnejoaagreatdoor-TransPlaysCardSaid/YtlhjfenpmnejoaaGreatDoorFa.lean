/-  what is true of the whole program, once for all rows.  -/
import Derived.Test.YtlhjfenpmnejoaaGreatDoorChecked
import Derived.SevenTiedAt
import Derived.KernelRfl
namespace Go.Proofs.YtlhjfenpmnejoaaGreatDoor.Fa
open Go
set_option maxRecDepth 100000

abbrev c (n : Nat) : Char := Char.ofNat n
abbrev all : List Char := [c 104, c 97, c 114, c 110, c 101, c 115, c 115, c 32, c 52, c 101, c 101, c 54, c 97, c 50, c 50, c 57, c 53, c 53, c 49, c 48, c 48, c 99, c 50, c 48, c 53, c 102, c 57, c 100, c 102, c 51, c 56, c 51, c 51, c 48, c 98, c 101, c 53, c 98, c 55, c 99, c 57, c 56, c 53, c 100, c 49, c 52, c 51, c 48, c 55, c 102, c 101, c 55, c 57, c 102, c 51, c 56, c 99, c 99, c 51, c 48, c 101, c 50, c 49, c 56, c 53, c 55, c 100, c 54, c 101, c 52, c 97, c 53, c 32, c 99, c 117, c 116, c 32, c 97, c 116, c 32, c 115, c 112, c 117, c 110, c 121, c 97, c 114, c 110, c 47, c 115, c 112, c 117, c 110, c 121, c 97, c 114, c 110, c 108, c 97, c 119, c 50, c 49, c 46, c 76, c 111, c 97, c 100, c 79, c 114, c 100, c 101, c 114, c 32, c 115, c 112, c 117, c 110, c 121, c 97, c 114, c 110, c 47, c 115, c 112, c 117, c 110, c 121, c 97, c 114, c 110, c 108, c 97, c 119, c 50, c 49, c 46, c 76, c 111, c 97, c 100, c 83, c 111, c 114, c 116, c 115, c 32, c 115, c 112, c 117, c 110, c 121, c 97, c 114, c 110, c 47, c 115, c 112, c 117, c 110, c 121, c 97, c 114, c 110, c 108, c 97, c 119, c 50, c 49, c 46, c 76, c 111, c 97, c 100, c 77, c 101, c 114, c 103, c 101, c 32, c 115, c 112, c 117, c 110, c 121, c 97, c 114, c 110, c 47, c 115, c 112, c 117, c 110, c 121, c 97, c 114, c 110, c 108, c 97, c 119, c 50, c 48, c 46, c 84, c 114, c 97, c 110, c 115, c 80, c 108, c 97, c 121, c 115]
theorem io : Tryz.prog.initOrder = String.ofList all := by kernel_rfl
theorem words : wordsSigns Tryz.prog.initOrder.toList = [[c 104, c 97, c 114, c 110, c 101, c 115, c 115], [c 52, c 101, c 101, c 54, c 97, c 50, c 50, c 57, c 53, c 53, c 49, c 48, c 48, c 99, c 50, c 48, c 53, c 102, c 57, c 100, c 102, c 51, c 56, c 51, c 51, c 48, c 98, c 101, c 53, c 98, c 55, c 99, c 57, c 56, c 53, c 100, c 49, c 52, c 51, c 48, c 55, c 102, c 101, c 55, c 57, c 102, c 51, c 56, c 99, c 99, c 51, c 48, c 101, c 50, c 49, c 56, c 53, c 55, c 100, c 54, c 101, c 52, c 97, c 53], [c 99, c 117, c 116], [c 97, c 116], [c 115, c 112, c 117, c 110, c 121, c 97, c 114, c 110, c 47, c 115, c 112, c 117, c 110, c 121, c 97, c 114, c 110, c 108, c 97, c 119, c 50, c 49, c 46, c 76, c 111, c 97, c 100, c 79, c 114, c 100, c 101, c 114], [c 115, c 112, c 117, c 110, c 121, c 97, c 114, c 110, c 47, c 115, c 112, c 117, c 110, c 121, c 97, c 114, c 110, c 108, c 97, c 119, c 50, c 49, c 46, c 76, c 111, c 97, c 100, c 83, c 111, c 114, c 116, c 115], [c 115, c 112, c 117, c 110, c 121, c 97, c 114, c 110, c 47, c 115, c 112, c 117, c 110, c 121, c 97, c 114, c 110, c 108, c 97, c 119, c 50, c 49, c 46, c 76, c 111, c 97, c 100, c 77, c 101, c 114, c 103, c 101], [c 115, c 112, c 117, c 110, c 121, c 97, c 114, c 110, c 47, c 115, c 112, c 117, c 110, c 121, c 97, c 114, c 110, c 108, c 97, c 119, c 50, c 48, c 46, c 84, c 114, c 97, c 110, c 115, c 80, c 108, c 97, c 121, c 115]] := by
  rw [io, String.toList_ofList]
  kernel_rfl
theorem sum : "4ee6a22955100c205f9df38330be5b7c985d14307fe79f38cc30e21857d6e4a5".toList = [c 52, c 101, c 101, c 54, c 97, c 50, c 50, c 57, c 53, c 53, c 49, c 48, c 48, c 99, c 50, c 48, c 53, c 102, c 57, c 100, c 102, c 51, c 56, c 51, c 51, c 48, c 98, c 101, c 53, c 98, c 55, c 99, c 57, c 56, c 53, c 100, c 49, c 52, c 51, c 48, c 55, c 102, c 101, c 55, c 57, c 102, c 51, c 56, c 99, c 99, c 51, c 48, c 101, c 50, c 49, c 56, c 53, c 55, c 100, c 54, c 101, c 52, c 97, c 53] := by
  rw [show "4ee6a22955100c205f9df38330be5b7c985d14307fe79f38cc30e21857d6e4a5" = String.ofList [c 52, c 101, c 101, c 54, c 97, c 50, c 50, c 57, c 53, c 53, c 49, c 48, c 48, c 99, c 50, c 48, c 53, c 102, c 57, c 100, c 102, c 51, c 56, c 51, c 51, c 48, c 98, c 101, c 53, c 98, c 55, c 99, c 57, c 56, c 53, c 100, c 49, c 52, c 51, c 48, c 55, c 102, c 101, c 55, c 57, c 102, c 51, c 56, c 99, c 99, c 51, c 48, c 101, c 50, c 49, c 56, c 53, c 55, c 100, c 54, c 101, c 52, c 97, c 53] from by kernel_rfl, String.toList_ofList]
theorem laid : laidOutB Tryz.prog = true := by kernel_rfl
theorem maps : mapsRowed Tryz.prog = true := by kernel_rfl
theorem stops : (Tryz.prog.stops == []) = true := by kernel_rfl
theorem knobs : (Tryz.prog.stopKnobs == []) = true := by kernel_rfl
theorem plainKeys : Tryz.prog.plainKeys = true := by kernel_rfl
theorem heard : Tryz.prog.stopsHeard = true := by kernel_rfl
theorem lays : Tryz.prog.laysLater = false := by kernel_rfl
theorem bears : Tryz.prog.bearsReflect = false := by kernel_rfl
theorem may : Tryz.prog.mayEnter = true := by
  unfold Program.mayEnter Program.doorFits
  rw [words, lays, bears]
  kernel_rfl
theorem head : Tryz.prog.headLifts = [] := by
  unfold Program.headLifts
  rw [words]
  kernel_rfl
theorem lifts : Tryz.prog.liftsFinal = false := by
  unfold Program.liftsFinal
  rw [words, head]
  kernel_rfl
theorem make : Tryz.prog.make = some .cut := by
  unfold Program.make
  rw [words]
  kernel_rfl
theorem main : Tryz.prog.mainIs = some (true, "4ee6a22955100c205f9df38330be5b7c985d14307fe79f38cc30e21857d6e4a5".toList) := by
  unfold Program.mainIs
  rw [words, sum]
  kernel_rfl
theorem looks : false = Tryz.prog.looks [] := by kernel_rfl
end Go.Proofs.YtlhjfenpmnejoaaGreatDoor.Fa
