/-  what is true of the whole program, once for all rows.  -/
import Derived.Test.YtidkkkdlaclolaaGreatChecked
import Derived.SevenTiedAt
import Derived.KernelRfl
namespace Go.Proofs.YtidkkkdlaclolaaGreat.Fa
open Go
set_option maxRecDepth 100000

abbrev c (n : Nat) : Char := Char.ofNat n
abbrev all : List Char := [c 104, c 97, c 114, c 110, c 101, c 115, c 115, c 32, c 99, c 99, c 99, c 54, c 97, c 53, c 48, c 50, c 102, c 55, c 54, c 56, c 51, c 102, c 57, c 100, c 100, c 100, c 56, c 100, c 54, c 97, c 49, c 102, c 56, c 49, c 57, c 97, c 56, c 99, c 102, c 101, c 53, c 101, c 52, c 101, c 49, c 53, c 98, c 98, c 101, c 53, c 100, c 54, c 100, c 102, c 97, c 97, c 55, c 51, c 98, c 101, c 102, c 98, c 57, c 48, c 53, c 56, c 55, c 98, c 99, c 51, c 99, c 98, c 32, c 99, c 117, c 116, c 32, c 97, c 116, c 32, c 115, c 112, c 117, c 110, c 121, c 97, c 114, c 110, c 47, c 115, c 112, c 117, c 110, c 121, c 97, c 114, c 110, c 108, c 97, c 119, c 50, c 56, c 46, c 83, c 97, c 109, c 101, c 78, c 101, c 97, c 114]
theorem io : Tryz.prog.initOrder = String.ofList all := by kernel_rfl
theorem words : wordsSigns Tryz.prog.initOrder.toList = [[c 104, c 97, c 114, c 110, c 101, c 115, c 115], [c 99, c 99, c 99, c 54, c 97, c 53, c 48, c 50, c 102, c 55, c 54, c 56, c 51, c 102, c 57, c 100, c 100, c 100, c 56, c 100, c 54, c 97, c 49, c 102, c 56, c 49, c 57, c 97, c 56, c 99, c 102, c 101, c 53, c 101, c 52, c 101, c 49, c 53, c 98, c 98, c 101, c 53, c 100, c 54, c 100, c 102, c 97, c 97, c 55, c 51, c 98, c 101, c 102, c 98, c 57, c 48, c 53, c 56, c 55, c 98, c 99, c 51, c 99, c 98], [c 99, c 117, c 116], [c 97, c 116], [c 115, c 112, c 117, c 110, c 121, c 97, c 114, c 110, c 47, c 115, c 112, c 117, c 110, c 121, c 97, c 114, c 110, c 108, c 97, c 119, c 50, c 56, c 46, c 83, c 97, c 109, c 101, c 78, c 101, c 97, c 114]] := by
  rw [io, String.toList_ofList]
  kernel_rfl
theorem sum : "ccc6a502f7683f9ddd8d6a1f819a8cfe5e4e15bbe5d6dfaa73befb90587bc3cb".toList = [c 99, c 99, c 99, c 54, c 97, c 53, c 48, c 50, c 102, c 55, c 54, c 56, c 51, c 102, c 57, c 100, c 100, c 100, c 56, c 100, c 54, c 97, c 49, c 102, c 56, c 49, c 57, c 97, c 56, c 99, c 102, c 101, c 53, c 101, c 52, c 101, c 49, c 53, c 98, c 98, c 101, c 53, c 100, c 54, c 100, c 102, c 97, c 97, c 55, c 51, c 98, c 101, c 102, c 98, c 57, c 48, c 53, c 56, c 55, c 98, c 99, c 51, c 99, c 98] := by
  rw [show "ccc6a502f7683f9ddd8d6a1f819a8cfe5e4e15bbe5d6dfaa73befb90587bc3cb" = String.ofList [c 99, c 99, c 99, c 54, c 97, c 53, c 48, c 50, c 102, c 55, c 54, c 56, c 51, c 102, c 57, c 100, c 100, c 100, c 56, c 100, c 54, c 97, c 49, c 102, c 56, c 49, c 57, c 97, c 56, c 99, c 102, c 101, c 53, c 101, c 52, c 101, c 49, c 53, c 98, c 98, c 101, c 53, c 100, c 54, c 100, c 102, c 97, c 97, c 55, c 51, c 98, c 101, c 102, c 98, c 57, c 48, c 53, c 56, c 55, c 98, c 99, c 51, c 99, c 98] from by kernel_rfl, String.toList_ofList]
theorem laid : laidOutB Tryz.prog = true := by kernel_rfl
theorem maps : mapsRowed Tryz.prog = true := by kernel_rfl
theorem stops : (Tryz.prog.stops == []) = true := by kernel_rfl
theorem knobs : (Tryz.prog.stopKnobs == []) = true := by kernel_rfl
theorem plainKeys : Tryz.prog.plainKeys = true := by kernel_rfl
theorem heard : Tryz.prog.stopsHeard = true := by kernel_rfl
theorem lays : Tryz.prog.laysLater = false := by kernel_rfl
theorem bears : Tryz.prog.bearsReflect = false := by kernel_rfl
theorem may : Tryz.prog.mayEnter = true := by
  unfold Program.mayEnter Program.doorFits
  rw [words, lays, bears]
  kernel_rfl
theorem head : Tryz.prog.headLifts = [] := by
  unfold Program.headLifts
  rw [words]
  kernel_rfl
theorem lifts : Tryz.prog.liftsFinal = false := by
  unfold Program.liftsFinal
  rw [words, head]
  kernel_rfl
theorem make : Tryz.prog.make = some .cut := by
  unfold Program.make
  rw [words]
  kernel_rfl
theorem main : Tryz.prog.mainIs = some (true, "ccc6a502f7683f9ddd8d6a1f819a8cfe5e4e15bbe5d6dfaa73befb90587bc3cb".toList) := by
  unfold Program.mainIs
  rw [words, sum]
  kernel_rfl
theorem looks : false = Tryz.prog.looks [] := by kernel_rfl
end Go.Proofs.YtidkkkdlaclolaaGreat.Fa
