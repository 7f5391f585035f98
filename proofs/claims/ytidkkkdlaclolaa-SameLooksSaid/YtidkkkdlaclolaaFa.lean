/-  what is true of the whole program, once for all rows.  -/
import Derived.Test.YtidkkkdlaclolaaChecked
import Derived.SevenTiedAt
import Derived.KernelRfl
namespace Go.Proofs.Ytidkkkdlaclolaa.Fa
open Go
set_option maxRecDepth 100000

abbrev c (n : Nat) : Char := Char.ofNat n
abbrev all : List Char := [c 104, c 97, c 114, c 110, c 101, c 115, c 115, c 32, c 55, c 102, c 57, c 53, c 97, c 55, c 48, c 98, c 49, c 55, c 57, c 101, c 55, c 57, c 54, c 99, c 53, c 100, c 56, c 49, c 49, c 99, c 56, c 53, c 98, c 57, c 53, c 49, c 48, c 97, c 99, c 53, c 52, c 49, c 100, c 51, c 57, c 55, c 99, c 102, c 54, c 49, c 98, c 97, c 98, c 102, c 52, c 55, c 99, c 51, c 102, c 98, c 100, c 48, c 50, c 98, c 100, c 51, c 102, c 56, c 55, c 53, c 49, c 100, c 32, c 99, c 117, c 116, c 32, c 97, c 116, c 32, c 115, c 112, c 117, c 110, c 121, c 97, c 114, c 110, c 47, c 115, c 112, c 117, c 110, c 121, c 97, c 114, c 110, c 108, c 97, c 119, c 50, c 56, c 46, c 83, c 97, c 109, c 101, c 76, c 111, c 111, c 107, c 115]
theorem io : Try.prog.initOrder = String.ofList all := by kernel_rfl
theorem words : wordsSigns Try.prog.initOrder.toList = [[c 104, c 97, c 114, c 110, c 101, c 115, c 115], [c 55, c 102, c 57, c 53, c 97, c 55, c 48, c 98, c 49, c 55, c 57, c 101, c 55, c 57, c 54, c 99, c 53, c 100, c 56, c 49, c 49, c 99, c 56, c 53, c 98, c 57, c 53, c 49, c 48, c 97, c 99, c 53, c 52, c 49, c 100, c 51, c 57, c 55, c 99, c 102, c 54, c 49, c 98, c 97, c 98, c 102, c 52, c 55, c 99, c 51, c 102, c 98, c 100, c 48, c 50, c 98, c 100, c 51, c 102, c 56, c 55, c 53, c 49, c 100], [c 99, c 117, c 116], [c 97, c 116], [c 115, c 112, c 117, c 110, c 121, c 97, c 114, c 110, c 47, c 115, c 112, c 117, c 110, c 121, c 97, c 114, c 110, c 108, c 97, c 119, c 50, c 56, c 46, c 83, c 97, c 109, c 101, c 76, c 111, c 111, c 107, c 115]] := by
  rw [io, String.toList_ofList]
  kernel_rfl
theorem sum : "7f95a70b179e796c5d811c85b9510ac541d397cf61babf47c3fbd02bd3f8751d".toList = [c 55, c 102, c 57, c 53, c 97, c 55, c 48, c 98, c 49, c 55, c 57, c 101, c 55, c 57, c 54, c 99, c 53, c 100, c 56, c 49, c 49, c 99, c 56, c 53, c 98, c 57, c 53, c 49, c 48, c 97, c 99, c 53, c 52, c 49, c 100, c 51, c 57, c 55, c 99, c 102, c 54, c 49, c 98, c 97, c 98, c 102, c 52, c 55, c 99, c 51, c 102, c 98, c 100, c 48, c 50, c 98, c 100, c 51, c 102, c 56, c 55, c 53, c 49, c 100] := by
  rw [show "7f95a70b179e796c5d811c85b9510ac541d397cf61babf47c3fbd02bd3f8751d" = String.ofList [c 55, c 102, c 57, c 53, c 97, c 55, c 48, c 98, c 49, c 55, c 57, c 101, c 55, c 57, c 54, c 99, c 53, c 100, c 56, c 49, c 49, c 99, c 56, c 53, c 98, c 57, c 53, c 49, c 48, c 97, c 99, c 53, c 52, c 49, c 100, c 51, c 57, c 55, c 99, c 102, c 54, c 49, c 98, c 97, c 98, c 102, c 52, c 55, c 99, c 51, c 102, c 98, c 100, c 48, c 50, c 98, c 100, c 51, c 102, c 56, c 55, c 53, c 49, c 100] from by kernel_rfl, String.toList_ofList]
theorem laid : laidOutB Try.prog = true := by kernel_rfl
theorem maps : mapsRowed Try.prog = true := by kernel_rfl
theorem stops : (Try.prog.stops == []) = true := by kernel_rfl
theorem knobs : (Try.prog.stopKnobs == []) = true := by kernel_rfl
theorem plainKeys : Try.prog.plainKeys = true := by kernel_rfl
theorem heard : Try.prog.stopsHeard = true := by kernel_rfl
theorem lays : Try.prog.laysLater = false := by kernel_rfl
theorem bears : Try.prog.bearsReflect = false := by kernel_rfl
theorem may : Try.prog.mayEnter = true := by
  unfold Program.mayEnter Program.doorFits
  rw [words, lays, bears]
  kernel_rfl
theorem head : Try.prog.headLifts = [] := by
  unfold Program.headLifts
  rw [words]
  kernel_rfl
theorem lifts : Try.prog.liftsFinal = false := by
  unfold Program.liftsFinal
  rw [words, head]
  kernel_rfl
theorem make : Try.prog.make = some .cut := by
  unfold Program.make
  rw [words]
  kernel_rfl
theorem main : Try.prog.mainIs = some (true, "7f95a70b179e796c5d811c85b9510ac541d397cf61babf47c3fbd02bd3f8751d".toList) := by
  unfold Program.mainIs
  rw [words, sum]
  kernel_rfl
theorem looks : false = Try.prog.looks [] := by kernel_rfl
end Go.Proofs.Ytidkkkdlaclolaa.Fa
