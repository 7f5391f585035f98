/-  what is true of the whole program, once for all rows.  -/
import Derived.Test.YtbfnagdpanfphaaGreatDoorChecked
import Derived.SevenTiedAt
import Derived.KernelRfl
namespace Go.Proofs.YtbfnagdpanfphaaGreatDoor.Fa
open Go
set_option maxRecDepth 100000

abbrev c (n : Nat) : Char := Char.ofNat n
abbrev all : List Char := [c 104, c 97, c 114, c 110, c 101, c 115, c 115, c 32, c 50, c 102, c 97, c 55, c 99, c 53, c 50, c 50, c 50, c 53, c 100, c 56, c 101, c 49, c 53, c 54, c 54, c 48, c 102, c 100, c 55, c 52, c 98, c 49, c 97, c 57, c 56, c 50, c 101, c 101, c 102, c 51, c 56, c 57, c 52, c 52, c 99, c 51, c 57, c 57, c 99, c 50, c 101, c 101, c 54, c 101, c 52, c 49, c 99, c 101, c 56, c 102, c 97, c 52, c 48, c 49, c 99, c 53, c 49, c 55, c 54, c 102, c 55, c 97, c 32, c 99, c 117, c 116, c 32, c 97, c 116, c 32, c 115, c 112, c 117, c 110, c 121, c 97, c 114, c 110, c 47, c 115, c 112, c 117, c 110, c 121, c 97, c 114, c 110, c 108, c 97, c 119, c 51, c 54, c 46, c 83, c 99, c 114, c 105, c 112, c 116, c 84, c 101, c 120, c 116, c 115, c 32, c 115, c 112, c 117, c 110, c 121, c 97, c 114, c 110, c 47, c 115, c 112, c 117, c 110, c 121, c 97, c 114, c 110, c 108, c 97, c 119, c 51, c 54, c 46, c 83, c 99, c 114, c 105, c 112, c 116, c 66, c 97, c 99, c 107]
theorem io : Tryz.prog.initOrder = String.ofList all := by kernel_rfl
theorem words : wordsSigns Tryz.prog.initOrder.toList = [[c 104, c 97, c 114, c 110, c 101, c 115, c 115], [c 50, c 102, c 97, c 55, c 99, c 53, c 50, c 50, c 50, c 53, c 100, c 56, c 101, c 49, c 53, c 54, c 54, c 48, c 102, c 100, c 55, c 52, c 98, c 49, c 97, c 57, c 56, c 50, c 101, c 101, c 102, c 51, c 56, c 57, c 52, c 52, c 99, c 51, c 57, c 57, c 99, c 50, c 101, c 101, c 54, c 101, c 52, c 49, c 99, c 101, c 56, c 102, c 97, c 52, c 48, c 49, c 99, c 53, c 49, c 55, c 54, c 102, c 55, c 97], [c 99, c 117, c 116], [c 97, c 116], [c 115, c 112, c 117, c 110, c 121, c 97, c 114, c 110, c 47, c 115, c 112, c 117, c 110, c 121, c 97, c 114, c 110, c 108, c 97, c 119, c 51, c 54, c 46, c 83, c 99, c 114, c 105, c 112, c 116, c 84, c 101, c 120, c 116, c 115], [c 115, c 112, c 117, c 110, c 121, c 97, c 114, c 110, c 47, c 115, c 112, c 117, c 110, c 121, c 97, c 114, c 110, c 108, c 97, c 119, c 51, c 54, c 46, c 83, c 99, c 114, c 105, c 112, c 116, c 66, c 97, c 99, c 107]] := by
  rw [io, String.toList_ofList]
  kernel_rfl
theorem sum : "2fa7c52225d8e15660fd74b1a982eef38944c399c2ee6e41ce8fa401c5176f7a".toList = [c 50, c 102, c 97, c 55, c 99, c 53, c 50, c 50, c 50, c 53, c 100, c 56, c 101, c 49, c 53, c 54, c 54, c 48, c 102, c 100, c 55, c 52, c 98, c 49, c 97, c 57, c 56, c 50, c 101, c 101, c 102, c 51, c 56, c 57, c 52, c 52, c 99, c 51, c 57, c 57, c 99, c 50, c 101, c 101, c 54, c 101, c 52, c 49, c 99, c 101, c 56, c 102, c 97, c 52, c 48, c 49, c 99, c 53, c 49, c 55, c 54, c 102, c 55, c 97] := by
  rw [show "2fa7c52225d8e15660fd74b1a982eef38944c399c2ee6e41ce8fa401c5176f7a" = String.ofList [c 50, c 102, c 97, c 55, c 99, c 53, c 50, c 50, c 50, c 53, c 100, c 56, c 101, c 49, c 53, c 54, c 54, c 48, c 102, c 100, c 55, c 52, c 98, c 49, c 97, c 57, c 56, c 50, c 101, c 101, c 102, c 51, c 56, c 57, c 52, c 52, c 99, c 51, c 57, c 57, c 99, c 50, c 101, c 101, c 54, c 101, c 52, c 49, c 99, c 101, c 56, c 102, c 97, c 52, c 48, c 49, c 99, c 53, c 49, c 55, c 54, c 102, c 55, c 97] from by kernel_rfl, String.toList_ofList]
theorem laid : laidOutB Tryz.prog = true := by kernel_rfl
theorem maps : mapsRowed Tryz.prog = true := by kernel_rfl
theorem stops : (Tryz.prog.stops == []) = true := by kernel_rfl
theorem knobs : (Tryz.prog.stopKnobs == []) = true := by kernel_rfl
theorem plainKeys : Tryz.prog.plainKeys = true := by kernel_rfl
theorem heard : Tryz.prog.stopsHeard = true := by kernel_rfl
theorem lays : Tryz.prog.laysLater = false := by kernel_rfl
theorem bears : Tryz.prog.bearsReflect = false := by kernel_rfl
theorem may : Tryz.prog.mayEnter = true := by
  unfold Program.mayEnter Program.doorFits
  rw [words, lays, bears]
  kernel_rfl
theorem head : Tryz.prog.headLifts = [] := by
  unfold Program.headLifts
  rw [words]
  kernel_rfl
theorem lifts : Tryz.prog.liftsFinal = false := by
  unfold Program.liftsFinal
  rw [words, head]
  kernel_rfl
theorem make : Tryz.prog.make = some .cut := by
  unfold Program.make
  rw [words]
  kernel_rfl
theorem main : Tryz.prog.mainIs = some (true, "2fa7c52225d8e15660fd74b1a982eef38944c399c2ee6e41ce8fa401c5176f7a".toList) := by
  unfold Program.mainIs
  rw [words, sum]
  kernel_rfl
theorem looks : true = Tryz.prog.looks [] := by kernel_rfl
end Go.Proofs.YtbfnagdpanfphaaGreatDoor.Fa
