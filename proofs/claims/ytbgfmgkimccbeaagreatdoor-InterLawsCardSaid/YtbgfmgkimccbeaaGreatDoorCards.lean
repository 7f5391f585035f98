/-
  DERIVED. GIVEN WITH THE SEED: THE CARDS: each row of YtbgfmgkimccbeaaGreatDoorRows.lean that lists a variable, with what it lists TIED to the program's text (the seventh form; the later family's looks); each row that meets fmt, with fmt's text TOLD by the authors' own Lean function (tested against real Go, not proved from fmt's source: count such statements apart). THE CARD IS WHAT COUNTS. Prove the row's statement (the work); the ties are given (YtbgfmgkimccbeaaGreatDoorTie.lean); close each card by the builder's one call (the guide's Derived/Test/ToyasCard.lean, 'card_holds'). Laid BY PROGRAM, IN A SANDBOX (cutbox-door.mjs). By AI agents, Wed Nov 11 2026. No macro, syntax, notation, axiom, sorry.
-/
import Derived.Test.YtbgfmgkimccbeaaGreatDoorRows
import GoSem.ClaimSeven
namespace Go.Proofs.YtbgfmgkimccbeaaGreatDoor
namespace Rows

/-- THE TIED CARD OF 'spunyarnlaw28.SameIs'. -/
def sameIsCard : Claim7 := { stood := { row := sameIsRow, standIns := [], harness := (true, "e6656ff8a329640e7b2c52d8e640f66c242630a4599e77e2aeee60f20d0797ad"), looks := false }, kinds := [], alts := [], laidByText := true, laidKinds := [.data, .data, .data], laidTests := true, laidLooks := .later }
def SameIsCardSaid : Prop := Claim7.holds Tryz.pinned (.plain (OpenSpec.ofChange sameIsSpec)) sameIsCard

/-- THE TIED CARD OF 'spunyarnlaw25.InterIs'. -/
def interIsCard : Claim7 := { stood := { row := interIsRow, standIns := [], harness := (true, "e6656ff8a329640e7b2c52d8e640f66c242630a4599e77e2aeee60f20d0797ad"), looks := false }, kinds := [], alts := [], laidByText := true, laidKinds := [.data, .data, .data], laidTests := true, laidLooks := .later }
def InterIsCardSaid : Prop := Claim7.holds Tryz.pinned (.plain (OpenSpec.ofChange interIsSpec)) interIsCard

/-- THE TIED CARD OF 'spunyarnlaw25.InterIdle'. -/
def interIdleCard : Claim7 := { stood := { row := interIdleRow, standIns := [], harness := (true, "e6656ff8a329640e7b2c52d8e640f66c242630a4599e77e2aeee60f20d0797ad"), looks := false }, kinds := [], alts := [], laidByText := true, laidKinds := [.data, .data, .data], laidTests := true, laidLooks := .later }
def InterIdleCardSaid : Prop := Claim7.holds Tryz.pinned (.plain (OpenSpec.ofChange interIdleSpec)) interIdleCard

/-- THE TIED CARD OF 'spunyarnlaw25.InterLaws'. -/
def interLawsCard : Claim7 := { stood := { row := interLawsRow, standIns := [], harness := (true, "e6656ff8a329640e7b2c52d8e640f66c242630a4599e77e2aeee60f20d0797ad"), looks := false }, kinds := [], alts := [], laidByText := true, laidKinds := [.data, .data, .data], laidTests := true, laidLooks := .later }
def InterLawsCardSaid : Prop := Claim7.holds Tryz.pinned (.plain (OpenSpec.ofChange interLawsSpec)) interLawsCard

/-- THE SECOND FORM's CARD OF 'spunyarnlaw28.SameIs'. -/
def sameIsUptoCard : Claim7 := { stood := { row := sameIsUptoRow, standIns := [], harness := (true, "e6656ff8a329640e7b2c52d8e640f66c242630a4599e77e2aeee60f20d0797ad"), looks := false }, kinds := [], alts := [], laidByText := true, laidKinds := [.data, .data, .data], laidTests := true, laidLooks := .later }
def SameIsUptoCardSaid : Prop := Claim7.holds Tryz.pinned (.plain (OpenSpec.upto sameIsSpec)) sameIsUptoCard

/-- THE SECOND FORM's CARD OF 'spunyarnlaw25.InterIs'. -/
def interIsUptoCard : Claim7 := { stood := { row := interIsUptoRow, standIns := [], harness := (true, "e6656ff8a329640e7b2c52d8e640f66c242630a4599e77e2aeee60f20d0797ad"), looks := false }, kinds := [], alts := [], laidByText := true, laidKinds := [.data, .data, .data], laidTests := true, laidLooks := .later }
def InterIsUptoCardSaid : Prop := Claim7.holds Tryz.pinned (.plain (OpenSpec.upto interIsSpec)) interIsUptoCard

/-- THE SECOND FORM's CARD OF 'spunyarnlaw25.InterIdle'. -/
def interIdleUptoCard : Claim7 := { stood := { row := interIdleUptoRow, standIns := [], harness := (true, "e6656ff8a329640e7b2c52d8e640f66c242630a4599e77e2aeee60f20d0797ad"), looks := false }, kinds := [], alts := [], laidByText := true, laidKinds := [.data, .data, .data], laidTests := true, laidLooks := .later }
def InterIdleUptoCardSaid : Prop := Claim7.holds Tryz.pinned (.plain (OpenSpec.upto interIdleSpec)) interIdleUptoCard

/-- THE SECOND FORM's CARD OF 'spunyarnlaw25.InterLaws'. -/
def interLawsUptoCard : Claim7 := { stood := { row := interLawsUptoRow, standIns := [], harness := (true, "e6656ff8a329640e7b2c52d8e640f66c242630a4599e77e2aeee60f20d0797ad"), looks := false }, kinds := [], alts := [], laidByText := true, laidKinds := [.data, .data, .data], laidTests := true, laidLooks := .later }
def InterLawsUptoCardSaid : Prop := Claim7.holds Tryz.pinned (.plain (OpenSpec.upto interLawsSpec)) interLawsUptoCard
end Rows
end Go.Proofs.YtbgfmgkimccbeaaGreatDoor
