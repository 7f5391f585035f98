/-
  DERIVED. GIVEN WITH THE SEED: THE CARDS: each row of YtlhjfenpmnejoaaGreatDoorRows.lean that lists a variable, with what it lists TIED to the program's text (the seventh form; the later family's looks); each row that meets fmt, with fmt's text TOLD by the authors' own Lean function (tested against real Go, not proved from fmt's source: count such statements apart). THE CARD IS WHAT COUNTS. Prove the row's statement (the work); the ties are given (YtlhjfenpmnejoaaGreatDoorTie.lean); close each card by the builder's one call (the guide's Derived/Test/ToyasCard.lean, 'card_holds'). Laid BY PROGRAM, IN A SANDBOX (cutbox-door.mjs). By AI agents, Wed Nov 11 2026. No macro, syntax, notation, axiom, sorry.
-/
import Derived.Test.YtlhjfenpmnejoaaGreatDoorRows
import GoSem.ClaimSeven
namespace Go.Proofs.YtlhjfenpmnejoaaGreatDoor
namespace Rows

/-- THE TIED CARD OF 'spunyarnlaw21.LoadOrder'. -/
def loadOrderCard : Claim7 := { stood := { row := loadOrderRow, standIns := [], harness := (true, "4ee6a22955100c205f9df38330be5b7c985d14307fe79f38cc30e21857d6e4a5"), looks := false }, kinds := [], alts := [], laidByText := true, laidKinds := [.data, .data, .data], laidTests := true, laidLooks := .later }
def LoadOrderCardSaid : Prop := Claim7.holds Tryz.pinned (.plain (OpenSpec.ofChange loadOrderSpec)) loadOrderCard

/-- THE TIED CARD OF 'spunyarnlaw21.LoadSorts'. -/
def loadSortsCard : Claim7 := { stood := { row := loadSortsRow, standIns := [], harness := (true, "4ee6a22955100c205f9df38330be5b7c985d14307fe79f38cc30e21857d6e4a5"), looks := false }, kinds := [], alts := [], laidByText := true, laidKinds := [.data, .data, .data], laidTests := true, laidLooks := .later }
def LoadSortsCardSaid : Prop := Claim7.holds Tryz.pinned (.plain (OpenSpec.ofChange loadSortsSpec)) loadSortsCard

/-- THE TIED CARD OF 'spunyarnlaw21.LoadMerge'. -/
def loadMergeCard : Claim7 := { stood := { row := loadMergeRow, standIns := [], harness := (true, "4ee6a22955100c205f9df38330be5b7c985d14307fe79f38cc30e21857d6e4a5"), looks := false }, kinds := [], alts := [], laidByText := true, laidKinds := [.data, .data, .data], laidTests := true, laidLooks := .later }
def LoadMergeCardSaid : Prop := Claim7.holds Tryz.pinned (.plain (OpenSpec.ofChange loadMergeSpec)) loadMergeCard

/-- THE TIED CARD OF 'spunyarnlaw20.TransPlays'. -/
def transPlaysCard : Claim7 := { stood := { row := transPlaysRow, standIns := [], harness := (true, "4ee6a22955100c205f9df38330be5b7c985d14307fe79f38cc30e21857d6e4a5"), looks := false }, kinds := [], alts := [], laidByText := true, laidKinds := [.data, .data, .data], laidTests := true, laidLooks := .later }
def TransPlaysCardSaid : Prop := Claim7.holds Tryz.pinned (.plain (OpenSpec.ofChange transPlaysSpec)) transPlaysCard

/-- THE SECOND FORM's CARD OF 'spunyarnlaw21.LoadOrder'. -/
def loadOrderUptoCard : Claim7 := { stood := { row := loadOrderUptoRow, standIns := [], harness := (true, "4ee6a22955100c205f9df38330be5b7c985d14307fe79f38cc30e21857d6e4a5"), looks := false }, kinds := [], alts := [], laidByText := true, laidKinds := [.data, .data, .data], laidTests := true, laidLooks := .later }
def LoadOrderUptoCardSaid : Prop := Claim7.holds Tryz.pinned (.plain (OpenSpec.upto loadOrderSpec)) loadOrderUptoCard

/-- THE SECOND FORM's CARD OF 'spunyarnlaw21.LoadSorts'. -/
def loadSortsUptoCard : Claim7 := { stood := { row := loadSortsUptoRow, standIns := [], harness := (true, "4ee6a22955100c205f9df38330be5b7c985d14307fe79f38cc30e21857d6e4a5"), looks := false }, kinds := [], alts := [], laidByText := true, laidKinds := [.data, .data, .data], laidTests := true, laidLooks := .later }
def LoadSortsUptoCardSaid : Prop := Claim7.holds Tryz.pinned (.plain (OpenSpec.upto loadSortsSpec)) loadSortsUptoCard

/-- THE SECOND FORM's CARD OF 'spunyarnlaw21.LoadMerge'. -/
def loadMergeUptoCard : Claim7 := { stood := { row := loadMergeUptoRow, standIns := [], harness := (true, "4ee6a22955100c205f9df38330be5b7c985d14307fe79f38cc30e21857d6e4a5"), looks := false }, kinds := [], alts := [], laidByText := true, laidKinds := [.data, .data, .data], laidTests := true, laidLooks := .later }
def LoadMergeUptoCardSaid : Prop := Claim7.holds Tryz.pinned (.plain (OpenSpec.upto loadMergeSpec)) loadMergeUptoCard

/-- THE SECOND FORM's CARD OF 'spunyarnlaw20.TransPlays'. -/
def transPlaysUptoCard : Claim7 := { stood := { row := transPlaysUptoRow, standIns := [], harness := (true, "4ee6a22955100c205f9df38330be5b7c985d14307fe79f38cc30e21857d6e4a5"), looks := false }, kinds := [], alts := [], laidByText := true, laidKinds := [.data, .data, .data], laidTests := true, laidLooks := .later }
def TransPlaysUptoCardSaid : Prop := Claim7.holds Tryz.pinned (.plain (OpenSpec.upto transPlaysSpec)) transPlaysUptoCard
end Rows
end Go.Proofs.YtlhjfenpmnejoaaGreatDoor
