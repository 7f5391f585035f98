/-
  DERIVED. GIVEN WITH THE SEED: THE CARDS: each row of YtbnhggfiembejaaGreatDoorRows.lean that lists a variable, with what it lists TIED to the program's text (the seventh form; the later family's looks); each row that meets fmt, with fmt's text TOLD by the authors' own Lean function (tested against real Go, not proved from fmt's source: count such statements apart). THE CARD IS WHAT COUNTS. Prove the row's statement (the work); the ties are given (YtbnhggfiembejaaGreatDoorTie.lean); close each card by the builder's one call (the guide's Derived/Test/ToyasCard.lean, 'card_holds'). Laid BY PROGRAM, IN A SANDBOX (cutbox-door.mjs). By AI agents, Wed Nov 11 2026. No macro, syntax, notation, axiom, sorry.
-/
import Derived.Test.YtbnhggfiembejaaGreatDoorRows
import GoSem.ClaimSeven
namespace Go.Proofs.YtbnhggfiembejaaGreatDoor
namespace Rows

/-- THE TIED CARD OF 'spunyarnlaw27.CutSpans'. -/
def cutSpansCard : Claim7 := { stood := { row := cutSpansRow, standIns := [], harness := (true, "02dc4d7891be407fc02eadb544f4cb442fe5fcb76d454bd5ecbe947e76053e91"), looks := false }, kinds := [], alts := [], laidByText := true, laidKinds := [.data, .data, .data], laidTests := true, laidLooks := .later }
def CutSpansCardSaid : Prop := Claim7.holds Tryz.pinned (.plain (OpenSpec.ofChange cutSpansSpec)) cutSpansCard

/-- THE TIED CARD OF 'spunyarnlaw27.CutJoins'. -/
def cutJoinsCard : Claim7 := { stood := { row := cutJoinsRow, standIns := [], harness := (true, "02dc4d7891be407fc02eadb544f4cb442fe5fcb76d454bd5ecbe947e76053e91"), looks := false }, kinds := [], alts := [], laidByText := true, laidKinds := [.data, .data, .data], laidTests := true, laidLooks := .later }
def CutJoinsCardSaid : Prop := Claim7.holds Tryz.pinned (.plain (OpenSpec.ofChange cutJoinsSpec)) cutJoinsCard

/-- THE TIED CARD OF 'spunyarnlaw29.DeltaOf'. -/
def deltaOfCard : Claim7 := { stood := { row := deltaOfRow, standIns := [], harness := (true, "02dc4d7891be407fc02eadb544f4cb442fe5fcb76d454bd5ecbe947e76053e91"), looks := false }, kinds := [], alts := [], laidByText := true, laidKinds := [.data, .data, .data], laidTests := true, laidLooks := .later }
def DeltaOfCardSaid : Prop := Claim7.holds Tryz.pinned (.plain (OpenSpec.ofChange deltaOfSpec)) deltaOfCard

/-- THE TIED CARD OF 'spunyarnlaw29.DeltaApplies'. -/
def deltaAppliesCard : Claim7 := { stood := { row := deltaAppliesRow, standIns := [], harness := (true, "02dc4d7891be407fc02eadb544f4cb442fe5fcb76d454bd5ecbe947e76053e91"), looks := false }, kinds := [], alts := [], laidByText := true, laidKinds := [.data, .data, .data], laidTests := true, laidLooks := .later }
def DeltaAppliesCardSaid : Prop := Claim7.holds Tryz.pinned (.plain (OpenSpec.ofChange deltaAppliesSpec)) deltaAppliesCard

/-- THE TIED CARD OF 'spunyarnlaw29.DeltaThen'. -/
def deltaThenCard : Claim7 := { stood := { row := deltaThenRow, standIns := [], harness := (true, "02dc4d7891be407fc02eadb544f4cb442fe5fcb76d454bd5ecbe947e76053e91"), looks := false }, kinds := [], alts := [], laidByText := true, laidKinds := [.data, .data, .data], laidTests := true, laidLooks := .later }
def DeltaThenCardSaid : Prop := Claim7.holds Tryz.pinned (.plain (OpenSpec.ofChange deltaThenSpec)) deltaThenCard

/-- THE TIED CARD OF 'spunyarnlaw29.DeltaWay'. -/
def deltaWayCard : Claim7 := { stood := { row := deltaWayRow, standIns := [], harness := (true, "02dc4d7891be407fc02eadb544f4cb442fe5fcb76d454bd5ecbe947e76053e91"), looks := false }, kinds := [], alts := [], laidByText := true, laidKinds := [.data, .data, .data], laidTests := true, laidLooks := .later }
def DeltaWayCardSaid : Prop := Claim7.holds Tryz.pinned (.plain (OpenSpec.ofChange deltaWaySpec)) deltaWayCard

/-- THE TIED CARD OF 'spunyarnlaw27.CutSplits'. -/
def cutSplitsCard : Claim7 := { stood := { row := cutSplitsRow, standIns := [], harness := (true, "02dc4d7891be407fc02eadb544f4cb442fe5fcb76d454bd5ecbe947e76053e91"), looks := false }, kinds := [], alts := [], laidByText := true, laidKinds := [.data, .data, .data], laidTests := true, laidLooks := .later }
def CutSplitsCardSaid : Prop := Claim7.holds Tryz.pinned (.plain (OpenSpec.ofChange cutSplitsSpec)) cutSplitsCard

/-- THE TIED CARD OF 'spunyarnlaw27.CutBack'. -/
def cutBackCard : Claim7 := { stood := { row := cutBackRow, standIns := [], harness := (true, "02dc4d7891be407fc02eadb544f4cb442fe5fcb76d454bd5ecbe947e76053e91"), looks := false }, kinds := [], alts := [], laidByText := true, laidKinds := [.data, .data, .data], laidTests := true, laidLooks := .later }
def CutBackCardSaid : Prop := Claim7.holds Tryz.pinned (.plain (OpenSpec.ofChange cutBackSpec)) cutBackCard

/-- THE TIED CARD OF 'spunyarnlaw26.DiffIs'. -/
def diffIsCard : Claim7 := { stood := { row := diffIsRow, standIns := [], harness := (true, "02dc4d7891be407fc02eadb544f4cb442fe5fcb76d454bd5ecbe947e76053e91"), looks := false }, kinds := [], alts := [], laidByText := true, laidKinds := [.data, .data, .data], laidTests := true, laidLooks := .later }
def DiffIsCardSaid : Prop := Claim7.holds Tryz.pinned (.plain (OpenSpec.ofChange diffIsSpec)) diffIsCard

/-- THE TIED CARD OF 'spunyarnlaw26.DiffIdle'. -/
def diffIdleCard : Claim7 := { stood := { row := diffIdleRow, standIns := [], harness := (true, "02dc4d7891be407fc02eadb544f4cb442fe5fcb76d454bd5ecbe947e76053e91"), looks := false }, kinds := [], alts := [], laidByText := true, laidKinds := [.data, .data, .data], laidTests := true, laidLooks := .later }
def DiffIdleCardSaid : Prop := Claim7.holds Tryz.pinned (.plain (OpenSpec.ofChange diffIdleSpec)) diffIdleCard

/-- THE TIED CARD OF 'spunyarnlaw26.DiffLaws'. -/
def diffLawsCard : Claim7 := { stood := { row := diffLawsRow, standIns := [], harness := (true, "02dc4d7891be407fc02eadb544f4cb442fe5fcb76d454bd5ecbe947e76053e91"), looks := false }, kinds := [], alts := [], laidByText := true, laidKinds := [.data, .data, .data], laidTests := true, laidLooks := .later }
def DiffLawsCardSaid : Prop := Claim7.holds Tryz.pinned (.plain (OpenSpec.ofChange diffLawsSpec)) diffLawsCard

/-- THE SECOND FORM's CARD OF 'spunyarnlaw27.CutSpans'. -/
def cutSpansUptoCard : Claim7 := { stood := { row := cutSpansUptoRow, standIns := [], harness := (true, "02dc4d7891be407fc02eadb544f4cb442fe5fcb76d454bd5ecbe947e76053e91"), looks := false }, kinds := [], alts := [], laidByText := true, laidKinds := [.data, .data, .data], laidTests := true, laidLooks := .later }
def CutSpansUptoCardSaid : Prop := Claim7.holds Tryz.pinned (.plain (OpenSpec.upto cutSpansSpec)) cutSpansUptoCard

/-- THE SECOND FORM's CARD OF 'spunyarnlaw27.CutJoins'. -/
def cutJoinsUptoCard : Claim7 := { stood := { row := cutJoinsUptoRow, standIns := [], harness := (true, "02dc4d7891be407fc02eadb544f4cb442fe5fcb76d454bd5ecbe947e76053e91"), looks := false }, kinds := [], alts := [], laidByText := true, laidKinds := [.data, .data, .data], laidTests := true, laidLooks := .later }
def CutJoinsUptoCardSaid : Prop := Claim7.holds Tryz.pinned (.plain (OpenSpec.upto cutJoinsSpec)) cutJoinsUptoCard

/-- THE SECOND FORM's CARD OF 'spunyarnlaw29.DeltaOf'. -/
def deltaOfUptoCard : Claim7 := { stood := { row := deltaOfUptoRow, standIns := [], harness := (true, "02dc4d7891be407fc02eadb544f4cb442fe5fcb76d454bd5ecbe947e76053e91"), looks := false }, kinds := [], alts := [], laidByText := true, laidKinds := [.data, .data, .data], laidTests := true, laidLooks := .later }
def DeltaOfUptoCardSaid : Prop := Claim7.holds Tryz.pinned (.plain (OpenSpec.upto deltaOfSpec)) deltaOfUptoCard

/-- THE SECOND FORM's CARD OF 'spunyarnlaw29.DeltaApplies'. -/
def deltaAppliesUptoCard : Claim7 := { stood := { row := deltaAppliesUptoRow, standIns := [], harness := (true, "02dc4d7891be407fc02eadb544f4cb442fe5fcb76d454bd5ecbe947e76053e91"), looks := false }, kinds := [], alts := [], laidByText := true, laidKinds := [.data, .data, .data], laidTests := true, laidLooks := .later }
def DeltaAppliesUptoCardSaid : Prop := Claim7.holds Tryz.pinned (.plain (OpenSpec.upto deltaAppliesSpec)) deltaAppliesUptoCard

/-- THE SECOND FORM's CARD OF 'spunyarnlaw29.DeltaThen'. -/
def deltaThenUptoCard : Claim7 := { stood := { row := deltaThenUptoRow, standIns := [], harness := (true, "02dc4d7891be407fc02eadb544f4cb442fe5fcb76d454bd5ecbe947e76053e91"), looks := false }, kinds := [], alts := [], laidByText := true, laidKinds := [.data, .data, .data], laidTests := true, laidLooks := .later }
def DeltaThenUptoCardSaid : Prop := Claim7.holds Tryz.pinned (.plain (OpenSpec.upto deltaThenSpec)) deltaThenUptoCard

/-- THE SECOND FORM's CARD OF 'spunyarnlaw29.DeltaWay'. -/
def deltaWayUptoCard : Claim7 := { stood := { row := deltaWayUptoRow, standIns := [], harness := (true, "02dc4d7891be407fc02eadb544f4cb442fe5fcb76d454bd5ecbe947e76053e91"), looks := false }, kinds := [], alts := [], laidByText := true, laidKinds := [.data, .data, .data], laidTests := true, laidLooks := .later }
def DeltaWayUptoCardSaid : Prop := Claim7.holds Tryz.pinned (.plain (OpenSpec.upto deltaWaySpec)) deltaWayUptoCard

/-- THE SECOND FORM's CARD OF 'spunyarnlaw27.CutSplits'. -/
def cutSplitsUptoCard : Claim7 := { stood := { row := cutSplitsUptoRow, standIns := [], harness := (true, "02dc4d7891be407fc02eadb544f4cb442fe5fcb76d454bd5ecbe947e76053e91"), looks := false }, kinds := [], alts := [], laidByText := true, laidKinds := [.data, .data, .data], laidTests := true, laidLooks := .later }
def CutSplitsUptoCardSaid : Prop := Claim7.holds Tryz.pinned (.plain (OpenSpec.upto cutSplitsSpec)) cutSplitsUptoCard

/-- THE SECOND FORM's CARD OF 'spunyarnlaw27.CutBack'. -/
def cutBackUptoCard : Claim7 := { stood := { row := cutBackUptoRow, standIns := [], harness := (true, "02dc4d7891be407fc02eadb544f4cb442fe5fcb76d454bd5ecbe947e76053e91"), looks := false }, kinds := [], alts := [], laidByText := true, laidKinds := [.data, .data, .data], laidTests := true, laidLooks := .later }
def CutBackUptoCardSaid : Prop := Claim7.holds Tryz.pinned (.plain (OpenSpec.upto cutBackSpec)) cutBackUptoCard

/-- THE SECOND FORM's CARD OF 'spunyarnlaw26.DiffIs'. -/
def diffIsUptoCard : Claim7 := { stood := { row := diffIsUptoRow, standIns := [], harness := (true, "02dc4d7891be407fc02eadb544f4cb442fe5fcb76d454bd5ecbe947e76053e91"), looks := false }, kinds := [], alts := [], laidByText := true, laidKinds := [.data, .data, .data], laidTests := true, laidLooks := .later }
def DiffIsUptoCardSaid : Prop := Claim7.holds Tryz.pinned (.plain (OpenSpec.upto diffIsSpec)) diffIsUptoCard

/-- THE SECOND FORM's CARD OF 'spunyarnlaw26.DiffIdle'. -/
def diffIdleUptoCard : Claim7 := { stood := { row := diffIdleUptoRow, standIns := [], harness := (true, "02dc4d7891be407fc02eadb544f4cb442fe5fcb76d454bd5ecbe947e76053e91"), looks := false }, kinds := [], alts := [], laidByText := true, laidKinds := [.data, .data, .data], laidTests := true, laidLooks := .later }
def DiffIdleUptoCardSaid : Prop := Claim7.holds Tryz.pinned (.plain (OpenSpec.upto diffIdleSpec)) diffIdleUptoCard

/-- THE SECOND FORM's CARD OF 'spunyarnlaw26.DiffLaws'. -/
def diffLawsUptoCard : Claim7 := { stood := { row := diffLawsUptoRow, standIns := [], harness := (true, "02dc4d7891be407fc02eadb544f4cb442fe5fcb76d454bd5ecbe947e76053e91"), looks := false }, kinds := [], alts := [], laidByText := true, laidKinds := [.data, .data, .data], laidTests := true, laidLooks := .later }
def DiffLawsUptoCardSaid : Prop := Claim7.holds Tryz.pinned (.plain (OpenSpec.upto diffLawsSpec)) diffLawsUptoCard
end Rows
end Go.Proofs.YtbnhggfiembejaaGreatDoor
