/-
  DERIVED. GIVEN WITH THE SEED: THE CARDS: each row of YthnegkjhciakpaaGreatDoorRows.lean that lists a variable, with what it lists TIED to the program's text (the seventh form; the later family's looks); each row that meets fmt, with fmt's text TOLD by the authors' own Lean function (tested against real Go, not proved from fmt's source: count such statements apart). THE CARD IS WHAT COUNTS. Prove the row's statement (the work); the ties are given (YthnegkjhciakpaaGreatDoorTie.lean); close each card by the builder's one call (the guide's Derived/Test/ToyasCard.lean, 'card_holds'). Laid BY PROGRAM, IN A SANDBOX (cutbox-door.mjs). By AI agents, Wed Nov 11 2026. No macro, syntax, notation, axiom, sorry.
-/
import Derived.Test.YthnegkjhciakpaaGreatDoorRows
import GoSem.ClaimSeven
namespace Go.Proofs.YthnegkjhciakpaaGreatDoor
namespace Rows

/-- THE TIED CARD OF 'spunyarnlaw24.UnionPicks'. -/
def unionPicksCard : Claim7 := { stood := { row := unionPicksRow, standIns := [], harness := (true, "a704693806137ac4fb80c92bdb3c5f2fc833f60a033a1035f2ecc40ff601c314"), looks := false }, kinds := [], alts := [], laidByText := true, laidKinds := [.data, .data, .data], laidTests := true, laidLooks := .later }
def UnionPicksCardSaid : Prop := Claim7.holds Tryz.pinned (.plain (OpenSpec.ofChange unionPicksSpec)) unionPicksCard

/-- THE TIED CARD OF 'spunyarnlaw24.UnionLaws'. -/
def unionLawsCard : Claim7 := { stood := { row := unionLawsRow, standIns := [], harness := (true, "a704693806137ac4fb80c92bdb3c5f2fc833f60a033a1035f2ecc40ff601c314"), looks := false }, kinds := [], alts := [], laidByText := true, laidKinds := [.data, .data, .data], laidTests := true, laidLooks := .later }
def UnionLawsCardSaid : Prop := Claim7.holds Tryz.pinned (.plain (OpenSpec.ofChange unionLawsSpec)) unionLawsCard

/-- THE TIED CARD OF 'spunyarnlaw16.DelLeft'. -/
def delLeftCard : Claim7 := { stood := { row := delLeftRow, standIns := [], harness := (true, "a704693806137ac4fb80c92bdb3c5f2fc833f60a033a1035f2ecc40ff601c314"), looks := false }, kinds := [], alts := [], laidByText := true, laidKinds := [.data, .data, .data], laidTests := true, laidLooks := .later }
def DelLeftCardSaid : Prop := Claim7.holds Tryz.pinned (.plain (OpenSpec.ofChange delLeftSpec)) delLeftCard

/-- THE TIED CARD OF 'spunyarnlaw24.UnionIs'. -/
def unionIsCard : Claim7 := { stood := { row := unionIsRow, standIns := [], harness := (true, "a704693806137ac4fb80c92bdb3c5f2fc833f60a033a1035f2ecc40ff601c314"), looks := false }, kinds := [], alts := [], laidByText := true, laidKinds := [.data, .data, .data], laidTests := true, laidLooks := .later }
def UnionIsCardSaid : Prop := Claim7.holds Tryz.pinned (.plain (OpenSpec.ofChange unionIsSpec)) unionIsCard

/-- THE TIED CARD OF 'spunyarnlaw24.UnionIdle'. -/
def unionIdleCard : Claim7 := { stood := { row := unionIdleRow, standIns := [], harness := (true, "a704693806137ac4fb80c92bdb3c5f2fc833f60a033a1035f2ecc40ff601c314"), looks := false }, kinds := [], alts := [], laidByText := true, laidKinds := [.data, .data, .data], laidTests := true, laidLooks := .later }
def UnionIdleCardSaid : Prop := Claim7.holds Tryz.pinned (.plain (OpenSpec.ofChange unionIdleSpec)) unionIdleCard

/-- THE TIED CARD OF 'spunyarnlaw20.TransApart'. -/
def transApartCard : Claim7 := { stood := { row := transApartRow, standIns := [], harness := (true, "a704693806137ac4fb80c92bdb3c5f2fc833f60a033a1035f2ecc40ff601c314"), looks := false }, kinds := [], alts := [], laidByText := true, laidKinds := [.data, .data, .data], laidTests := true, laidLooks := .later }
def TransApartCardSaid : Prop := Claim7.holds Tryz.pinned (.plain (OpenSpec.ofChange transApartSpec)) transApartCard

/-- THE TIED CARD OF 'spunyarnlaw20.TransMade'. -/
def transMadeCard : Claim7 := { stood := { row := transMadeRow, standIns := [], harness := (true, "a704693806137ac4fb80c92bdb3c5f2fc833f60a033a1035f2ecc40ff601c314"), looks := false }, kinds := [], alts := [], laidByText := true, laidKinds := [.data, .data, .data], laidTests := true, laidLooks := .later }
def TransMadeCardSaid : Prop := Claim7.holds Tryz.pinned (.plain (OpenSpec.ofChange transMadeSpec)) transMadeCard

/-- THE TIED CARD OF 'spunyarnlaw20.TransSame'. -/
def transSameCard : Claim7 := { stood := { row := transSameRow, standIns := [], harness := (true, "a704693806137ac4fb80c92bdb3c5f2fc833f60a033a1035f2ecc40ff601c314"), looks := false }, kinds := [], alts := [], laidByText := true, laidKinds := [.data, .data, .data], laidTests := true, laidLooks := .later }
def TransSameCardSaid : Prop := Claim7.holds Tryz.pinned (.plain (OpenSpec.ofChange transSameSpec)) transSameCard

/-- THE TIED CARD OF 'spunyarnlaw20.TransNobody'. -/
def transNobodyCard : Claim7 := { stood := { row := transNobodyRow, standIns := [], harness := (true, "a704693806137ac4fb80c92bdb3c5f2fc833f60a033a1035f2ecc40ff601c314"), looks := false }, kinds := [], alts := [], laidByText := true, laidKinds := [.data, .data, .data], laidTests := true, laidLooks := .later }
def TransNobodyCardSaid : Prop := Claim7.holds Tryz.pinned (.plain (OpenSpec.ofChange transNobodySpec)) transNobodyCard

/-- THE TIED CARD OF 'spunyarnlaw20.TransPlays'. -/
def transPlaysCard : Claim7 := { stood := { row := transPlaysRow, standIns := [], harness := (true, "a704693806137ac4fb80c92bdb3c5f2fc833f60a033a1035f2ecc40ff601c314"), looks := false }, kinds := [], alts := [], laidByText := true, laidKinds := [.data, .data, .data], laidTests := true, laidLooks := .later }
def TransPlaysCardSaid : Prop := Claim7.holds Tryz.pinned (.plain (OpenSpec.ofChange transPlaysSpec)) transPlaysCard

/-- THE TIED CARD OF 'spunyarnlaw19.TreePlays'. -/
def treePlaysCard : Claim7 := { stood := { row := treePlaysRow, standIns := [], harness := (true, "a704693806137ac4fb80c92bdb3c5f2fc833f60a033a1035f2ecc40ff601c314"), looks := false }, kinds := [], alts := [], laidByText := true, laidKinds := [.data, .data, .data], laidTests := true, laidLooks := .later }
def TreePlaysCardSaid : Prop := Claim7.holds Tryz.pinned (.plain (OpenSpec.ofChange treePlaysSpec)) treePlaysCard

/-- THE SECOND FORM's CARD OF 'spunyarnlaw24.UnionPicks'. -/
def unionPicksUptoCard : Claim7 := { stood := { row := unionPicksUptoRow, standIns := [], harness := (true, "a704693806137ac4fb80c92bdb3c5f2fc833f60a033a1035f2ecc40ff601c314"), looks := false }, kinds := [], alts := [], laidByText := true, laidKinds := [.data, .data, .data], laidTests := true, laidLooks := .later }
def UnionPicksUptoCardSaid : Prop := Claim7.holds Tryz.pinned (.plain (OpenSpec.upto unionPicksSpec)) unionPicksUptoCard

/-- THE SECOND FORM's CARD OF 'spunyarnlaw24.UnionLaws'. -/
def unionLawsUptoCard : Claim7 := { stood := { row := unionLawsUptoRow, standIns := [], harness := (true, "a704693806137ac4fb80c92bdb3c5f2fc833f60a033a1035f2ecc40ff601c314"), looks := false }, kinds := [], alts := [], laidByText := true, laidKinds := [.data, .data, .data], laidTests := true, laidLooks := .later }
def UnionLawsUptoCardSaid : Prop := Claim7.holds Tryz.pinned (.plain (OpenSpec.upto unionLawsSpec)) unionLawsUptoCard

/-- THE SECOND FORM's CARD OF 'spunyarnlaw16.DelLeft'. -/
def delLeftUptoCard : Claim7 := { stood := { row := delLeftUptoRow, standIns := [], harness := (true, "a704693806137ac4fb80c92bdb3c5f2fc833f60a033a1035f2ecc40ff601c314"), looks := false }, kinds := [], alts := [], laidByText := true, laidKinds := [.data, .data, .data], laidTests := true, laidLooks := .later }
def DelLeftUptoCardSaid : Prop := Claim7.holds Tryz.pinned (.plain (OpenSpec.upto delLeftSpec)) delLeftUptoCard

/-- THE SECOND FORM's CARD OF 'spunyarnlaw24.UnionIs'. -/
def unionIsUptoCard : Claim7 := { stood := { row := unionIsUptoRow, standIns := [], harness := (true, "a704693806137ac4fb80c92bdb3c5f2fc833f60a033a1035f2ecc40ff601c314"), looks := false }, kinds := [], alts := [], laidByText := true, laidKinds := [.data, .data, .data], laidTests := true, laidLooks := .later }
def UnionIsUptoCardSaid : Prop := Claim7.holds Tryz.pinned (.plain (OpenSpec.upto unionIsSpec)) unionIsUptoCard

/-- THE SECOND FORM's CARD OF 'spunyarnlaw24.UnionIdle'. -/
def unionIdleUptoCard : Claim7 := { stood := { row := unionIdleUptoRow, standIns := [], harness := (true, "a704693806137ac4fb80c92bdb3c5f2fc833f60a033a1035f2ecc40ff601c314"), looks := false }, kinds := [], alts := [], laidByText := true, laidKinds := [.data, .data, .data], laidTests := true, laidLooks := .later }
def UnionIdleUptoCardSaid : Prop := Claim7.holds Tryz.pinned (.plain (OpenSpec.upto unionIdleSpec)) unionIdleUptoCard

/-- THE SECOND FORM's CARD OF 'spunyarnlaw20.TransApart'. -/
def transApartUptoCard : Claim7 := { stood := { row := transApartUptoRow, standIns := [], harness := (true, "a704693806137ac4fb80c92bdb3c5f2fc833f60a033a1035f2ecc40ff601c314"), looks := false }, kinds := [], alts := [], laidByText := true, laidKinds := [.data, .data, .data], laidTests := true, laidLooks := .later }
def TransApartUptoCardSaid : Prop := Claim7.holds Tryz.pinned (.plain (OpenSpec.upto transApartSpec)) transApartUptoCard

/-- THE SECOND FORM's CARD OF 'spunyarnlaw20.TransMade'. -/
def transMadeUptoCard : Claim7 := { stood := { row := transMadeUptoRow, standIns := [], harness := (true, "a704693806137ac4fb80c92bdb3c5f2fc833f60a033a1035f2ecc40ff601c314"), looks := false }, kinds := [], alts := [], laidByText := true, laidKinds := [.data, .data, .data], laidTests := true, laidLooks := .later }
def TransMadeUptoCardSaid : Prop := Claim7.holds Tryz.pinned (.plain (OpenSpec.upto transMadeSpec)) transMadeUptoCard

/-- THE SECOND FORM's CARD OF 'spunyarnlaw20.TransSame'. -/
def transSameUptoCard : Claim7 := { stood := { row := transSameUptoRow, standIns := [], harness := (true, "a704693806137ac4fb80c92bdb3c5f2fc833f60a033a1035f2ecc40ff601c314"), looks := false }, kinds := [], alts := [], laidByText := true, laidKinds := [.data, .data, .data], laidTests := true, laidLooks := .later }
def TransSameUptoCardSaid : Prop := Claim7.holds Tryz.pinned (.plain (OpenSpec.upto transSameSpec)) transSameUptoCard

/-- THE SECOND FORM's CARD OF 'spunyarnlaw20.TransNobody'. -/
def transNobodyUptoCard : Claim7 := { stood := { row := transNobodyUptoRow, standIns := [], harness := (true, "a704693806137ac4fb80c92bdb3c5f2fc833f60a033a1035f2ecc40ff601c314"), looks := false }, kinds := [], alts := [], laidByText := true, laidKinds := [.data, .data, .data], laidTests := true, laidLooks := .later }
def TransNobodyUptoCardSaid : Prop := Claim7.holds Tryz.pinned (.plain (OpenSpec.upto transNobodySpec)) transNobodyUptoCard

/-- THE SECOND FORM's CARD OF 'spunyarnlaw20.TransPlays'. -/
def transPlaysUptoCard : Claim7 := { stood := { row := transPlaysUptoRow, standIns := [], harness := (true, "a704693806137ac4fb80c92bdb3c5f2fc833f60a033a1035f2ecc40ff601c314"), looks := false }, kinds := [], alts := [], laidByText := true, laidKinds := [.data, .data, .data], laidTests := true, laidLooks := .later }
def TransPlaysUptoCardSaid : Prop := Claim7.holds Tryz.pinned (.plain (OpenSpec.upto transPlaysSpec)) transPlaysUptoCard

/-- THE SECOND FORM's CARD OF 'spunyarnlaw19.TreePlays'. -/
def treePlaysUptoCard : Claim7 := { stood := { row := treePlaysUptoRow, standIns := [], harness := (true, "a704693806137ac4fb80c92bdb3c5f2fc833f60a033a1035f2ecc40ff601c314"), looks := false }, kinds := [], alts := [], laidByText := true, laidKinds := [.data, .data, .data], laidTests := true, laidLooks := .later }
def TreePlaysUptoCardSaid : Prop := Claim7.holds Tryz.pinned (.plain (OpenSpec.upto treePlaysSpec)) treePlaysUptoCard
end Rows
end Go.Proofs.YthnegkjhciakpaaGreatDoor
