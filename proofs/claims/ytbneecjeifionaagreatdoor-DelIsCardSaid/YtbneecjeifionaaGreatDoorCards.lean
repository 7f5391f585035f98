/-
  DERIVED. GIVEN WITH THE SEED: THE CARDS: each row of YtbneecjeifionaaGreatDoorRows.lean that lists a variable, with what it lists TIED to the program's text (the seventh form; the later family's looks); each row that meets fmt, with fmt's text TOLD by the authors' own Lean function (tested against real Go, not proved from fmt's source: count such statements apart). THE CARD IS WHAT COUNTS. Prove the row's statement (the work); the ties are given (YtbneecjeifionaaGreatDoorTie.lean); close each card by the builder's one call (the guide's Derived/Test/ToyasCard.lean, 'card_holds'). Laid BY PROGRAM, IN A SANDBOX (cutbox-door.mjs). By AI agents, Wed Nov 11 2026. No macro, syntax, notation, axiom, sorry.
-/
import Derived.Test.YtbneecjeifionaaGreatDoorRows
import GoSem.ClaimSeven
namespace Go.Proofs.YtbneecjeifionaaGreatDoor
namespace Rows

/-- THE TIED CARD OF 'spunyarnlaw18.SubLong'. -/
def subLongCard : Claim7 := { stood := { row := subLongRow, standIns := [], harness := (true, "347932ae680d32c14590396eac471733bac086ec97ecbc76a0f1f3a091466714"), looks := false }, kinds := [], alts := [], laidByText := true, laidKinds := [.data, .data, .data], laidTests := true, laidLooks := .later }
def SubLongCardSaid : Prop := Claim7.holds Tryz.pinned (.plain (OpenSpec.ofChange subLongSpec)) subLongCard

/-- THE TIED CARD OF 'spunyarnlaw18.SubIs'. -/
def subIsCard : Claim7 := { stood := { row := subIsRow, standIns := [], harness := (true, "347932ae680d32c14590396eac471733bac086ec97ecbc76a0f1f3a091466714"), looks := false }, kinds := [], alts := [], laidByText := true, laidKinds := [.data, .data, .data], laidTests := true, laidLooks := .later }
def SubIsCardSaid : Prop := Claim7.holds Tryz.pinned (.plain (OpenSpec.ofChange subIsSpec)) subIsCard

/-- THE TIED CARD OF 'spunyarnlaw18.SubUnder'. -/
def subUnderCard : Claim7 := { stood := { row := subUnderRow, standIns := [], harness := (true, "347932ae680d32c14590396eac471733bac086ec97ecbc76a0f1f3a091466714"), looks := false }, kinds := [], alts := [], laidByText := true, laidKinds := [.data, .data, .data], laidTests := true, laidLooks := .later }
def SubUnderCardSaid : Prop := Claim7.holds Tryz.pinned (.plain (OpenSpec.ofChange subUnderSpec)) subUnderCard

/-- THE TIED CARD OF 'spunyarnlaw15.PutOrder'. -/
def putOrderCard : Claim7 := { stood := { row := putOrderRow, standIns := [], harness := (true, "347932ae680d32c14590396eac471733bac086ec97ecbc76a0f1f3a091466714"), looks := false }, kinds := [], alts := [], laidByText := true, laidKinds := [.data, .data, .data], laidTests := true, laidLooks := .later }
def PutOrderCardSaid : Prop := Claim7.holds Tryz.pinned (.plain (OpenSpec.ofChange putOrderSpec)) putOrderCard

/-- THE TIED CARD OF 'spunyarnlaw15.PutIs'. -/
def putIsCard : Claim7 := { stood := { row := putIsRow, standIns := [], harness := (true, "347932ae680d32c14590396eac471733bac086ec97ecbc76a0f1f3a091466714"), looks := false }, kinds := [], alts := [], laidByText := true, laidKinds := [.data, .data, .data], laidTests := true, laidLooks := .later }
def PutIsCardSaid : Prop := Claim7.holds Tryz.pinned (.plain (OpenSpec.ofChange putIsSpec)) putIsCard

/-- THE TIED CARD OF 'spunyarnlaw15.PutOwn'. -/
def putOwnCard : Claim7 := { stood := { row := putOwnRow, standIns := [], harness := (true, "347932ae680d32c14590396eac471733bac086ec97ecbc76a0f1f3a091466714"), looks := false }, kinds := [], alts := [], laidByText := true, laidKinds := [.data, .data, .data], laidTests := true, laidLooks := .later }
def PutOwnCardSaid : Prop := Claim7.holds Tryz.pinned (.plain (OpenSpec.ofChange putOwnSpec)) putOwnCard

/-- THE TIED CARD OF 'spunyarnlaw15.PutMade'. -/
def putMadeCard : Claim7 := { stood := { row := putMadeRow, standIns := [], harness := (true, "347932ae680d32c14590396eac471733bac086ec97ecbc76a0f1f3a091466714"), looks := false }, kinds := [], alts := [], laidByText := true, laidKinds := [.data, .data, .data], laidTests := true, laidLooks := .later }
def PutMadeCardSaid : Prop := Claim7.holds Tryz.pinned (.plain (OpenSpec.ofChange putMadeSpec)) putMadeCard

/-- THE TIED CARD OF 'spunyarnlaw24.UnionPicks'. -/
def unionPicksCard : Claim7 := { stood := { row := unionPicksRow, standIns := [], harness := (true, "347932ae680d32c14590396eac471733bac086ec97ecbc76a0f1f3a091466714"), looks := false }, kinds := [], alts := [], laidByText := true, laidKinds := [.data, .data, .data], laidTests := true, laidLooks := .later }
def UnionPicksCardSaid : Prop := Claim7.holds Tryz.pinned (.plain (OpenSpec.ofChange unionPicksSpec)) unionPicksCard

/-- THE TIED CARD OF 'spunyarnlaw24.UnionLaws'. -/
def unionLawsCard : Claim7 := { stood := { row := unionLawsRow, standIns := [], harness := (true, "347932ae680d32c14590396eac471733bac086ec97ecbc76a0f1f3a091466714"), looks := false }, kinds := [], alts := [], laidByText := true, laidKinds := [.data, .data, .data], laidTests := true, laidLooks := .later }
def UnionLawsCardSaid : Prop := Claim7.holds Tryz.pinned (.plain (OpenSpec.ofChange unionLawsSpec)) unionLawsCard

/-- THE TIED CARD OF 'spunyarnlaw16.DelIs'. -/
def delIsCard : Claim7 := { stood := { row := delIsRow, standIns := [], harness := (true, "347932ae680d32c14590396eac471733bac086ec97ecbc76a0f1f3a091466714"), looks := false }, kinds := [], alts := [], laidByText := true, laidKinds := [.data, .data, .data], laidTests := true, laidLooks := .later }
def DelIsCardSaid : Prop := Claim7.holds Tryz.pinned (.plain (OpenSpec.ofChange delIsSpec)) delIsCard

/-- THE SECOND FORM's CARD OF 'spunyarnlaw18.SubLong'. -/
def subLongUptoCard : Claim7 := { stood := { row := subLongUptoRow, standIns := [], harness := (true, "347932ae680d32c14590396eac471733bac086ec97ecbc76a0f1f3a091466714"), looks := false }, kinds := [], alts := [], laidByText := true, laidKinds := [.data, .data, .data], laidTests := true, laidLooks := .later }
def SubLongUptoCardSaid : Prop := Claim7.holds Tryz.pinned (.plain (OpenSpec.upto subLongSpec)) subLongUptoCard

/-- THE SECOND FORM's CARD OF 'spunyarnlaw18.SubIs'. -/
def subIsUptoCard : Claim7 := { stood := { row := subIsUptoRow, standIns := [], harness := (true, "347932ae680d32c14590396eac471733bac086ec97ecbc76a0f1f3a091466714"), looks := false }, kinds := [], alts := [], laidByText := true, laidKinds := [.data, .data, .data], laidTests := true, laidLooks := .later }
def SubIsUptoCardSaid : Prop := Claim7.holds Tryz.pinned (.plain (OpenSpec.upto subIsSpec)) subIsUptoCard

/-- THE SECOND FORM's CARD OF 'spunyarnlaw18.SubUnder'. -/
def subUnderUptoCard : Claim7 := { stood := { row := subUnderUptoRow, standIns := [], harness := (true, "347932ae680d32c14590396eac471733bac086ec97ecbc76a0f1f3a091466714"), looks := false }, kinds := [], alts := [], laidByText := true, laidKinds := [.data, .data, .data], laidTests := true, laidLooks := .later }
def SubUnderUptoCardSaid : Prop := Claim7.holds Tryz.pinned (.plain (OpenSpec.upto subUnderSpec)) subUnderUptoCard

/-- THE SECOND FORM's CARD OF 'spunyarnlaw15.PutOrder'. -/
def putOrderUptoCard : Claim7 := { stood := { row := putOrderUptoRow, standIns := [], harness := (true, "347932ae680d32c14590396eac471733bac086ec97ecbc76a0f1f3a091466714"), looks := false }, kinds := [], alts := [], laidByText := true, laidKinds := [.data, .data, .data], laidTests := true, laidLooks := .later }
def PutOrderUptoCardSaid : Prop := Claim7.holds Tryz.pinned (.plain (OpenSpec.upto putOrderSpec)) putOrderUptoCard

/-- THE SECOND FORM's CARD OF 'spunyarnlaw15.PutIs'. -/
def putIsUptoCard : Claim7 := { stood := { row := putIsUptoRow, standIns := [], harness := (true, "347932ae680d32c14590396eac471733bac086ec97ecbc76a0f1f3a091466714"), looks := false }, kinds := [], alts := [], laidByText := true, laidKinds := [.data, .data, .data], laidTests := true, laidLooks := .later }
def PutIsUptoCardSaid : Prop := Claim7.holds Tryz.pinned (.plain (OpenSpec.upto putIsSpec)) putIsUptoCard

/-- THE SECOND FORM's CARD OF 'spunyarnlaw15.PutOwn'. -/
def putOwnUptoCard : Claim7 := { stood := { row := putOwnUptoRow, standIns := [], harness := (true, "347932ae680d32c14590396eac471733bac086ec97ecbc76a0f1f3a091466714"), looks := false }, kinds := [], alts := [], laidByText := true, laidKinds := [.data, .data, .data], laidTests := true, laidLooks := .later }
def PutOwnUptoCardSaid : Prop := Claim7.holds Tryz.pinned (.plain (OpenSpec.upto putOwnSpec)) putOwnUptoCard

/-- THE SECOND FORM's CARD OF 'spunyarnlaw15.PutMade'. -/
def putMadeUptoCard : Claim7 := { stood := { row := putMadeUptoRow, standIns := [], harness := (true, "347932ae680d32c14590396eac471733bac086ec97ecbc76a0f1f3a091466714"), looks := false }, kinds := [], alts := [], laidByText := true, laidKinds := [.data, .data, .data], laidTests := true, laidLooks := .later }
def PutMadeUptoCardSaid : Prop := Claim7.holds Tryz.pinned (.plain (OpenSpec.upto putMadeSpec)) putMadeUptoCard

/-- THE SECOND FORM's CARD OF 'spunyarnlaw24.UnionPicks'. -/
def unionPicksUptoCard : Claim7 := { stood := { row := unionPicksUptoRow, standIns := [], harness := (true, "347932ae680d32c14590396eac471733bac086ec97ecbc76a0f1f3a091466714"), looks := false }, kinds := [], alts := [], laidByText := true, laidKinds := [.data, .data, .data], laidTests := true, laidLooks := .later }
def UnionPicksUptoCardSaid : Prop := Claim7.holds Tryz.pinned (.plain (OpenSpec.upto unionPicksSpec)) unionPicksUptoCard

/-- THE SECOND FORM's CARD OF 'spunyarnlaw24.UnionLaws'. -/
def unionLawsUptoCard : Claim7 := { stood := { row := unionLawsUptoRow, standIns := [], harness := (true, "347932ae680d32c14590396eac471733bac086ec97ecbc76a0f1f3a091466714"), looks := false }, kinds := [], alts := [], laidByText := true, laidKinds := [.data, .data, .data], laidTests := true, laidLooks := .later }
def UnionLawsUptoCardSaid : Prop := Claim7.holds Tryz.pinned (.plain (OpenSpec.upto unionLawsSpec)) unionLawsUptoCard

/-- THE SECOND FORM's CARD OF 'spunyarnlaw16.DelIs'. -/
def delIsUptoCard : Claim7 := { stood := { row := delIsUptoRow, standIns := [], harness := (true, "347932ae680d32c14590396eac471733bac086ec97ecbc76a0f1f3a091466714"), looks := false }, kinds := [], alts := [], laidByText := true, laidKinds := [.data, .data, .data], laidTests := true, laidLooks := .later }
def DelIsUptoCardSaid : Prop := Claim7.holds Tryz.pinned (.plain (OpenSpec.upto delIsSpec)) delIsUptoCard
end Rows
end Go.Proofs.YtbneecjeifionaaGreatDoor
