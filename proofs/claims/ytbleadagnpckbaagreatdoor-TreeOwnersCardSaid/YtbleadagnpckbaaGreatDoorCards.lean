/-
  DERIVED. GIVEN WITH THE SEED: THE CARDS: each row of YtbleadagnpckbaaGreatDoorRows.lean that lists a variable, with what it lists TIED to the program's text (the seventh form; the later family's looks); each row that meets fmt, with fmt's text TOLD by the authors' own Lean function (tested against real Go, not proved from fmt's source: count such statements apart). THE CARD IS WHAT COUNTS. Prove the row's statement (the work); the ties are given (YtbleadagnpckbaaGreatDoorTie.lean); close each card by the builder's one call (the guide's Derived/Test/ToyasCard.lean, 'card_holds'). Laid BY PROGRAM, IN A SANDBOX (cutbox-door.mjs). By AI agents, Wed Nov 11 2026. No macro, syntax, notation, axiom, sorry.
-/
import Derived.Test.YtbleadagnpckbaaGreatDoorRows
import GoSem.ClaimSeven
namespace Go.Proofs.YtbleadagnpckbaaGreatDoor
namespace Rows

/-- THE TIED CARD OF 'spunyarnlaw24.UnionPicks'. -/
def unionPicksCard : Claim7 := { stood := { row := unionPicksRow, standIns := [], harness := (true, "9601fa652f84f68cdf0ec5c69d1341cf8d186c47a8033c506bfb537af48b8c2a"), looks := false }, kinds := [], alts := [], laidByText := true, laidKinds := [.data, .data, .data], laidTests := true, laidLooks := .later }
def UnionPicksCardSaid : Prop := Claim7.holds Tryz.pinned (.plain (OpenSpec.ofChange unionPicksSpec)) unionPicksCard

/-- THE TIED CARD OF 'spunyarnlaw24.UnionLaws'. -/
def unionLawsCard : Claim7 := { stood := { row := unionLawsRow, standIns := [], harness := (true, "9601fa652f84f68cdf0ec5c69d1341cf8d186c47a8033c506bfb537af48b8c2a"), looks := false }, kinds := [], alts := [], laidByText := true, laidKinds := [.data, .data, .data], laidTests := true, laidLooks := .later }
def UnionLawsCardSaid : Prop := Claim7.holds Tryz.pinned (.plain (OpenSpec.ofChange unionLawsSpec)) unionLawsCard

/-- THE TIED CARD OF 'spunyarnlaw16.DelOwn'. -/
def delOwnCard : Claim7 := { stood := { row := delOwnRow, standIns := [], harness := (true, "9601fa652f84f68cdf0ec5c69d1341cf8d186c47a8033c506bfb537af48b8c2a"), looks := false }, kinds := [], alts := [], laidByText := true, laidKinds := [.data, .data, .data], laidTests := true, laidLooks := .later }
def DelOwnCardSaid : Prop := Claim7.holds Tryz.pinned (.plain (OpenSpec.ofChange delOwnSpec)) delOwnCard

/-- THE TIED CARD OF 'spunyarnlaw16.DelMade'. -/
def delMadeCard : Claim7 := { stood := { row := delMadeRow, standIns := [], harness := (true, "9601fa652f84f68cdf0ec5c69d1341cf8d186c47a8033c506bfb537af48b8c2a"), looks := false }, kinds := [], alts := [], laidByText := true, laidKinds := [.data, .data, .data], laidTests := true, laidLooks := .later }
def DelMadeCardSaid : Prop := Claim7.holds Tryz.pinned (.plain (OpenSpec.ofChange delMadeSpec)) delMadeCard

/-- THE TIED CARD OF 'spunyarnlaw16.DelBack'. -/
def delBackCard : Claim7 := { stood := { row := delBackRow, standIns := [], harness := (true, "9601fa652f84f68cdf0ec5c69d1341cf8d186c47a8033c506bfb537af48b8c2a"), looks := false }, kinds := [], alts := [], laidByText := true, laidKinds := [.data, .data, .data], laidTests := true, laidLooks := .later }
def DelBackCardSaid : Prop := Claim7.holds Tryz.pinned (.plain (OpenSpec.ofChange delBackSpec)) delBackCard

/-- THE TIED CARD OF 'spunyarnlaw16.DelLeft'. -/
def delLeftCard : Claim7 := { stood := { row := delLeftRow, standIns := [], harness := (true, "9601fa652f84f68cdf0ec5c69d1341cf8d186c47a8033c506bfb537af48b8c2a"), looks := false }, kinds := [], alts := [], laidByText := true, laidKinds := [.data, .data, .data], laidTests := true, laidLooks := .later }
def DelLeftCardSaid : Prop := Claim7.holds Tryz.pinned (.plain (OpenSpec.ofChange delLeftSpec)) delLeftCard

/-- THE TIED CARD OF 'spunyarnlaw24.UnionIs'. -/
def unionIsCard : Claim7 := { stood := { row := unionIsRow, standIns := [], harness := (true, "9601fa652f84f68cdf0ec5c69d1341cf8d186c47a8033c506bfb537af48b8c2a"), looks := false }, kinds := [], alts := [], laidByText := true, laidKinds := [.data, .data, .data], laidTests := true, laidLooks := .later }
def UnionIsCardSaid : Prop := Claim7.holds Tryz.pinned (.plain (OpenSpec.ofChange unionIsSpec)) unionIsCard

/-- THE TIED CARD OF 'spunyarnlaw24.UnionIdle'. -/
def unionIdleCard : Claim7 := { stood := { row := unionIdleRow, standIns := [], harness := (true, "9601fa652f84f68cdf0ec5c69d1341cf8d186c47a8033c506bfb537af48b8c2a"), looks := false }, kinds := [], alts := [], laidByText := true, laidKinds := [.data, .data, .data], laidTests := true, laidLooks := .later }
def UnionIdleCardSaid : Prop := Claim7.holds Tryz.pinned (.plain (OpenSpec.ofChange unionIdleSpec)) unionIdleCard

/-- THE TIED CARD OF 'spunyarnlaw19.TreeGets'. -/
def treeGetsCard : Claim7 := { stood := { row := treeGetsRow, standIns := [], harness := (true, "9601fa652f84f68cdf0ec5c69d1341cf8d186c47a8033c506bfb537af48b8c2a"), looks := false }, kinds := [], alts := [], laidByText := true, laidKinds := [.data, .data, .data], laidTests := true, laidLooks := .later }
def TreeGetsCardSaid : Prop := Claim7.holds Tryz.pinned (.plain (OpenSpec.ofChange treeGetsSpec)) treeGetsCard

/-- THE TIED CARD OF 'spunyarnlaw19.TreeOwners'. -/
def treeOwnersCard : Claim7 := { stood := { row := treeOwnersRow, standIns := [], harness := (true, "9601fa652f84f68cdf0ec5c69d1341cf8d186c47a8033c506bfb537af48b8c2a"), looks := false }, kinds := [], alts := [], laidByText := true, laidKinds := [.data, .data, .data], laidTests := true, laidLooks := .later }
def TreeOwnersCardSaid : Prop := Claim7.holds Tryz.pinned (.plain (OpenSpec.ofChange treeOwnersSpec)) treeOwnersCard

/-- THE TIED CARD OF 'spunyarnlaw21.LoadOrder'. -/
def loadOrderCard : Claim7 := { stood := { row := loadOrderRow, standIns := [], harness := (true, "9601fa652f84f68cdf0ec5c69d1341cf8d186c47a8033c506bfb537af48b8c2a"), looks := false }, kinds := [], alts := [], laidByText := true, laidKinds := [.data, .data, .data], laidTests := true, laidLooks := .later }
def LoadOrderCardSaid : Prop := Claim7.holds Tryz.pinned (.plain (OpenSpec.ofChange loadOrderSpec)) loadOrderCard

/-- THE TIED CARD OF 'spunyarnlaw20.TransApart'. -/
def transApartCard : Claim7 := { stood := { row := transApartRow, standIns := [], harness := (true, "9601fa652f84f68cdf0ec5c69d1341cf8d186c47a8033c506bfb537af48b8c2a"), looks := false }, kinds := [], alts := [], laidByText := true, laidKinds := [.data, .data, .data], laidTests := true, laidLooks := .later }
def TransApartCardSaid : Prop := Claim7.holds Tryz.pinned (.plain (OpenSpec.ofChange transApartSpec)) transApartCard

/-- THE TIED CARD OF 'spunyarnlaw21.LoadSorts'. -/
def loadSortsCard : Claim7 := { stood := { row := loadSortsRow, standIns := [], harness := (true, "9601fa652f84f68cdf0ec5c69d1341cf8d186c47a8033c506bfb537af48b8c2a"), looks := false }, kinds := [], alts := [], laidByText := true, laidKinds := [.data, .data, .data], laidTests := true, laidLooks := .later }
def LoadSortsCardSaid : Prop := Claim7.holds Tryz.pinned (.plain (OpenSpec.ofChange loadSortsSpec)) loadSortsCard

/-- THE TIED CARD OF 'spunyarnlaw19.TreeMade'. -/
def treeMadeCard : Claim7 := { stood := { row := treeMadeRow, standIns := [], harness := (true, "9601fa652f84f68cdf0ec5c69d1341cf8d186c47a8033c506bfb537af48b8c2a"), looks := false }, kinds := [], alts := [], laidByText := true, laidKinds := [.data, .data, .data], laidTests := true, laidLooks := .later }
def TreeMadeCardSaid : Prop := Claim7.holds Tryz.pinned (.plain (OpenSpec.ofChange treeMadeSpec)) treeMadeCard

/-- THE TIED CARD OF 'spunyarnlaw20.TransMade'. -/
def transMadeCard : Claim7 := { stood := { row := transMadeRow, standIns := [], harness := (true, "9601fa652f84f68cdf0ec5c69d1341cf8d186c47a8033c506bfb537af48b8c2a"), looks := false }, kinds := [], alts := [], laidByText := true, laidKinds := [.data, .data, .data], laidTests := true, laidLooks := .later }
def TransMadeCardSaid : Prop := Claim7.holds Tryz.pinned (.plain (OpenSpec.ofChange transMadeSpec)) transMadeCard

/-- THE TIED CARD OF 'spunyarnlaw21.LoadMerge'. -/
def loadMergeCard : Claim7 := { stood := { row := loadMergeRow, standIns := [], harness := (true, "9601fa652f84f68cdf0ec5c69d1341cf8d186c47a8033c506bfb537af48b8c2a"), looks := false }, kinds := [], alts := [], laidByText := true, laidKinds := [.data, .data, .data], laidTests := true, laidLooks := .later }
def LoadMergeCardSaid : Prop := Claim7.holds Tryz.pinned (.plain (OpenSpec.ofChange loadMergeSpec)) loadMergeCard

/-- THE TIED CARD OF 'spunyarnlaw20.TransSame'. -/
def transSameCard : Claim7 := { stood := { row := transSameRow, standIns := [], harness := (true, "9601fa652f84f68cdf0ec5c69d1341cf8d186c47a8033c506bfb537af48b8c2a"), looks := false }, kinds := [], alts := [], laidByText := true, laidKinds := [.data, .data, .data], laidTests := true, laidLooks := .later }
def TransSameCardSaid : Prop := Claim7.holds Tryz.pinned (.plain (OpenSpec.ofChange transSameSpec)) transSameCard

/-- THE TIED CARD OF 'spunyarnlaw20.TransNobody'. -/
def transNobodyCard : Claim7 := { stood := { row := transNobodyRow, standIns := [], harness := (true, "9601fa652f84f68cdf0ec5c69d1341cf8d186c47a8033c506bfb537af48b8c2a"), looks := false }, kinds := [], alts := [], laidByText := true, laidKinds := [.data, .data, .data], laidTests := true, laidLooks := .later }
def TransNobodyCardSaid : Prop := Claim7.holds Tryz.pinned (.plain (OpenSpec.ofChange transNobodySpec)) transNobodyCard

/-- THE TIED CARD OF 'spunyarnlaw20.TransPlays'. -/
def transPlaysCard : Claim7 := { stood := { row := transPlaysRow, standIns := [], harness := (true, "9601fa652f84f68cdf0ec5c69d1341cf8d186c47a8033c506bfb537af48b8c2a"), looks := false }, kinds := [], alts := [], laidByText := true, laidKinds := [.data, .data, .data], laidTests := true, laidLooks := .later }
def TransPlaysCardSaid : Prop := Claim7.holds Tryz.pinned (.plain (OpenSpec.ofChange transPlaysSpec)) transPlaysCard

/-- THE TIED CARD OF 'spunyarnlaw19.TreeNobody'. -/
def treeNobodyCard : Claim7 := { stood := { row := treeNobodyRow, standIns := [], harness := (true, "9601fa652f84f68cdf0ec5c69d1341cf8d186c47a8033c506bfb537af48b8c2a"), looks := false }, kinds := [], alts := [], laidByText := true, laidKinds := [.data, .data, .data], laidTests := true, laidLooks := .later }
def TreeNobodyCardSaid : Prop := Claim7.holds Tryz.pinned (.plain (OpenSpec.ofChange treeNobodySpec)) treeNobodyCard

/-- THE TIED CARD OF 'spunyarnlaw19.TreePlays'. -/
def treePlaysCard : Claim7 := { stood := { row := treePlaysRow, standIns := [], harness := (true, "9601fa652f84f68cdf0ec5c69d1341cf8d186c47a8033c506bfb537af48b8c2a"), looks := false }, kinds := [], alts := [], laidByText := true, laidKinds := [.data, .data, .data], laidTests := true, laidLooks := .later }
def TreePlaysCardSaid : Prop := Claim7.holds Tryz.pinned (.plain (OpenSpec.ofChange treePlaysSpec)) treePlaysCard

/-- THE SECOND FORM's CARD OF 'spunyarnlaw24.UnionPicks'. -/
def unionPicksUptoCard : Claim7 := { stood := { row := unionPicksUptoRow, standIns := [], harness := (true, "9601fa652f84f68cdf0ec5c69d1341cf8d186c47a8033c506bfb537af48b8c2a"), looks := false }, kinds := [], alts := [], laidByText := true, laidKinds := [.data, .data, .data], laidTests := true, laidLooks := .later }
def UnionPicksUptoCardSaid : Prop := Claim7.holds Tryz.pinned (.plain (OpenSpec.upto unionPicksSpec)) unionPicksUptoCard

/-- THE SECOND FORM's CARD OF 'spunyarnlaw24.UnionLaws'. -/
def unionLawsUptoCard : Claim7 := { stood := { row := unionLawsUptoRow, standIns := [], harness := (true, "9601fa652f84f68cdf0ec5c69d1341cf8d186c47a8033c506bfb537af48b8c2a"), looks := false }, kinds := [], alts := [], laidByText := true, laidKinds := [.data, .data, .data], laidTests := true, laidLooks := .later }
def UnionLawsUptoCardSaid : Prop := Claim7.holds Tryz.pinned (.plain (OpenSpec.upto unionLawsSpec)) unionLawsUptoCard

/-- THE SECOND FORM's CARD OF 'spunyarnlaw16.DelOwn'. -/
def delOwnUptoCard : Claim7 := { stood := { row := delOwnUptoRow, standIns := [], harness := (true, "9601fa652f84f68cdf0ec5c69d1341cf8d186c47a8033c506bfb537af48b8c2a"), looks := false }, kinds := [], alts := [], laidByText := true, laidKinds := [.data, .data, .data], laidTests := true, laidLooks := .later }
def DelOwnUptoCardSaid : Prop := Claim7.holds Tryz.pinned (.plain (OpenSpec.upto delOwnSpec)) delOwnUptoCard

/-- THE SECOND FORM's CARD OF 'spunyarnlaw16.DelMade'. -/
def delMadeUptoCard : Claim7 := { stood := { row := delMadeUptoRow, standIns := [], harness := (true, "9601fa652f84f68cdf0ec5c69d1341cf8d186c47a8033c506bfb537af48b8c2a"), looks := false }, kinds := [], alts := [], laidByText := true, laidKinds := [.data, .data, .data], laidTests := true, laidLooks := .later }
def DelMadeUptoCardSaid : Prop := Claim7.holds Tryz.pinned (.plain (OpenSpec.upto delMadeSpec)) delMadeUptoCard

/-- THE SECOND FORM's CARD OF 'spunyarnlaw16.DelBack'. -/
def delBackUptoCard : Claim7 := { stood := { row := delBackUptoRow, standIns := [], harness := (true, "9601fa652f84f68cdf0ec5c69d1341cf8d186c47a8033c506bfb537af48b8c2a"), looks := false }, kinds := [], alts := [], laidByText := true, laidKinds := [.data, .data, .data], laidTests := true, laidLooks := .later }
def DelBackUptoCardSaid : Prop := Claim7.holds Tryz.pinned (.plain (OpenSpec.upto delBackSpec)) delBackUptoCard

/-- THE SECOND FORM's CARD OF 'spunyarnlaw16.DelLeft'. -/
def delLeftUptoCard : Claim7 := { stood := { row := delLeftUptoRow, standIns := [], harness := (true, "9601fa652f84f68cdf0ec5c69d1341cf8d186c47a8033c506bfb537af48b8c2a"), looks := false }, kinds := [], alts := [], laidByText := true, laidKinds := [.data, .data, .data], laidTests := true, laidLooks := .later }
def DelLeftUptoCardSaid : Prop := Claim7.holds Tryz.pinned (.plain (OpenSpec.upto delLeftSpec)) delLeftUptoCard

/-- THE SECOND FORM's CARD OF 'spunyarnlaw24.UnionIs'. -/
def unionIsUptoCard : Claim7 := { stood := { row := unionIsUptoRow, standIns := [], harness := (true, "9601fa652f84f68cdf0ec5c69d1341cf8d186c47a8033c506bfb537af48b8c2a"), looks := false }, kinds := [], alts := [], laidByText := true, laidKinds := [.data, .data, .data], laidTests := true, laidLooks := .later }
def UnionIsUptoCardSaid : Prop := Claim7.holds Tryz.pinned (.plain (OpenSpec.upto unionIsSpec)) unionIsUptoCard

/-- THE SECOND FORM's CARD OF 'spunyarnlaw24.UnionIdle'. -/
def unionIdleUptoCard : Claim7 := { stood := { row := unionIdleUptoRow, standIns := [], harness := (true, "9601fa652f84f68cdf0ec5c69d1341cf8d186c47a8033c506bfb537af48b8c2a"), looks := false }, kinds := [], alts := [], laidByText := true, laidKinds := [.data, .data, .data], laidTests := true, laidLooks := .later }
def UnionIdleUptoCardSaid : Prop := Claim7.holds Tryz.pinned (.plain (OpenSpec.upto unionIdleSpec)) unionIdleUptoCard

/-- THE SECOND FORM's CARD OF 'spunyarnlaw19.TreeGets'. -/
def treeGetsUptoCard : Claim7 := { stood := { row := treeGetsUptoRow, standIns := [], harness := (true, "9601fa652f84f68cdf0ec5c69d1341cf8d186c47a8033c506bfb537af48b8c2a"), looks := false }, kinds := [], alts := [], laidByText := true, laidKinds := [.data, .data, .data], laidTests := true, laidLooks := .later }
def TreeGetsUptoCardSaid : Prop := Claim7.holds Tryz.pinned (.plain (OpenSpec.upto treeGetsSpec)) treeGetsUptoCard

/-- THE SECOND FORM's CARD OF 'spunyarnlaw19.TreeOwners'. -/
def treeOwnersUptoCard : Claim7 := { stood := { row := treeOwnersUptoRow, standIns := [], harness := (true, "9601fa652f84f68cdf0ec5c69d1341cf8d186c47a8033c506bfb537af48b8c2a"), looks := false }, kinds := [], alts := [], laidByText := true, laidKinds := [.data, .data, .data], laidTests := true, laidLooks := .later }
def TreeOwnersUptoCardSaid : Prop := Claim7.holds Tryz.pinned (.plain (OpenSpec.upto treeOwnersSpec)) treeOwnersUptoCard

/-- THE SECOND FORM's CARD OF 'spunyarnlaw21.LoadOrder'. -/
def loadOrderUptoCard : Claim7 := { stood := { row := loadOrderUptoRow, standIns := [], harness := (true, "9601fa652f84f68cdf0ec5c69d1341cf8d186c47a8033c506bfb537af48b8c2a"), looks := false }, kinds := [], alts := [], laidByText := true, laidKinds := [.data, .data, .data], laidTests := true, laidLooks := .later }
def LoadOrderUptoCardSaid : Prop := Claim7.holds Tryz.pinned (.plain (OpenSpec.upto loadOrderSpec)) loadOrderUptoCard

/-- THE SECOND FORM's CARD OF 'spunyarnlaw20.TransApart'. -/
def transApartUptoCard : Claim7 := { stood := { row := transApartUptoRow, standIns := [], harness := (true, "9601fa652f84f68cdf0ec5c69d1341cf8d186c47a8033c506bfb537af48b8c2a"), looks := false }, kinds := [], alts := [], laidByText := true, laidKinds := [.data, .data, .data], laidTests := true, laidLooks := .later }
def TransApartUptoCardSaid : Prop := Claim7.holds Tryz.pinned (.plain (OpenSpec.upto transApartSpec)) transApartUptoCard

/-- THE SECOND FORM's CARD OF 'spunyarnlaw21.LoadSorts'. -/
def loadSortsUptoCard : Claim7 := { stood := { row := loadSortsUptoRow, standIns := [], harness := (true, "9601fa652f84f68cdf0ec5c69d1341cf8d186c47a8033c506bfb537af48b8c2a"), looks := false }, kinds := [], alts := [], laidByText := true, laidKinds := [.data, .data, .data], laidTests := true, laidLooks := .later }
def LoadSortsUptoCardSaid : Prop := Claim7.holds Tryz.pinned (.plain (OpenSpec.upto loadSortsSpec)) loadSortsUptoCard

/-- THE SECOND FORM's CARD OF 'spunyarnlaw19.TreeMade'. -/
def treeMadeUptoCard : Claim7 := { stood := { row := treeMadeUptoRow, standIns := [], harness := (true, "9601fa652f84f68cdf0ec5c69d1341cf8d186c47a8033c506bfb537af48b8c2a"), looks := false }, kinds := [], alts := [], laidByText := true, laidKinds := [.data, .data, .data], laidTests := true, laidLooks := .later }
def TreeMadeUptoCardSaid : Prop := Claim7.holds Tryz.pinned (.plain (OpenSpec.upto treeMadeSpec)) treeMadeUptoCard

/-- THE SECOND FORM's CARD OF 'spunyarnlaw20.TransMade'. -/
def transMadeUptoCard : Claim7 := { stood := { row := transMadeUptoRow, standIns := [], harness := (true, "9601fa652f84f68cdf0ec5c69d1341cf8d186c47a8033c506bfb537af48b8c2a"), looks := false }, kinds := [], alts := [], laidByText := true, laidKinds := [.data, .data, .data], laidTests := true, laidLooks := .later }
def TransMadeUptoCardSaid : Prop := Claim7.holds Tryz.pinned (.plain (OpenSpec.upto transMadeSpec)) transMadeUptoCard

/-- THE SECOND FORM's CARD OF 'spunyarnlaw21.LoadMerge'. -/
def loadMergeUptoCard : Claim7 := { stood := { row := loadMergeUptoRow, standIns := [], harness := (true, "9601fa652f84f68cdf0ec5c69d1341cf8d186c47a8033c506bfb537af48b8c2a"), looks := false }, kinds := [], alts := [], laidByText := true, laidKinds := [.data, .data, .data], laidTests := true, laidLooks := .later }
def LoadMergeUptoCardSaid : Prop := Claim7.holds Tryz.pinned (.plain (OpenSpec.upto loadMergeSpec)) loadMergeUptoCard

/-- THE SECOND FORM's CARD OF 'spunyarnlaw20.TransSame'. -/
def transSameUptoCard : Claim7 := { stood := { row := transSameUptoRow, standIns := [], harness := (true, "9601fa652f84f68cdf0ec5c69d1341cf8d186c47a8033c506bfb537af48b8c2a"), looks := false }, kinds := [], alts := [], laidByText := true, laidKinds := [.data, .data, .data], laidTests := true, laidLooks := .later }
def TransSameUptoCardSaid : Prop := Claim7.holds Tryz.pinned (.plain (OpenSpec.upto transSameSpec)) transSameUptoCard

/-- THE SECOND FORM's CARD OF 'spunyarnlaw20.TransNobody'. -/
def transNobodyUptoCard : Claim7 := { stood := { row := transNobodyUptoRow, standIns := [], harness := (true, "9601fa652f84f68cdf0ec5c69d1341cf8d186c47a8033c506bfb537af48b8c2a"), looks := false }, kinds := [], alts := [], laidByText := true, laidKinds := [.data, .data, .data], laidTests := true, laidLooks := .later }
def TransNobodyUptoCardSaid : Prop := Claim7.holds Tryz.pinned (.plain (OpenSpec.upto transNobodySpec)) transNobodyUptoCard

/-- THE SECOND FORM's CARD OF 'spunyarnlaw20.TransPlays'. -/
def transPlaysUptoCard : Claim7 := { stood := { row := transPlaysUptoRow, standIns := [], harness := (true, "9601fa652f84f68cdf0ec5c69d1341cf8d186c47a8033c506bfb537af48b8c2a"), looks := false }, kinds := [], alts := [], laidByText := true, laidKinds := [.data, .data, .data], laidTests := true, laidLooks := .later }
def TransPlaysUptoCardSaid : Prop := Claim7.holds Tryz.pinned (.plain (OpenSpec.upto transPlaysSpec)) transPlaysUptoCard

/-- THE SECOND FORM's CARD OF 'spunyarnlaw19.TreeNobody'. -/
def treeNobodyUptoCard : Claim7 := { stood := { row := treeNobodyUptoRow, standIns := [], harness := (true, "9601fa652f84f68cdf0ec5c69d1341cf8d186c47a8033c506bfb537af48b8c2a"), looks := false }, kinds := [], alts := [], laidByText := true, laidKinds := [.data, .data, .data], laidTests := true, laidLooks := .later }
def TreeNobodyUptoCardSaid : Prop := Claim7.holds Tryz.pinned (.plain (OpenSpec.upto treeNobodySpec)) treeNobodyUptoCard

/-- THE SECOND FORM's CARD OF 'spunyarnlaw19.TreePlays'. -/
def treePlaysUptoCard : Claim7 := { stood := { row := treePlaysUptoRow, standIns := [], harness := (true, "9601fa652f84f68cdf0ec5c69d1341cf8d186c47a8033c506bfb537af48b8c2a"), looks := false }, kinds := [], alts := [], laidByText := true, laidKinds := [.data, .data, .data], laidTests := true, laidLooks := .later }
def TreePlaysUptoCardSaid : Prop := Claim7.holds Tryz.pinned (.plain (OpenSpec.upto treePlaysSpec)) treePlaysUptoCard
end Rows
end Go.Proofs.YtbleadagnpckbaaGreatDoor
