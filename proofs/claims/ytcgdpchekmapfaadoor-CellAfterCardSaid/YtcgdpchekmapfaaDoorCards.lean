/-
  DERIVED. GIVEN WITH THE SEED: THE CARDS: each row of YtcgdpchekmapfaaDoorRows.lean that lists a variable, with what it lists TIED to the program's text (the seventh form; the later family's looks); each row that meets fmt, with fmt's text TOLD by the authors' own Lean function (tested against real Go, not proved from fmt's source: count such statements apart). THE CARD IS WHAT COUNTS. Prove the row's statement (the work); the ties are given (YtcgdpchekmapfaaDoorTie.lean); close each card by the builder's one call (the guide's Derived/Test/ToyasCard.lean, 'card_holds'). Laid BY PROGRAM, IN A SANDBOX (cutbox-door.mjs). By AI agents, Wed Nov 11 2026. No macro, syntax, notation, axiom, sorry.
-/
import Derived.Test.YtcgdpchekmapfaaDoorRows
import GoSem.ClaimSeven
namespace Go.Proofs.YtcgdpchekmapfaaDoor
namespace Rows

/-- THE TIED CARD OF 'marlaw1.ShaOwn'. -/
def shaOwnCard : Claim7 := { stood := { row := shaOwnRow, standIns := [], harness := (true, "da07e09063d1c3a15711ad4dfe774d9396eef8e4e1752feaed4acf971bda2bbb"), looks := false }, kinds := [], alts := [], laidByText := true, laidKinds := [.data, .data], laidTests := true, laidLooks := .later }
def ShaOwnCardSaid : Prop := Claim7.holds Tryd.pinned (.plain (OpenSpec.ofChange shaOwnSpec)) shaOwnCard

/-- THE TIED CARD OF 'marlaw1.ShaPieces'. -/
def shaPiecesCard : Claim7 := { stood := { row := shaPiecesRow, standIns := [], harness := (true, "da07e09063d1c3a15711ad4dfe774d9396eef8e4e1752feaed4acf971bda2bbb"), looks := false }, kinds := [], alts := [], laidByText := true, laidKinds := [.data, .data], laidTests := true, laidLooks := .later }
def ShaPiecesCardSaid : Prop := Claim7.holds Tryd.pinned (.plain (OpenSpec.ofChange shaPiecesSpec)) shaPiecesCard

/-- THE TIED CARD OF 'marlaw1.ShaCopies'. -/
def shaCopiesCard : Claim7 := { stood := { row := shaCopiesRow, standIns := [], harness := (true, "da07e09063d1c3a15711ad4dfe774d9396eef8e4e1752feaed4acf971bda2bbb"), looks := false }, kinds := [], alts := [], laidByText := true, laidKinds := [.data, .data], laidTests := true, laidLooks := .later }
def ShaCopiesCardSaid : Prop := Claim7.holds Tryd.pinned (.plain (OpenSpec.ofChange shaCopiesSpec)) shaCopiesCard

/-- THE TIED CARD OF 'marlaw1.ShaLike'. -/
def shaLikeCard : Claim7 := { stood := { row := shaLikeRow, standIns := [], harness := (true, "da07e09063d1c3a15711ad4dfe774d9396eef8e4e1752feaed4acf971bda2bbb"), looks := false }, kinds := [], alts := [], laidByText := true, laidKinds := [.data, .data], laidTests := true, laidLooks := .later }
def ShaLikeCardSaid : Prop := Claim7.holds Tryd.pinned (.plain (OpenSpec.ofChange shaLikeSpec)) shaLikeCard

/-- THE TIED CARD OF 'marlaw1.ShaSums'. -/
def shaSumsCard : Claim7 := { stood := { row := shaSumsRow, standIns := [], harness := (true, "da07e09063d1c3a15711ad4dfe774d9396eef8e4e1752feaed4acf971bda2bbb"), looks := false }, kinds := [], alts := [], laidByText := true, laidKinds := [.data, .data], laidTests := true, laidLooks := .later }
def ShaSumsCardSaid : Prop := Claim7.holds Tryd.pinned (.plain (OpenSpec.ofChange shaSumsSpec)) shaSumsCard

/-- THE TIED CARD OF 'marlaw1.ShaBack'. -/
def shaBackCard : Claim7 := { stood := { row := shaBackRow, standIns := [], harness := (true, "da07e09063d1c3a15711ad4dfe774d9396eef8e4e1752feaed4acf971bda2bbb"), looks := false }, kinds := [], alts := [], laidByText := true, laidKinds := [.data, .data], laidTests := true, laidLooks := .later }
def ShaBackCardSaid : Prop := Claim7.holds Tryd.pinned (.plain (OpenSpec.ofChange shaBackSpec)) shaBackCard

/-- THE TIED CARD OF 'marlaw3.CellAfter'. -/
def cellAfterCard : Claim7 := { stood := { row := cellAfterRow, standIns := [], harness := (true, "da07e09063d1c3a15711ad4dfe774d9396eef8e4e1752feaed4acf971bda2bbb"), looks := false }, kinds := [], alts := [], laidByText := true, laidKinds := [.data, .data], laidTests := true, laidLooks := .later }
def CellAfterCardSaid : Prop := Claim7.holds Tryd.pinned (.plain (OpenSpec.ofChange cellAfterSpec)) cellAfterCard

/-- THE TIED CARD OF 'marlaw3.CellLazy'. -/
def cellLazyCard : Claim7 := { stood := { row := cellLazyRow, standIns := [], harness := (true, "da07e09063d1c3a15711ad4dfe774d9396eef8e4e1752feaed4acf971bda2bbb"), looks := false }, kinds := [], alts := [], laidByText := true, laidKinds := [.data, .data], laidTests := true, laidLooks := .later }
def CellLazyCardSaid : Prop := Claim7.holds Tryd.pinned (.plain (OpenSpec.ofChange cellLazySpec)) cellLazyCard

/-- THE TIED CARD OF 'marlaw3.CellSwaps'. -/
def cellSwapsCard : Claim7 := { stood := { row := cellSwapsRow, standIns := [], harness := (true, "da07e09063d1c3a15711ad4dfe774d9396eef8e4e1752feaed4acf971bda2bbb"), looks := false }, kinds := [], alts := [], laidByText := true, laidKinds := [.data, .data], laidTests := true, laidLooks := .later }
def CellSwapsCardSaid : Prop := Claim7.holds Tryd.pinned (.plain (OpenSpec.ofChange cellSwapsSpec)) cellSwapsCard

/-- THE TIED CARD OF 'marlaw3.CellCounts'. -/
def cellCountsCard : Claim7 := { stood := { row := cellCountsRow, standIns := [], harness := (true, "da07e09063d1c3a15711ad4dfe774d9396eef8e4e1752feaed4acf971bda2bbb"), looks := false }, kinds := [], alts := [], laidByText := true, laidKinds := [.data, .data], laidTests := true, laidLooks := .later }
def CellCountsCardSaid : Prop := Claim7.holds Tryd.pinned (.plain (OpenSpec.ofChange cellCountsSpec)) cellCountsCard

/-- THE TIED CARD OF 'marlaw3.CellTakes'. -/
def cellTakesCard : Claim7 := { stood := { row := cellTakesRow, standIns := [], harness := (true, "da07e09063d1c3a15711ad4dfe774d9396eef8e4e1752feaed4acf971bda2bbb"), looks := false }, kinds := [], alts := [], laidByText := true, laidKinds := [.data, .data], laidTests := true, laidLooks := .later }
def CellTakesCardSaid : Prop := Claim7.holds Tryd.pinned (.plain (OpenSpec.ofChange cellTakesSpec)) cellTakesCard

/-- THE TIED CARD OF 'marlaw6.ObjBack'. -/
def objBackCard : Claim7 := { stood := { row := objBackRow, standIns := [], harness := (true, "da07e09063d1c3a15711ad4dfe774d9396eef8e4e1752feaed4acf971bda2bbb"), looks := false }, kinds := [], alts := [], laidByText := true, laidKinds := [.data, .data], laidTests := true, laidLooks := .later }
def ObjBackCardSaid : Prop := Claim7.holds Tryd.pinned (.plain (OpenSpec.ofChange objBackSpec)) objBackCard

/-- THE SECOND FORM's CARD OF 'marlaw1.ShaOwn'. -/
def shaOwnUptoCard : Claim7 := { stood := { row := shaOwnUptoRow, standIns := [], harness := (true, "da07e09063d1c3a15711ad4dfe774d9396eef8e4e1752feaed4acf971bda2bbb"), looks := false }, kinds := [], alts := [], laidByText := true, laidKinds := [.data, .data], laidTests := true, laidLooks := .later }
def ShaOwnUptoCardSaid : Prop := Claim7.holds Tryd.pinned (.plain (OpenSpec.upto shaOwnSpec)) shaOwnUptoCard

/-- THE SECOND FORM's CARD OF 'marlaw1.ShaPieces'. -/
def shaPiecesUptoCard : Claim7 := { stood := { row := shaPiecesUptoRow, standIns := [], harness := (true, "da07e09063d1c3a15711ad4dfe774d9396eef8e4e1752feaed4acf971bda2bbb"), looks := false }, kinds := [], alts := [], laidByText := true, laidKinds := [.data, .data], laidTests := true, laidLooks := .later }
def ShaPiecesUptoCardSaid : Prop := Claim7.holds Tryd.pinned (.plain (OpenSpec.upto shaPiecesSpec)) shaPiecesUptoCard

/-- THE SECOND FORM's CARD OF 'marlaw1.ShaCopies'. -/
def shaCopiesUptoCard : Claim7 := { stood := { row := shaCopiesUptoRow, standIns := [], harness := (true, "da07e09063d1c3a15711ad4dfe774d9396eef8e4e1752feaed4acf971bda2bbb"), looks := false }, kinds := [], alts := [], laidByText := true, laidKinds := [.data, .data], laidTests := true, laidLooks := .later }
def ShaCopiesUptoCardSaid : Prop := Claim7.holds Tryd.pinned (.plain (OpenSpec.upto shaCopiesSpec)) shaCopiesUptoCard

/-- THE SECOND FORM's CARD OF 'marlaw1.ShaLike'. -/
def shaLikeUptoCard : Claim7 := { stood := { row := shaLikeUptoRow, standIns := [], harness := (true, "da07e09063d1c3a15711ad4dfe774d9396eef8e4e1752feaed4acf971bda2bbb"), looks := false }, kinds := [], alts := [], laidByText := true, laidKinds := [.data, .data], laidTests := true, laidLooks := .later }
def ShaLikeUptoCardSaid : Prop := Claim7.holds Tryd.pinned (.plain (OpenSpec.upto shaLikeSpec)) shaLikeUptoCard

/-- THE SECOND FORM's CARD OF 'marlaw1.ShaSums'. -/
def shaSumsUptoCard : Claim7 := { stood := { row := shaSumsUptoRow, standIns := [], harness := (true, "da07e09063d1c3a15711ad4dfe774d9396eef8e4e1752feaed4acf971bda2bbb"), looks := false }, kinds := [], alts := [], laidByText := true, laidKinds := [.data, .data], laidTests := true, laidLooks := .later }
def ShaSumsUptoCardSaid : Prop := Claim7.holds Tryd.pinned (.plain (OpenSpec.upto shaSumsSpec)) shaSumsUptoCard

/-- THE SECOND FORM's CARD OF 'marlaw1.ShaBack'. -/
def shaBackUptoCard : Claim7 := { stood := { row := shaBackUptoRow, standIns := [], harness := (true, "da07e09063d1c3a15711ad4dfe774d9396eef8e4e1752feaed4acf971bda2bbb"), looks := false }, kinds := [], alts := [], laidByText := true, laidKinds := [.data, .data], laidTests := true, laidLooks := .later }
def ShaBackUptoCardSaid : Prop := Claim7.holds Tryd.pinned (.plain (OpenSpec.upto shaBackSpec)) shaBackUptoCard

/-- THE SECOND FORM's CARD OF 'marlaw3.CellAfter'. -/
def cellAfterUptoCard : Claim7 := { stood := { row := cellAfterUptoRow, standIns := [], harness := (true, "da07e09063d1c3a15711ad4dfe774d9396eef8e4e1752feaed4acf971bda2bbb"), looks := false }, kinds := [], alts := [], laidByText := true, laidKinds := [.data, .data], laidTests := true, laidLooks := .later }
def CellAfterUptoCardSaid : Prop := Claim7.holds Tryd.pinned (.plain (OpenSpec.upto cellAfterSpec)) cellAfterUptoCard

/-- THE SECOND FORM's CARD OF 'marlaw3.CellLazy'. -/
def cellLazyUptoCard : Claim7 := { stood := { row := cellLazyUptoRow, standIns := [], harness := (true, "da07e09063d1c3a15711ad4dfe774d9396eef8e4e1752feaed4acf971bda2bbb"), looks := false }, kinds := [], alts := [], laidByText := true, laidKinds := [.data, .data], laidTests := true, laidLooks := .later }
def CellLazyUptoCardSaid : Prop := Claim7.holds Tryd.pinned (.plain (OpenSpec.upto cellLazySpec)) cellLazyUptoCard

/-- THE SECOND FORM's CARD OF 'marlaw3.CellSwaps'. -/
def cellSwapsUptoCard : Claim7 := { stood := { row := cellSwapsUptoRow, standIns := [], harness := (true, "da07e09063d1c3a15711ad4dfe774d9396eef8e4e1752feaed4acf971bda2bbb"), looks := false }, kinds := [], alts := [], laidByText := true, laidKinds := [.data, .data], laidTests := true, laidLooks := .later }
def CellSwapsUptoCardSaid : Prop := Claim7.holds Tryd.pinned (.plain (OpenSpec.upto cellSwapsSpec)) cellSwapsUptoCard

/-- THE SECOND FORM's CARD OF 'marlaw3.CellCounts'. -/
def cellCountsUptoCard : Claim7 := { stood := { row := cellCountsUptoRow, standIns := [], harness := (true, "da07e09063d1c3a15711ad4dfe774d9396eef8e4e1752feaed4acf971bda2bbb"), looks := false }, kinds := [], alts := [], laidByText := true, laidKinds := [.data, .data], laidTests := true, laidLooks := .later }
def CellCountsUptoCardSaid : Prop := Claim7.holds Tryd.pinned (.plain (OpenSpec.upto cellCountsSpec)) cellCountsUptoCard

/-- THE SECOND FORM's CARD OF 'marlaw3.CellTakes'. -/
def cellTakesUptoCard : Claim7 := { stood := { row := cellTakesUptoRow, standIns := [], harness := (true, "da07e09063d1c3a15711ad4dfe774d9396eef8e4e1752feaed4acf971bda2bbb"), looks := false }, kinds := [], alts := [], laidByText := true, laidKinds := [.data, .data], laidTests := true, laidLooks := .later }
def CellTakesUptoCardSaid : Prop := Claim7.holds Tryd.pinned (.plain (OpenSpec.upto cellTakesSpec)) cellTakesUptoCard

/-- THE SECOND FORM's CARD OF 'marlaw6.ObjBack'. -/
def objBackUptoCard : Claim7 := { stood := { row := objBackUptoRow, standIns := [], harness := (true, "da07e09063d1c3a15711ad4dfe774d9396eef8e4e1752feaed4acf971bda2bbb"), looks := false }, kinds := [], alts := [], laidByText := true, laidKinds := [.data, .data], laidTests := true, laidLooks := .later }
def ObjBackUptoCardSaid : Prop := Claim7.holds Tryd.pinned (.plain (OpenSpec.upto objBackSpec)) objBackUptoCard
end Rows
end Go.Proofs.YtcgdpchekmapfaaDoor
