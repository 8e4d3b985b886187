/-
  DERIVED. GIVEN WITH THE SEED: THE CARDS: each row of YtlfdnlomlbbicaaDoorRows.lean that lists a variable, with what it lists TIED to the program's text (the seventh form; the later family's looks); each row that meets fmt, with fmt's text TOLD by the authors' own Lean function (tested against real Go, not proved from fmt's source: count such statements apart). THE CARD IS WHAT COUNTS. Prove the row's statement (the work); the ties are given (YtlfdnlomlbbicaaDoorTie.lean); close each card by the builder's one call (the guide's Derived/Test/ToyasCard.lean, 'card_holds'). Laid BY PROGRAM, IN A SANDBOX (cutbox-door.mjs). By AI agents, Wed Nov 11 2026. No macro, syntax, notation, axiom, sorry.
-/
import Derived.Test.YtlfdnlomlbbicaaDoorRows
import GoSem.ClaimSeven
namespace Go.Proofs.YtlfdnlomlbbicaaDoor
namespace Rows

/-- THE TIED CARD OF 'marlaw10.PackSmall'. -/
def packSmallCard : Claim7 := { stood := { row := packSmallRow, standIns := [], harness := (true, "76a476a5b362df1442b8ef02ec0c054f7af5dee7a704d98250066333eb2099a2"), looks := false }, kinds := [], alts := [], laidByText := true, laidKinds := [.data, .data], laidTests := true, laidLooks := .later }
def PackSmallCardSaid : Prop := Claim7.holds Tryd.pinned (.plain (OpenSpec.ofChange packSmallSpec)) packSmallCard

/-- THE TIED CARD OF 'marlaw10.PackBack'. -/
def packBackCard : Claim7 := { stood := { row := packBackRow, standIns := [], harness := (true, "76a476a5b362df1442b8ef02ec0c054f7af5dee7a704d98250066333eb2099a2"), looks := false }, kinds := [], alts := [], laidByText := true, laidKinds := [.data, .data], laidTests := true, laidLooks := .later }
def PackBackCardSaid : Prop := Claim7.holds Tryd.pinned (.plain (OpenSpec.ofChange packBackSpec)) packBackCard

/-- THE SECOND FORM's CARD OF 'marlaw10.PackSmall'. -/
def packSmallUptoCard : Claim7 := { stood := { row := packSmallUptoRow, standIns := [], harness := (true, "76a476a5b362df1442b8ef02ec0c054f7af5dee7a704d98250066333eb2099a2"), looks := false }, kinds := [], alts := [], laidByText := true, laidKinds := [.data, .data], laidTests := true, laidLooks := .later }
def PackSmallUptoCardSaid : Prop := Claim7.holds Tryd.pinned (.plain (OpenSpec.upto packSmallSpec)) packSmallUptoCard

/-- THE SECOND FORM's CARD OF 'marlaw10.PackBack'. -/
def packBackUptoCard : Claim7 := { stood := { row := packBackUptoRow, standIns := [], harness := (true, "76a476a5b362df1442b8ef02ec0c054f7af5dee7a704d98250066333eb2099a2"), looks := false }, kinds := [], alts := [], laidByText := true, laidKinds := [.data, .data], laidTests := true, laidLooks := .later }
def PackBackUptoCardSaid : Prop := Claim7.holds Tryd.pinned (.plain (OpenSpec.upto packBackSpec)) packBackUptoCard
end Rows
end Go.Proofs.YtlfdnlomlbbicaaDoor
