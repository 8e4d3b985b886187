/-
  DERIVED. GIVEN WITH THE SEED: THE CARDS: each row of YtlfdnlomlbbicaaGreatDoorRows.lean that lists a variable, with what it lists TIED to the program's text (the seventh form; the later family's looks); each row that meets fmt, with fmt's text TOLD by the authors' own Lean function (tested against real Go, not proved from fmt's source: count such statements apart). THE CARD IS WHAT COUNTS. Prove the row's statement (the work); the ties are given (YtlfdnlomlbbicaaGreatDoorTie.lean); close each card by the builder's one call (the guide's Derived/Test/ToyasCard.lean, 'card_holds'). Laid BY PROGRAM, IN A SANDBOX (cutbox-door.mjs). By AI agents, Wed Nov 11 2026. No macro, syntax, notation, axiom, sorry.
-/
import Derived.Test.YtlfdnlomlbbicaaGreatDoorRows
import GoSem.ClaimSeven
namespace Go.Proofs.YtlfdnlomlbbicaaGreatDoor
namespace Rows

/-- THE TIED CARD OF 'marlaw10.PackWrites'. -/
def packWritesCard : Claim7 := { stood := { row := packWritesRow, standIns := [], harness := (true, "e77ad404e01b09729152f293281518934160cb116752df73c2e8f51663cf6170"), looks := false }, kinds := [], alts := [], laidByText := true, laidKinds := [.data, .data], laidTests := true, laidLooks := .later }
def PackWritesCardSaid : Prop := Claim7.holds Tryz.pinned (.plain (OpenSpec.ofChange packWritesSpec)) packWritesCard

/-- THE TIED CARD OF 'marlaw10.PackParses'. -/
def packParsesCard : Claim7 := { stood := { row := packParsesRow, standIns := [], harness := (true, "e77ad404e01b09729152f293281518934160cb116752df73c2e8f51663cf6170"), looks := false }, kinds := [], alts := [], laidByText := true, laidKinds := [.data, .data], laidTests := true, laidLooks := .later }
def PackParsesCardSaid : Prop := Claim7.holds Tryz.pinned (.plain (OpenSpec.ofChange packParsesSpec)) packParsesCard

/-- THE SECOND FORM's CARD OF 'marlaw10.PackWrites'. -/
def packWritesUptoCard : Claim7 := { stood := { row := packWritesUptoRow, standIns := [], harness := (true, "e77ad404e01b09729152f293281518934160cb116752df73c2e8f51663cf6170"), looks := false }, kinds := [], alts := [], laidByText := true, laidKinds := [.data, .data], laidTests := true, laidLooks := .later }
def PackWritesUptoCardSaid : Prop := Claim7.holds Tryz.pinned (.plain (OpenSpec.upto packWritesSpec)) packWritesUptoCard

/-- THE SECOND FORM's CARD OF 'marlaw10.PackParses'. -/
def packParsesUptoCard : Claim7 := { stood := { row := packParsesUptoRow, standIns := [], harness := (true, "e77ad404e01b09729152f293281518934160cb116752df73c2e8f51663cf6170"), looks := false }, kinds := [], alts := [], laidByText := true, laidKinds := [.data, .data], laidTests := true, laidLooks := .later }
def PackParsesUptoCardSaid : Prop := Claim7.holds Tryz.pinned (.plain (OpenSpec.upto packParsesSpec)) packParsesUptoCard
end Rows
end Go.Proofs.YtlfdnlomlbbicaaGreatDoor
