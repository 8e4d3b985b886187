/-
  DERIVED. GIVEN WITH THE SEED: THE CARDS: each row of YtafmgclhgmhflaaDoorRows.lean that lists a variable, with what it lists TIED to the program's text (the seventh form; the later family's looks); each row that meets fmt, with fmt's text TOLD by the authors' own Lean function (tested against real Go, not proved from fmt's source: count such statements apart). THE CARD IS WHAT COUNTS. Prove the row's statement (the work); the ties are given (YtafmgclhgmhflaaDoorTie.lean); close each card by the builder's one call (the guide's Derived/Test/ToyasCard.lean, 'card_holds'). Laid BY PROGRAM, IN A SANDBOX (cutbox-door.mjs). By AI agents, Wed Nov 11 2026. No macro, syntax, notation, axiom, sorry.
-/
import Derived.Test.YtafmgclhgmhflaaDoorRows
import GoSem.ClaimSeven
namespace Go.Proofs.YtafmgclhgmhflaaDoor
namespace Rows

/-- THE TIED CARD OF 'marlaw15.Diff3Chunks'. -/
def diff3ChunksCard : Claim7 := { stood := { row := diff3ChunksRow, standIns := [], harness := (true, "d9df954447abde47eecba789b67ebcba5c1791a9e72cc0313db57623df623011"), looks := false }, kinds := [], alts := [], laidByText := true, laidKinds := [.data, .pinned], laidTests := true, laidLooks := .later }
def Diff3ChunksCardSaid : Prop := Claim7.holds Tryd.pinned (.plain (OpenSpec.ofChange diff3ChunksSpec)) diff3ChunksCard

/-- THE TIED CARD OF 'marlaw15.Diff3Merges'. -/
def diff3MergesCard : Claim7 := { stood := { row := diff3MergesRow, standIns := [], harness := (true, "d9df954447abde47eecba789b67ebcba5c1791a9e72cc0313db57623df623011"), looks := false }, kinds := [], alts := [], laidByText := true, laidKinds := [.data, .pinned], laidTests := true, laidLooks := .later }
def Diff3MergesCardSaid : Prop := Claim7.holds Tryd.pinned (.plain (OpenSpec.ofChange diff3MergesSpec)) diff3MergesCard

/-- THE TIED CARD OF 'marlaw15.Diff3Whole'. -/
def diff3WholeCard : Claim7 := { stood := { row := diff3WholeRow, standIns := [], harness := (true, "d9df954447abde47eecba789b67ebcba5c1791a9e72cc0313db57623df623011"), looks := false }, kinds := [], alts := [], laidByText := true, laidKinds := [.data, .pinned], laidTests := true, laidLooks := .later }
def Diff3WholeCardSaid : Prop := Claim7.holds Tryd.pinned (.plain (OpenSpec.ofChange diff3WholeSpec)) diff3WholeCard

/-- THE TIED CARD OF 'marlaw15.Diff3Turns'. -/
def diff3TurnsCard : Claim7 := { stood := { row := diff3TurnsRow, standIns := [], harness := (true, "d9df954447abde47eecba789b67ebcba5c1791a9e72cc0313db57623df623011"), looks := false }, kinds := [], alts := [], laidByText := true, laidKinds := [.data, .pinned], laidTests := true, laidLooks := .later }
def Diff3TurnsCardSaid : Prop := Claim7.holds Tryd.pinned (.plain (OpenSpec.ofChange diff3TurnsSpec)) diff3TurnsCard

/-- THE TIED CARD OF 'marlaw15.Diff3Apart'. -/
def diff3ApartCard : Claim7 := { stood := { row := diff3ApartRow, standIns := [], harness := (true, "d9df954447abde47eecba789b67ebcba5c1791a9e72cc0313db57623df623011"), looks := false }, kinds := [], alts := [], laidByText := true, laidKinds := [.data, .pinned], laidTests := true, laidLooks := .later }
def Diff3ApartCardSaid : Prop := Claim7.holds Tryd.pinned (.plain (OpenSpec.ofChange diff3ApartSpec)) diff3ApartCard

/-- THE TIED CARD OF 'marlaw15.Diff3Both'. -/
def diff3BothCard : Claim7 := { stood := { row := diff3BothRow, standIns := [], harness := (true, "d9df954447abde47eecba789b67ebcba5c1791a9e72cc0313db57623df623011"), looks := false }, kinds := [], alts := [], laidByText := true, laidKinds := [.data, .pinned], laidTests := true, laidLooks := .later }
def Diff3BothCardSaid : Prop := Claim7.holds Tryd.pinned (.plain (OpenSpec.ofChange diff3BothSpec)) diff3BothCard

/-- THE SECOND FORM's CARD OF 'marlaw15.Diff3Chunks'. -/
def diff3ChunksUptoCard : Claim7 := { stood := { row := diff3ChunksUptoRow, standIns := [], harness := (true, "d9df954447abde47eecba789b67ebcba5c1791a9e72cc0313db57623df623011"), looks := false }, kinds := [], alts := [], laidByText := true, laidKinds := [.data, .pinned], laidTests := true, laidLooks := .later }
def Diff3ChunksUptoCardSaid : Prop := Claim7.holds Tryd.pinned (.plain (OpenSpec.upto diff3ChunksSpec)) diff3ChunksUptoCard

/-- THE SECOND FORM's CARD OF 'marlaw15.Diff3Merges'. -/
def diff3MergesUptoCard : Claim7 := { stood := { row := diff3MergesUptoRow, standIns := [], harness := (true, "d9df954447abde47eecba789b67ebcba5c1791a9e72cc0313db57623df623011"), looks := false }, kinds := [], alts := [], laidByText := true, laidKinds := [.data, .pinned], laidTests := true, laidLooks := .later }
def Diff3MergesUptoCardSaid : Prop := Claim7.holds Tryd.pinned (.plain (OpenSpec.upto diff3MergesSpec)) diff3MergesUptoCard

/-- THE SECOND FORM's CARD OF 'marlaw15.Diff3Whole'. -/
def diff3WholeUptoCard : Claim7 := { stood := { row := diff3WholeUptoRow, standIns := [], harness := (true, "d9df954447abde47eecba789b67ebcba5c1791a9e72cc0313db57623df623011"), looks := false }, kinds := [], alts := [], laidByText := true, laidKinds := [.data, .pinned], laidTests := true, laidLooks := .later }
def Diff3WholeUptoCardSaid : Prop := Claim7.holds Tryd.pinned (.plain (OpenSpec.upto diff3WholeSpec)) diff3WholeUptoCard

/-- THE SECOND FORM's CARD OF 'marlaw15.Diff3Turns'. -/
def diff3TurnsUptoCard : Claim7 := { stood := { row := diff3TurnsUptoRow, standIns := [], harness := (true, "d9df954447abde47eecba789b67ebcba5c1791a9e72cc0313db57623df623011"), looks := false }, kinds := [], alts := [], laidByText := true, laidKinds := [.data, .pinned], laidTests := true, laidLooks := .later }
def Diff3TurnsUptoCardSaid : Prop := Claim7.holds Tryd.pinned (.plain (OpenSpec.upto diff3TurnsSpec)) diff3TurnsUptoCard

/-- THE SECOND FORM's CARD OF 'marlaw15.Diff3Apart'. -/
def diff3ApartUptoCard : Claim7 := { stood := { row := diff3ApartUptoRow, standIns := [], harness := (true, "d9df954447abde47eecba789b67ebcba5c1791a9e72cc0313db57623df623011"), looks := false }, kinds := [], alts := [], laidByText := true, laidKinds := [.data, .pinned], laidTests := true, laidLooks := .later }
def Diff3ApartUptoCardSaid : Prop := Claim7.holds Tryd.pinned (.plain (OpenSpec.upto diff3ApartSpec)) diff3ApartUptoCard

/-- THE SECOND FORM's CARD OF 'marlaw15.Diff3Both'. -/
def diff3BothUptoCard : Claim7 := { stood := { row := diff3BothUptoRow, standIns := [], harness := (true, "d9df954447abde47eecba789b67ebcba5c1791a9e72cc0313db57623df623011"), looks := false }, kinds := [], alts := [], laidByText := true, laidKinds := [.data, .pinned], laidTests := true, laidLooks := .later }
def Diff3BothUptoCardSaid : Prop := Claim7.holds Tryd.pinned (.plain (OpenSpec.upto diff3BothSpec)) diff3BothUptoCard
end Rows
end Go.Proofs.YtafmgclhgmhflaaDoor
