/-
  DERIVED. GIVEN WITH THE SEED: THE CARDS: each row of YtobpojlophhfaaaDoorRows.lean that lists a variable, with what it lists TIED to the program's text (the seventh form; the later family's looks); each row that meets fmt, with fmt's text TOLD by the authors' own Lean function (tested against real Go, not proved from fmt's source: count such statements apart). THE CARD IS WHAT COUNTS. Prove the row's statement (the work); the ties are given (YtobpojlophhfaaaDoorTie.lean); close each card by the builder's one call (the guide's Derived/Test/ToyasCard.lean, 'card_holds'). Laid BY PROGRAM, IN A SANDBOX (cutbox-door.mjs). By AI agents, Wed Nov 11 2026. No macro, syntax, notation, axiom, sorry.
-/
import Derived.Test.YtobpojlophhfaaaDoorRows
import GoSem.ClaimSeven
namespace Go.Proofs.YtobpojlophhfaaaDoor
namespace Rows

/-- THE TIED CARD OF 'marlaw6.ObjBack'. -/
def objBackCard : Claim7 := { stood := { row := objBackRow, standIns := [], harness := (true, "4427874fd7d28292aa02b5481e306822d7232dc2f5dc341e01770299ea9ec085"), looks := false }, kinds := [], alts := [], laidByText := true, laidKinds := [.data, .data], laidTests := true, laidLooks := .later }
def ObjBackCardSaid : Prop := Claim7.holds Tryd.pinned (.plain (OpenSpec.ofChange objBackSpec)) objBackCard

/-- THE TIED CARD OF 'marlaw4.NamesIgnored'. -/
def namesIgnoredCard : Claim7 := { stood := { row := namesIgnoredRow, standIns := [], harness := (true, "4427874fd7d28292aa02b5481e306822d7232dc2f5dc341e01770299ea9ec085"), looks := false }, kinds := [], alts := [], laidByText := true, laidKinds := [.data, .pinned], laidTests := true, laidLooks := .later }
def NamesIgnoredCardSaid : Prop := Claim7.holds Tryd.pinned (.plain (OpenSpec.ofChange namesIgnoredSpec)) namesIgnoredCard

/-- THE TIED CARD OF 'marlaw4.NamesUnder'. -/
def namesUnderCard : Claim7 := { stood := { row := namesUnderRow, standIns := [], harness := (true, "4427874fd7d28292aa02b5481e306822d7232dc2f5dc341e01770299ea9ec085"), looks := false }, kinds := [], alts := [], laidByText := true, laidKinds := [.data, .pinned], laidTests := true, laidLooks := .later }
def NamesUnderCardSaid : Prop := Claim7.holds Tryd.pinned (.plain (OpenSpec.ofChange namesUnderSpec)) namesUnderCard

/-- THE TIED CARD OF 'marlaw4.NamesChain'. -/
def namesChainCard : Claim7 := { stood := { row := namesChainRow, standIns := [], harness := (true, "4427874fd7d28292aa02b5481e306822d7232dc2f5dc341e01770299ea9ec085"), looks := false }, kinds := [], alts := [], laidByText := true, laidKinds := [.data, .pinned], laidTests := true, laidLooks := .later }
def NamesChainCardSaid : Prop := Claim7.holds Tryd.pinned (.plain (OpenSpec.ofChange namesChainSpec)) namesChainCard

/-- THE TIED CARD OF 'marlaw4.NamesMore'. -/
def namesMoreCard : Claim7 := { stood := { row := namesMoreRow, standIns := [], harness := (true, "4427874fd7d28292aa02b5481e306822d7232dc2f5dc341e01770299ea9ec085"), looks := false }, kinds := [], alts := [], laidByText := true, laidKinds := [.data, .pinned], laidTests := true, laidLooks := .later }
def NamesMoreCardSaid : Prop := Claim7.holds Tryd.pinned (.plain (OpenSpec.ofChange namesMoreSpec)) namesMoreCard

/-- THE TIED CARD OF 'marlaw4.NamesPaths'. -/
def namesPathsCard : Claim7 := { stood := { row := namesPathsRow, standIns := [], harness := (true, "4427874fd7d28292aa02b5481e306822d7232dc2f5dc341e01770299ea9ec085"), looks := false }, kinds := [], alts := [], laidByText := true, laidKinds := [.data, .pinned], laidTests := true, laidLooks := .later }
def NamesPathsCardSaid : Prop := Claim7.holds Tryd.pinned (.plain (OpenSpec.ofChange namesPathsSpec)) namesPathsCard

/-- THE TIED CARD OF 'marlaw4.NamesBack'. -/
def namesBackCard : Claim7 := { stood := { row := namesBackRow, standIns := [], harness := (true, "4427874fd7d28292aa02b5481e306822d7232dc2f5dc341e01770299ea9ec085"), looks := false }, kinds := [], alts := [], laidByText := true, laidKinds := [.data, .pinned], laidTests := true, laidLooks := .later }
def NamesBackCardSaid : Prop := Claim7.holds Tryd.pinned (.plain (OpenSpec.ofChange namesBackSpec)) namesBackCard

/-- THE SECOND FORM's CARD OF 'marlaw6.ObjBack'. -/
def objBackUptoCard : Claim7 := { stood := { row := objBackUptoRow, standIns := [], harness := (true, "4427874fd7d28292aa02b5481e306822d7232dc2f5dc341e01770299ea9ec085"), looks := false }, kinds := [], alts := [], laidByText := true, laidKinds := [.data, .data], laidTests := true, laidLooks := .later }
def ObjBackUptoCardSaid : Prop := Claim7.holds Tryd.pinned (.plain (OpenSpec.upto objBackSpec)) objBackUptoCard

/-- THE SECOND FORM's CARD OF 'marlaw4.NamesIgnored'. -/
def namesIgnoredUptoCard : Claim7 := { stood := { row := namesIgnoredUptoRow, standIns := [], harness := (true, "4427874fd7d28292aa02b5481e306822d7232dc2f5dc341e01770299ea9ec085"), looks := false }, kinds := [], alts := [], laidByText := true, laidKinds := [.data, .pinned], laidTests := true, laidLooks := .later }
def NamesIgnoredUptoCardSaid : Prop := Claim7.holds Tryd.pinned (.plain (OpenSpec.upto namesIgnoredSpec)) namesIgnoredUptoCard

/-- THE SECOND FORM's CARD OF 'marlaw4.NamesUnder'. -/
def namesUnderUptoCard : Claim7 := { stood := { row := namesUnderUptoRow, standIns := [], harness := (true, "4427874fd7d28292aa02b5481e306822d7232dc2f5dc341e01770299ea9ec085"), looks := false }, kinds := [], alts := [], laidByText := true, laidKinds := [.data, .pinned], laidTests := true, laidLooks := .later }
def NamesUnderUptoCardSaid : Prop := Claim7.holds Tryd.pinned (.plain (OpenSpec.upto namesUnderSpec)) namesUnderUptoCard

/-- THE SECOND FORM's CARD OF 'marlaw4.NamesChain'. -/
def namesChainUptoCard : Claim7 := { stood := { row := namesChainUptoRow, standIns := [], harness := (true, "4427874fd7d28292aa02b5481e306822d7232dc2f5dc341e01770299ea9ec085"), looks := false }, kinds := [], alts := [], laidByText := true, laidKinds := [.data, .pinned], laidTests := true, laidLooks := .later }
def NamesChainUptoCardSaid : Prop := Claim7.holds Tryd.pinned (.plain (OpenSpec.upto namesChainSpec)) namesChainUptoCard

/-- THE SECOND FORM's CARD OF 'marlaw4.NamesMore'. -/
def namesMoreUptoCard : Claim7 := { stood := { row := namesMoreUptoRow, standIns := [], harness := (true, "4427874fd7d28292aa02b5481e306822d7232dc2f5dc341e01770299ea9ec085"), looks := false }, kinds := [], alts := [], laidByText := true, laidKinds := [.data, .pinned], laidTests := true, laidLooks := .later }
def NamesMoreUptoCardSaid : Prop := Claim7.holds Tryd.pinned (.plain (OpenSpec.upto namesMoreSpec)) namesMoreUptoCard

/-- THE SECOND FORM's CARD OF 'marlaw4.NamesPaths'. -/
def namesPathsUptoCard : Claim7 := { stood := { row := namesPathsUptoRow, standIns := [], harness := (true, "4427874fd7d28292aa02b5481e306822d7232dc2f5dc341e01770299ea9ec085"), looks := false }, kinds := [], alts := [], laidByText := true, laidKinds := [.data, .pinned], laidTests := true, laidLooks := .later }
def NamesPathsUptoCardSaid : Prop := Claim7.holds Tryd.pinned (.plain (OpenSpec.upto namesPathsSpec)) namesPathsUptoCard

/-- THE SECOND FORM's CARD OF 'marlaw4.NamesBack'. -/
def namesBackUptoCard : Claim7 := { stood := { row := namesBackUptoRow, standIns := [], harness := (true, "4427874fd7d28292aa02b5481e306822d7232dc2f5dc341e01770299ea9ec085"), looks := false }, kinds := [], alts := [], laidByText := true, laidKinds := [.data, .pinned], laidTests := true, laidLooks := .later }
def NamesBackUptoCardSaid : Prop := Claim7.holds Tryd.pinned (.plain (OpenSpec.upto namesBackSpec)) namesBackUptoCard
end Rows
end Go.Proofs.YtobpojlophhfaaaDoor
