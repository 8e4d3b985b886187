/-
  DERIVED. GIVEN WITH THE SEED: THE CARDS: each row of YtdcleibbldmnaaaDoorRows.lean that lists a variable, with what it lists TIED to the program's text (the seventh form; the later family's looks); each row that meets fmt, with fmt's text TOLD by the authors' own Lean function (tested against real Go, not proved from fmt's source: count such statements apart). THE CARD IS WHAT COUNTS. Prove the row's statement (the work); the ties are given (YtdcleibbldmnaaaDoorTie.lean); close each card by the builder's one call (the guide's Derived/Test/ToyasCard.lean, 'card_holds'). Laid BY PROGRAM, IN A SANDBOX (cutbox-door.mjs). By AI agents, Wed Nov 11 2026. No macro, syntax, notation, axiom, sorry.
-/
import Derived.Test.YtdcleibbldmnaaaDoorRows
import GoSem.ClaimSeven
namespace Go.Proofs.YtdcleibbldmnaaaDoor
namespace Rows

/-- THE TIED CARD OF 'marlaw1.ShaOwn'. -/
def shaOwnCard : Claim7 := { stood := { row := shaOwnRow, standIns := [], harness := (true, "1404de7d27b986a0d840848a7ee46e026561bf15119f1c52e61daec440473005"), looks := false }, kinds := [], alts := [], laidByText := true, laidKinds := [.data, .data], laidTests := true, laidLooks := .later }
def ShaOwnCardSaid : Prop := Claim7.holds Tryd.pinned (.plain (OpenSpec.ofChange shaOwnSpec)) shaOwnCard

/-- THE TIED CARD OF 'marlaw1.ShaPieces'. -/
def shaPiecesCard : Claim7 := { stood := { row := shaPiecesRow, standIns := [], harness := (true, "1404de7d27b986a0d840848a7ee46e026561bf15119f1c52e61daec440473005"), looks := false }, kinds := [], alts := [], laidByText := true, laidKinds := [.data, .data], laidTests := true, laidLooks := .later }
def ShaPiecesCardSaid : Prop := Claim7.holds Tryd.pinned (.plain (OpenSpec.ofChange shaPiecesSpec)) shaPiecesCard

/-- THE TIED CARD OF 'marlaw1.ShaCopies'. -/
def shaCopiesCard : Claim7 := { stood := { row := shaCopiesRow, standIns := [], harness := (true, "1404de7d27b986a0d840848a7ee46e026561bf15119f1c52e61daec440473005"), looks := false }, kinds := [], alts := [], laidByText := true, laidKinds := [.data, .data], laidTests := true, laidLooks := .later }
def ShaCopiesCardSaid : Prop := Claim7.holds Tryd.pinned (.plain (OpenSpec.ofChange shaCopiesSpec)) shaCopiesCard

/-- THE TIED CARD OF 'marlaw1.ShaLike'. -/
def shaLikeCard : Claim7 := { stood := { row := shaLikeRow, standIns := [], harness := (true, "1404de7d27b986a0d840848a7ee46e026561bf15119f1c52e61daec440473005"), looks := false }, kinds := [], alts := [], laidByText := true, laidKinds := [.data, .data], laidTests := true, laidLooks := .later }
def ShaLikeCardSaid : Prop := Claim7.holds Tryd.pinned (.plain (OpenSpec.ofChange shaLikeSpec)) shaLikeCard

/-- THE TIED CARD OF 'marlaw1.ShaSums'. -/
def shaSumsCard : Claim7 := { stood := { row := shaSumsRow, standIns := [], harness := (true, "1404de7d27b986a0d840848a7ee46e026561bf15119f1c52e61daec440473005"), looks := false }, kinds := [], alts := [], laidByText := true, laidKinds := [.data, .data], laidTests := true, laidLooks := .later }
def ShaSumsCardSaid : Prop := Claim7.holds Tryd.pinned (.plain (OpenSpec.ofChange shaSumsSpec)) shaSumsCard

/-- THE TIED CARD OF 'marlaw1.ShaBack'. -/
def shaBackCard : Claim7 := { stood := { row := shaBackRow, standIns := [], harness := (true, "1404de7d27b986a0d840848a7ee46e026561bf15119f1c52e61daec440473005"), looks := false }, kinds := [], alts := [], laidByText := true, laidKinds := [.data, .data], laidTests := true, laidLooks := .later }
def ShaBackCardSaid : Prop := Claim7.holds Tryd.pinned (.plain (OpenSpec.ofChange shaBackSpec)) shaBackCard

/-- THE SECOND FORM's CARD OF 'marlaw1.ShaOwn'. -/
def shaOwnUptoCard : Claim7 := { stood := { row := shaOwnUptoRow, standIns := [], harness := (true, "1404de7d27b986a0d840848a7ee46e026561bf15119f1c52e61daec440473005"), looks := false }, kinds := [], alts := [], laidByText := true, laidKinds := [.data, .data], laidTests := true, laidLooks := .later }
def ShaOwnUptoCardSaid : Prop := Claim7.holds Tryd.pinned (.plain (OpenSpec.upto shaOwnSpec)) shaOwnUptoCard

/-- THE SECOND FORM's CARD OF 'marlaw1.ShaPieces'. -/
def shaPiecesUptoCard : Claim7 := { stood := { row := shaPiecesUptoRow, standIns := [], harness := (true, "1404de7d27b986a0d840848a7ee46e026561bf15119f1c52e61daec440473005"), looks := false }, kinds := [], alts := [], laidByText := true, laidKinds := [.data, .data], laidTests := true, laidLooks := .later }
def ShaPiecesUptoCardSaid : Prop := Claim7.holds Tryd.pinned (.plain (OpenSpec.upto shaPiecesSpec)) shaPiecesUptoCard

/-- THE SECOND FORM's CARD OF 'marlaw1.ShaCopies'. -/
def shaCopiesUptoCard : Claim7 := { stood := { row := shaCopiesUptoRow, standIns := [], harness := (true, "1404de7d27b986a0d840848a7ee46e026561bf15119f1c52e61daec440473005"), looks := false }, kinds := [], alts := [], laidByText := true, laidKinds := [.data, .data], laidTests := true, laidLooks := .later }
def ShaCopiesUptoCardSaid : Prop := Claim7.holds Tryd.pinned (.plain (OpenSpec.upto shaCopiesSpec)) shaCopiesUptoCard

/-- THE SECOND FORM's CARD OF 'marlaw1.ShaLike'. -/
def shaLikeUptoCard : Claim7 := { stood := { row := shaLikeUptoRow, standIns := [], harness := (true, "1404de7d27b986a0d840848a7ee46e026561bf15119f1c52e61daec440473005"), looks := false }, kinds := [], alts := [], laidByText := true, laidKinds := [.data, .data], laidTests := true, laidLooks := .later }
def ShaLikeUptoCardSaid : Prop := Claim7.holds Tryd.pinned (.plain (OpenSpec.upto shaLikeSpec)) shaLikeUptoCard

/-- THE SECOND FORM's CARD OF 'marlaw1.ShaSums'. -/
def shaSumsUptoCard : Claim7 := { stood := { row := shaSumsUptoRow, standIns := [], harness := (true, "1404de7d27b986a0d840848a7ee46e026561bf15119f1c52e61daec440473005"), looks := false }, kinds := [], alts := [], laidByText := true, laidKinds := [.data, .data], laidTests := true, laidLooks := .later }
def ShaSumsUptoCardSaid : Prop := Claim7.holds Tryd.pinned (.plain (OpenSpec.upto shaSumsSpec)) shaSumsUptoCard

/-- THE SECOND FORM's CARD OF 'marlaw1.ShaBack'. -/
def shaBackUptoCard : Claim7 := { stood := { row := shaBackUptoRow, standIns := [], harness := (true, "1404de7d27b986a0d840848a7ee46e026561bf15119f1c52e61daec440473005"), looks := false }, kinds := [], alts := [], laidByText := true, laidKinds := [.data, .data], laidTests := true, laidLooks := .later }
def ShaBackUptoCardSaid : Prop := Claim7.holds Tryd.pinned (.plain (OpenSpec.upto shaBackSpec)) shaBackUptoCard
end Rows
end Go.Proofs.YtdcleibbldmnaaaDoor
