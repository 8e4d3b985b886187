/-
  DERIVED. GIVEN WITH THE SEED: THE CARDS: each row of YtloogjdafhjheaaDoorRows.lean that lists a variable, with what it lists TIED to the program's text (the seventh form; the later family's looks); each row that meets fmt, with fmt's text TOLD by the authors' own Lean function (tested against real Go, not proved from fmt's source: count such statements apart). THE CARD IS WHAT COUNTS. Prove the row's statement (the work); the ties are given (YtloogjdafhjheaaDoorTie.lean); close each card by the builder's one call (the guide's Derived/Test/ToyasCard.lean, 'card_holds'). Laid BY PROGRAM, IN A SANDBOX (cutbox-door.mjs). By AI agents, Wed Nov 11 2026. No macro, syntax, notation, axiom, sorry.
-/
import Derived.Test.YtloogjdafhjheaaDoorRows
import GoSem.ClaimSeven
namespace Go.Proofs.YtloogjdafhjheaaDoor
namespace Rows

/-- THE TIED CARD OF 'marlaw21.PktMsgs'. -/
def pktMsgsCard : Claim7 := { stood := { row := pktMsgsRow, standIns := [], harness := (true, "79db9f77a0dcc16826a256087958d15de8c614bbb31876cea30d53033cb71b6b"), looks := true }, kinds := [], alts := [], laidByText := true, laidKinds := [.data, .data, .data, .data, .sentinel, .sentinel, .pinned], laidTests := true, laidLooks := .later }
def PktMsgsCardSaid : Prop := Claim7.holds Tryd.pinned (.plain (OpenSpec.ofChange pktMsgsSpec)) pktMsgsCard

/-- THE TIED CARD OF 'marlaw21.PktBack'. -/
def pktBackCard : Claim7 := { stood := { row := pktBackRow, standIns := [], harness := (true, "79db9f77a0dcc16826a256087958d15de8c614bbb31876cea30d53033cb71b6b"), looks := true }, kinds := [], alts := [], laidByText := true, laidKinds := [.data, .data, .data, .data, .sentinel, .sentinel, .pinned], laidTests := true, laidLooks := .later }
def PktBackCardSaid : Prop := Claim7.holds Tryd.pinned (.plain (OpenSpec.ofChange pktBackSpec)) pktBackCard

/-- THE TIED CARD OF 'marlaw21.PktOwn'. -/
def pktOwnCard : Claim7 := { stood := { row := pktOwnRow, standIns := [], harness := (true, "79db9f77a0dcc16826a256087958d15de8c614bbb31876cea30d53033cb71b6b"), looks := true }, kinds := [], alts := [], laidByText := true, laidKinds := [.data, .data, .data, .data, .sentinel, .sentinel, .pinned], laidTests := true, laidLooks := .later }
def PktOwnCardSaid : Prop := Claim7.holds Tryd.pinned (.plain (OpenSpec.ofChange pktOwnSpec)) pktOwnCard

/-- THE SECOND FORM's CARD OF 'marlaw21.PktMsgs'. -/
def pktMsgsUptoCard : Claim7 := { stood := { row := pktMsgsUptoRow, standIns := [], harness := (true, "79db9f77a0dcc16826a256087958d15de8c614bbb31876cea30d53033cb71b6b"), looks := true }, kinds := [], alts := [], laidByText := true, laidKinds := [.data, .data, .data, .data, .sentinel, .sentinel, .pinned], laidTests := true, laidLooks := .later }
def PktMsgsUptoCardSaid : Prop := Claim7.holds Tryd.pinned (.plain (OpenSpec.upto pktMsgsSpec)) pktMsgsUptoCard

/-- THE SECOND FORM's CARD OF 'marlaw21.PktBack'. -/
def pktBackUptoCard : Claim7 := { stood := { row := pktBackUptoRow, standIns := [], harness := (true, "79db9f77a0dcc16826a256087958d15de8c614bbb31876cea30d53033cb71b6b"), looks := true }, kinds := [], alts := [], laidByText := true, laidKinds := [.data, .data, .data, .data, .sentinel, .sentinel, .pinned], laidTests := true, laidLooks := .later }
def PktBackUptoCardSaid : Prop := Claim7.holds Tryd.pinned (.plain (OpenSpec.upto pktBackSpec)) pktBackUptoCard

/-- THE SECOND FORM's CARD OF 'marlaw21.PktOwn'. -/
def pktOwnUptoCard : Claim7 := { stood := { row := pktOwnUptoRow, standIns := [], harness := (true, "79db9f77a0dcc16826a256087958d15de8c614bbb31876cea30d53033cb71b6b"), looks := true }, kinds := [], alts := [], laidByText := true, laidKinds := [.data, .data, .data, .data, .sentinel, .sentinel, .pinned], laidTests := true, laidLooks := .later }
def PktOwnUptoCardSaid : Prop := Claim7.holds Tryd.pinned (.plain (OpenSpec.upto pktOwnSpec)) pktOwnUptoCard
end Rows
end Go.Proofs.YtloogjdafhjheaaDoor
