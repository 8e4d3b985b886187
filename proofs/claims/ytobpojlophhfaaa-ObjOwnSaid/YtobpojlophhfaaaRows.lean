/-
  No cell of these rows narrows 'for every input' (looked for: loops, veiled, ifaces, maps, wideKeys, modest, calm, conditions, laid).
  DERIVED. THE GIVEN ROWS OF THIS SEAT. 5 by the template 'for every input the law returns true; each argument reads behind the call as it read before'; 0 by the template 'total and deterministic' (their statements: YtobpojlophhfaaaTotals.lean).
  GIVEN WITH THE SEED: the statements are not yours to turn. If you find one false, say at which input.
  Laid BY PROGRAM, IN A SANDBOX (cutbox-rows.mjs): the forced cells as the released guide's own fill.sh prints them over the translation 981884d2d7c18738… (all of the seat's roots in one cut). By AI agents, Wed Nov 11 2026. No macro, syntax, notation, axiom, sorry.
-/
import Derived.Test.YtobpojlophhfaaaChecked
import GoSem.Claim
import GoSem.ClaimJoined
import GoSem.ClaimMapViews
import Derived.JoinedTies
import Derived.KernelRfl
namespace Go.Proofs.Ytobpojlophhfaaa
/- THE CELL 'sum', in the pinned program and in every row, IS THE sha256 OF THE DUMP (.gsa) THAT YtobpojlophhfaaaProg.lean LOADS. Nothing in Lean hashes anything: it is a label: what it is worth is what the hold of that sum in a sandbox is worth. -/
noncomputable def Try.pinned : Pinned := { name := "ytobpojlophhfaaa", sum := "981884d2d7c1873866ef28be587253e31d7e1a586e905ffb95540d2d5494dc4f", checked := Try.checked }
namespace Rows
def none {H : Type} : Left H := { results := [], args := [] }

/-- 'marlaw6.ObjRefs': WHATEVER THE INPUT: true; the input reads as it did. -/
def objRefsSpec : ChangeSpec := { name := "objRefs", fn := fun _ => fun
  | [d] => { results := [.lit (.bool true)], args := [d] }
  | _ => none }
def objRefsRow : OpenClaim := { program := "ytobpojlophhfaaa", sum := "981884d2d7c1873866ef28be587253e31d7e1a586e905ffb95540d2d5494dc4f", func := "marline/marlaw6.ObjRefs", spec := "objRefs", inPlace := ["internal/bytealg.IndexByteString"], apart := false }
def ObjRefsSaid : Prop := objRefsRow.holds Try.pinned (OpenSpec.ofChange objRefsSpec)

/-- ITS FALSE NEIGHBOUR: 'it returns false'. Refute it at one input. -/
def objRefsWrong : ChangeSpec := { name := "objRefs", fn := fun _ => fun
  | [d] => { results := [.lit (.bool false)], args := [d] }
  | _ => none }
def ObjRefsWrongFalsely : Prop := objRefsRow.holds Try.pinned (OpenSpec.ofChange objRefsWrong)

/-- 'marlaw6.ObjUnlike': WHATEVER THE INPUT: true; the input reads as it did. -/
def objUnlikeSpec : ChangeSpec := { name := "objUnlike", fn := fun _ => fun
  | [d1, d2] => { results := [.lit (.bool true)], args := [d1, d2] }
  | _ => none }
def objUnlikeRow : OpenClaim := { program := "ytobpojlophhfaaa", sum := "981884d2d7c1873866ef28be587253e31d7e1a586e905ffb95540d2d5494dc4f", func := "marline/marlaw6.ObjUnlike", spec := "objUnlike", inPlace := ["internal/bytealg.IndexByteString"], apart := false }
def ObjUnlikeSaid : Prop := objUnlikeRow.holds Try.pinned (OpenSpec.ofChange objUnlikeSpec)

/-- ITS FALSE NEIGHBOUR: 'it returns false'. Refute it at one input. -/
def objUnlikeWrong : ChangeSpec := { name := "objUnlike", fn := fun _ => fun
  | [d1, d2] => { results := [.lit (.bool false)], args := [d1, d2] }
  | _ => none }
def ObjUnlikeWrongFalsely : Prop := objUnlikeRow.holds Try.pinned (OpenSpec.ofChange objUnlikeWrong)

/-- 'marlaw6.ObjCuts': WHATEVER THE INPUT: true; the input reads as it did. -/
def objCutsSpec : ChangeSpec := { name := "objCuts", fn := fun _ => fun
  | [d1, d2, d3] => { results := [.lit (.bool true)], args := [d1, d2, d3] }
  | _ => none }
def objCutsRow : OpenClaim := { program := "ytobpojlophhfaaa", sum := "981884d2d7c1873866ef28be587253e31d7e1a586e905ffb95540d2d5494dc4f", func := "marline/marlaw6.ObjCuts", spec := "objCuts", inPlace := ["internal/bytealg.IndexByteString"], apart := false }
def ObjCutsSaid : Prop := objCutsRow.holds Try.pinned (OpenSpec.ofChange objCutsSpec)

/-- ITS FALSE NEIGHBOUR: 'it returns false'. Refute it at one input. -/
def objCutsWrong : ChangeSpec := { name := "objCuts", fn := fun _ => fun
  | [d1, d2, d3] => { results := [.lit (.bool false)], args := [d1, d2, d3] }
  | _ => none }
def ObjCutsWrongFalsely : Prop := objCutsRow.holds Try.pinned (OpenSpec.ofChange objCutsWrong)

/-- 'marlaw6.ObjOwn': WHATEVER THE INPUT: true; the input reads as it did. -/
def objOwnSpec : ChangeSpec := { name := "objOwn", fn := fun _ => fun
  | [d] => { results := [.lit (.bool true)], args := [d] }
  | _ => none }
def objOwnRow : OpenClaim := { program := "ytobpojlophhfaaa", sum := "981884d2d7c1873866ef28be587253e31d7e1a586e905ffb95540d2d5494dc4f", func := "marline/marlaw6.ObjOwn", spec := "objOwn", inPlace := ["internal/bytealg.IndexByteString"], apart := false }
def ObjOwnSaid : Prop := objOwnRow.holds Try.pinned (OpenSpec.ofChange objOwnSpec)

/-- ITS FALSE NEIGHBOUR: 'it returns false'. Refute it at one input. -/
def objOwnWrong : ChangeSpec := { name := "objOwn", fn := fun _ => fun
  | [d] => { results := [.lit (.bool false)], args := [d] }
  | _ => none }
def ObjOwnWrongFalsely : Prop := objOwnRow.holds Try.pinned (OpenSpec.ofChange objOwnWrong)

/-- 'marlaw6.ObjCodes': WHATEVER THE INPUT: true; the input reads as it did. -/
def objCodesSpec : ChangeSpec := { name := "objCodes", fn := fun _ => fun
  | [d1, d2, d3] => { results := [.lit (.bool true)], args := [d1, d2, d3] }
  | _ => none }
def objCodesRow : OpenClaim := { program := "ytobpojlophhfaaa", sum := "981884d2d7c1873866ef28be587253e31d7e1a586e905ffb95540d2d5494dc4f", func := "marline/marlaw6.ObjCodes", spec := "objCodes", inPlace := ["internal/bytealg.IndexByteString"], apart := false }
def ObjCodesSaid : Prop := objCodesRow.holds Try.pinned (OpenSpec.ofChange objCodesSpec)

/-- ITS FALSE NEIGHBOUR: 'it returns false'. Refute it at one input. -/
def objCodesWrong : ChangeSpec := { name := "objCodes", fn := fun _ => fun
  | [d1, d2, d3] => { results := [.lit (.bool false)], args := [d1, d2, d3] }
  | _ => none }
def ObjCodesWrongFalsely : Prop := objCodesRow.holds Try.pinned (OpenSpec.ofChange objCodesWrong)

/- THE SECOND FORM. 'bulk': how many values and letters a reading holds, each counted each time it is reached (what is shared counts as often as it is met; a slice's spare places count too). A statement '..UptoSaid' is the law's where the arguments, and the package variables that the reading takes, are together of bulk at most 1048576: NARROWER than '..Said'. Prove '..Said' where nothing that the law and all that it calls make is longer than what came in: it says more and counts as full. Else prove '..UptoSaid'. A law counts once. -/
mutual
def uptoBulk {H : Type} : DataW H → Nat
  | .lit (.string bytes) => bytes.length + 1
  | .lit _ => 1
  | .nil => 1
  | .ptr d => uptoBulk d + 1
  | .slice elems spare => uptoBulkAll elems + uptoBulkAll spare + 1
  | .agg parts => uptoBulkAll parts + 1
  | .iface _ d => uptoBulk d + 1
  | .map entries => uptoBulkEntries entries + 1
  | .held _ => 1
def uptoBulkAll {H : Type} : List (DataW H) → Nat
  | [] => 0
  | d :: r => uptoBulk d + uptoBulkAll r
def uptoBulkEntries {H : Type} : List (Lit × DataW H) → Nat
  | [] => 0
  | x :: r => uptoBulkEntry x + uptoBulkEntries r
def uptoBulkEntry {H : Type} : Lit × DataW H → Nat
  | (.string bytes, d) => bytes.length + uptoBulk d + 1
  | (_, d) => uptoBulk d + 1
 end
def uptoSmall : (H : Type) → List (DataW H) → Bool := fun _ ds => decide (uptoBulkAll ds ≤ 1048576)
def OpenSpec.upto (s : _root_.Go.ChangeSpec) : _root_.Go.OpenSpec := { _root_.Go.OpenSpec.ofChange s with cond := some uptoSmall }

/-- 'marlaw6.ObjRefs', WHERE WHAT IT READS IS OF BULK AT MOST 1048576: true; the input reads as it did. -/
def objRefsUptoRow : OpenClaim := { program := "ytobpojlophhfaaa", sum := "981884d2d7c1873866ef28be587253e31d7e1a586e905ffb95540d2d5494dc4f", func := "marline/marlaw6.ObjRefs", spec := "objRefs", inPlace := ["internal/bytealg.IndexByteString"], apart := false, narrowed := true }
def ObjRefsUptoSaid : Prop := objRefsUptoRow.holds Try.pinned (OpenSpec.upto objRefsSpec)

/-- 'marlaw6.ObjUnlike', WHERE WHAT IT READS IS OF BULK AT MOST 1048576: true; the input reads as it did. -/
def objUnlikeUptoRow : OpenClaim := { program := "ytobpojlophhfaaa", sum := "981884d2d7c1873866ef28be587253e31d7e1a586e905ffb95540d2d5494dc4f", func := "marline/marlaw6.ObjUnlike", spec := "objUnlike", inPlace := ["internal/bytealg.IndexByteString"], apart := false, narrowed := true }
def ObjUnlikeUptoSaid : Prop := objUnlikeUptoRow.holds Try.pinned (OpenSpec.upto objUnlikeSpec)

/-- 'marlaw6.ObjCuts', WHERE WHAT IT READS IS OF BULK AT MOST 1048576: true; the input reads as it did. -/
def objCutsUptoRow : OpenClaim := { program := "ytobpojlophhfaaa", sum := "981884d2d7c1873866ef28be587253e31d7e1a586e905ffb95540d2d5494dc4f", func := "marline/marlaw6.ObjCuts", spec := "objCuts", inPlace := ["internal/bytealg.IndexByteString"], apart := false, narrowed := true }
def ObjCutsUptoSaid : Prop := objCutsUptoRow.holds Try.pinned (OpenSpec.upto objCutsSpec)

/-- 'marlaw6.ObjOwn', WHERE WHAT IT READS IS OF BULK AT MOST 1048576: true; the input reads as it did. -/
def objOwnUptoRow : OpenClaim := { program := "ytobpojlophhfaaa", sum := "981884d2d7c1873866ef28be587253e31d7e1a586e905ffb95540d2d5494dc4f", func := "marline/marlaw6.ObjOwn", spec := "objOwn", inPlace := ["internal/bytealg.IndexByteString"], apart := false, narrowed := true }
def ObjOwnUptoSaid : Prop := objOwnUptoRow.holds Try.pinned (OpenSpec.upto objOwnSpec)

/-- 'marlaw6.ObjCodes', WHERE WHAT IT READS IS OF BULK AT MOST 1048576: true; the input reads as it did. -/
def objCodesUptoRow : OpenClaim := { program := "ytobpojlophhfaaa", sum := "981884d2d7c1873866ef28be587253e31d7e1a586e905ffb95540d2d5494dc4f", func := "marline/marlaw6.ObjCodes", spec := "objCodes", inPlace := ["internal/bytealg.IndexByteString"], apart := false, narrowed := true }
def ObjCodesUptoSaid : Prop := objCodesUptoRow.holds Try.pinned (OpenSpec.upto objCodesSpec)

end Rows
end Go.Proofs.Ytobpojlophhfaaa
