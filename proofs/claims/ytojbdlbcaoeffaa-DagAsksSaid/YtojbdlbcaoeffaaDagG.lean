/- Is as a plain answer; what the laws' walks want. -/
import Derived.Test.YtojbdlbcaoeffaaDagE
import Derived.Test.YtojbdlbcaoeffaaDagQ
import Derived.Test.YtojbdlbcaoeffaaRegC
import Derived.Test.YtojbdlbcaoeffaaHas
namespace Go.Mx
open Go Go.RowKit
noncomputable def isB (L : List Nd) (a b : ByteArray) : Bool := @decide (Anc L a b ∧ ∃ n, fnd L b = some n) (Classical.propDecidable _)
theorem isB_iff {L : List Nd} {a b : ByteArray} : isB L a b = true ↔ Anc L a b ∧ ∃ n, fnd L b = some n := by unfold isB; exact @decide_eq_true_iff _ (Classical.propDecidable _)
theorem any_true {N : List ByteArray} {f : ByteArray → Bool} (h : ∃ t ∈ N, f t = true) : N.any f = true := by
  obtain ⟨t, ht, hf⟩ := h
  exact List.any_eq_true.2 ⟨t, ht, hf⟩
theorem any_take {N : List ByteArray} {f : ByteArray → Bool} {k : Nat} (hk : k < N.length) : (N.take (k + 1)).any f = ((N.take k).any f || f N[k]) := by
  rw [List.take_succ_eq_append_getElem hk, List.any_append]
  simp
end Go.Mx
namespace Go.Proofs.Ytojbdlbcaoeffaa
open Go.RowKit Go.Mx
theorem is_c (g B : Nat) (G : List Gd) (a b : ByteArray) (w : World) (h : GG w g B G) :
    Calls Try.prog 13 #[.pointer (some ⟨g, 0, none⟩), .string a, .string b] w fun e w' => e = .returned (.bool (isB (G.map (·.2)) a b)) ∧ St w w' [] [] :=
  (is_g g B G a b w h.r h.wf).mono fun e w' ⟨r, he, hr, hs⟩ => by
    refine ⟨?_, hs⟩
    rw [he]
    congr 2
    rw [Bool.eq_iff_iff, hr, isB_iff]
end Go.Proofs.Ytojbdlbcaoeffaa
