/- Edits done to lines: plain facts. -/
import Derived.Test.YtloogjdafhjheaaDoorEd
namespace Go.Mx
open Go Go.RowKit

/-- Is an edit refused behind the place k? -/
def edBad (a : List ByteArray) (k : Nat) (e : Ed) : Prop := e.1 < (k : Int) ∨ (a.length : Int) < e.1 ∨ e.2.1 < 0 ∨ (a.length : Int) - e.1 < e.2.1
instance (a : List ByteArray) (k : Nat) (e : Ed) : Decidable (edBad a k e) := by unfold edBad; infer_instance
/-- What edits make, from a place on. -/
def patchL (a : List ByteArray) : List Ed → Nat → List ByteArray → Option (List ByteArray)
  | [], k, acc => some (acc ++ a.drop k)
  | e :: es, k, acc => if edBad a k e then none else patchL a es (e.1 + e.2.1).toNat (acc ++ ((a.take e.1.toNat).drop k ++ e.2.2))
def pP (a : List ByteArray) (es : List Ed) : List ByteArray := (patchL a es 0 []).getD []
def pE (a : List ByteArray) (es : List Ed) : Int := if (patchL a es 0 []).isSome then 0 else 1
/-- How many lines are put in. -/
def tot (es : List Ed) : Nat := (es.map fun e => e.2.2.length).sum
theorem tot_drop {es : List Ed} {k : Nat} (h : k < es.length) : tot (es.drop k) = es[k].2.2.length + tot (es.drop (k + 1)) := by
  unfold tot
  rw [List.drop_eq_getElem_cons h, List.map_cons, List.sum_cons]
theorem patchL_step {a : List ByteArray} {es : List Ed} {k i : Nat} {acc : List ByteArray} (h : k < es.length) :
    patchL a (es.drop k) i acc = if edBad a i es[k] then none else patchL a (es.drop (k + 1)) (es[k].1 + es[k].2.1).toNat (acc ++ ((a.take es[k].1.toNat).drop i ++ es[k].2.2)) := by
  rw [List.drop_eq_getElem_cons h, patchL]
theorem edBad_cases {a : List ByteArray} {i : Nat} {p q : Int} {L : List ByteArray} (h : edBad a i (p, q, L)) :
    decide (p < (i : Int)) = true ∨ (decide (p < (i : Int)) = false ∧ decide ((a.length : Int) < p) = true) ∨ (decide (p < (i : Int)) = false ∧ decide ((a.length : Int) < p) = false ∧ decide (q < 0) = true) ∨
      (decide (p < (i : Int)) = false ∧ decide ((a.length : Int) < p) = false ∧ decide (q < 0) = false ∧ (0 ≤ p ∧ p ≤ (a.length : Int)) ∧ decide ((a.length : Int) - p < q) = true) := by
  unfold edBad at h
  simp only [] at h
  simp only [decide_eq_true_eq, decide_eq_false_iff_not]
  omega
end Go.Mx
