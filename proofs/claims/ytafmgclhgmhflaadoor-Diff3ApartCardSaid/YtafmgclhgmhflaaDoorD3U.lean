/- Turned merges: plain facts. -/
import Derived.Test.YtafmgclhgmhflaaDoorD3T
namespace Go.Mx
open Go Go.RowKit
theorem mgT_swap (o a b : List UInt8) : mgT o b a = mgT o a b := by unfold mgT; cases isText o <;> cases isText a <;> cases isText b <;> rfl
theorem big_swap (o a b : Tx) : big o b a ↔ big o a b := by unfold big; omega
theorem mgE_swap (o a b : List UInt8) : mgE o b a = mgE o a b := by
  unfold mgE
  rw [mgT_swap]
  by_cases h : mgT o a b = true ∧ big (txL o) (txL a) (txL b)
  · rw [if_pos h, if_pos ⟨h.1, (big_swap _ _ _).2 h.2⟩]
  · rw [if_neg h, if_neg (fun h' => h ⟨h'.1, (big_swap _ _ _).1 h'.2⟩)]
theorem mgR_swap (o a b : List UInt8) : mgR o b a = mgR o a b := by
  unfold mgR
  rw [mgT_swap, mrg_swap]
  by_cases h : mgT o a b = true ∧ ¬ big (txL o) (txL a) (txL b)
  · rw [if_pos h, if_pos ⟨h.1, fun h' => h.2 ((big_swap _ _ _).1 h')⟩]
  · rw [if_neg h, if_neg (fun h' => h ⟨h'.1, fun h2 => h'.2 ((big_swap _ _ _).2 h2)⟩)]
/-- What the two merges of one changed text tell. -/
theorem mg_self (o a : List UInt8) :
    ((isText o && isText a) = false ∧ mgE o a o = 0 ∧ mgE o a a = 0 ∧ mgR o a o = none ∧ mgR o a a = none) ∨
    ((isText o && isText a) = true ∧ mgE o a o = 14 ∧ mgE o a a = 14 ∧ mgR o a o = none ∧ mgR o a a = none) ∨
    ((isText o && isText a) = true ∧ mgE o a o = 0 ∧ mgE o a a = 0 ∧ mgR o a o = some a ∧ mgR o a a = some a) := by
  have t1 : mgT o a o = (isText o && isText a) := by unfold mgT; cases isText o <;> cases isText a <;> rfl
  have t2 : mgT o a a = (isText o && isText a) := by unfold mgT; cases isText o <;> cases isText a <;> rfl
  cases h : (isText o && isText a) with
  | false =>
    refine .inl ⟨rfl, ?_, ?_, ?_, ?_⟩
    · unfold mgE; rw [t1, h, if_neg (by simp)]
    · unfold mgE; rw [t2, h, if_neg (by simp)]
    · unfold mgR; rw [t1, h, if_neg (by simp)]
    · unfold mgR; rw [t2, h, if_neg (by simp)]
  | true =>
    by_cases hb : big (txL o) (txL a) (txL o)
    · have hb2 : big (txL o) (txL a) (txL a) := by unfold big at *; omega
      refine .inr (.inl ⟨rfl, ?_, ?_, ?_, ?_⟩)
      · unfold mgE; rw [t1, h, if_pos ⟨rfl, hb⟩]
      · unfold mgE; rw [t2, h, if_pos ⟨rfl, hb2⟩]
      · unfold mgR; rw [t1, h, if_neg (fun h' => h'.2 hb)]
      · unfold mgR; rw [t2, h, if_neg (fun h' => h'.2 hb2)]
    · have hb2 : ¬ big (txL o) (txL a) (txL a) := by unfold big at *; omega
      refine .inr (.inr ⟨rfl, ?_, ?_, ?_, ?_⟩)
      · unfold mgE; rw [t1, h, if_neg (fun h' => hb h'.2)]
      · unfold mgE; rw [t2, h, if_neg (fun h' => hb2 h'.2)]
      · unfold mgR; rw [t1, h, if_pos ⟨rfl, hb⟩, mrg_one, Option.map_some, joinL_txL]
      · unfold mgR; rw [t2, h, if_pos ⟨rfl, hb2⟩, mrg_two, Option.map_some, joinL_txL]
end Go.Mx
