/- Numbers there and back: plain facts. -/
import Derived.Test.YtdcleibbldmnaaaWireP
namespace Go.Mx
open Go

theorem hiN_take : ∀ l : List UInt8, hiN (l.take (hiN l)) = hiN l
  | [] => rfl
  | y :: l => by
    rw [hiN]
    split
    · rename_i hy
      rw [List.take_succ_cons, hiN, if_pos hy, hiN_take l]
    · rfl
theorem putL_9 {n : Nat} (h : n ≤ 72057594037927936) : (putL n).length ≤ 9 := by
  have := putL_le 9 n (by have : (128 : Nat) ^ 9 = 9223372036854775808 := by decide
                          omega)
  omega
theorem putL_pos (n : Nat) : 0 < (putL n).length := List.length_pos_iff.2 (putL_ne n)

/-- A number cut off it is too short. -/
theorem getS_short (n : Nat) : getS ((putL n).take ((putL n).length - 1)) 0 = (0, 0, 2) := by
  have h := hiN_put n
  have e : (putL n).length - 1 = hiN (putL n) := by omega
  rw [e, getS, if_neg (by simp)]
  rw [if_pos]
  simp only [Int.toNat_zero, List.drop_zero, Nat.zero_add, hiN_take, List.length_take]
  omega
/-- A number is read as it was put, wherever. -/
theorem getS_app (p r : List UInt8) (n : Nat) (hn : n ≤ 72057594037927936) : getS (p ++ (putL n ++ r)) (p.length : Int) = ((n : Int), ((p.length + (putL n).length : Nat) : Int), 0) := by
  have h := hiN_put n
  have h9 := putL_9 hn
  have hd : (p ++ (putL n ++ r)).drop p.length = putL n ++ r := by simp
  have hh : hiN (putL n ++ r) = hiN (putL n) := hiN_app (by omega)
  have ht : (putL n ++ r).take (hiN (putL n) + 1) = putL n := by rw [h]; simp
  rw [getS, if_neg (by simp only [List.length_append]; omega), Int.toNat_natCast, hd, hh, ht, valL_put]
  rw [if_neg (by simp; omega), if_neg (by rw [h]; simp; omega)]
  have : p.length + hiN (putL n) + 1 = p.length + (putL n).length := by omega
  simp only [Prod.mk.injEq, true_and, and_true]
  omega
theorem getS_bad {b : List UInt8} {at_ : Int} (h : (getS b at_).2.2 ≠ 0) : (getS b at_).1 = 0 ∧ (getS b at_).2.1 = 0 := by
  unfold getS at *
  split at h
  · rename_i h1; rw [if_pos h1]; exact ⟨rfl, rfl⟩
  · rename_i h1; rw [if_neg h1]
    split at h
    · rename_i h2; rw [if_pos h2]; exact ⟨rfl, rfl⟩
    · rename_i h2; rw [if_neg h2]
      split at h
      · rename_i h3; rw [if_pos h3]; exact ⟨rfl, rfl⟩
      · exact absurd rfl h
theorem getS_good {b : List UInt8} {at_ : Int} (h : (getS b at_).2.2 = 0) : ∃ n k j : Nat, (getS b at_).1 = (n : Int) ∧ n ≤ 72057594037927936 ∧ at_ = (k : Int) ∧ (getS b at_).2.1 = (j : Int) ∧ k ≤ j ∧ j ≤ b.length ∧ (b.take j).drop k = putL n := by
  unfold getS at *
  split at h
  · simp at h
  · rename_i h1; rw [if_neg h1]
    split at h
    · simp at h
    · rename_i h2; rw [if_neg h2]
      split at h
      · simp at h
      · rename_i h3; rw [if_neg h3]
        have hk : at_ = (at_.toNat : Int) := by omega
        have hle : hiN (b.drop at_.toNat) ≤ (b.drop at_.toNat).length := hiN_le _
        rw [List.length_drop] at hle
        simp only [not_or, Decidable.not_not] at h3
        obtain ⟨_, h5, h6⟩ := h3
        refine ⟨_, at_.toNat, at_.toNat + hiN (b.drop at_.toNat) + 1, rfl, by omega, hk, by simp only []; omega, by omega, by omega, ?_⟩
        rw [h6]
        rw [List.take_drop]
        congr 2
end Go.Mx
