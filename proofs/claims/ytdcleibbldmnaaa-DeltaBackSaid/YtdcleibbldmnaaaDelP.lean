/- Deltas read: plain facts. -/
import Derived.Test.YtdcleibbldmnaaaBackP
namespace Go.Mx
open Go

/-- A number read at a list's head: the number, how many bytes, the error. -/
def nmN (l : List UInt8) : Nat := (getS l 0).1.toNat
def nmJ (l : List UInt8) : Nat := (getS l 0).2.1.toNat
def nmE (l : List UInt8) : Int := (getS l 0).2.2
theorem nm_eq (l : List UInt8) : getS l 0 = ((nmN l : Int), (nmJ l : Int), nmE l) := by
  unfold nmN nmJ nmE
  by_cases h : (getS l 0).2.2 = 0
  · obtain ⟨n, k, j, h1, _, _, h4, _⟩ := getS_good h
    generalize getS l 0 = r at *
    obtain ⟨a, b, c⟩ := r
    simp only [] at *
    subst h1 h4
    simp
  · obtain ⟨h1, h2⟩ := getS_bad h
    generalize getS l 0 = r at *
    obtain ⟨a, b, c⟩ := r
    simp only [] at *
    subst h1 h2
    simp
theorem nm_good {l : List UInt8} (h : nmE l = 0) : nmN l ≤ 72057594037927936 ∧ nmJ l ≤ l.length ∧ l.take (nmJ l) = putL (nmN l) ∧ 1 ≤ nmJ l := by
  obtain ⟨n, k, j, h1, h2, h3, h4, h5, h6, h7⟩ := getS_good h
  have hk : k = 0 := by omega
  subst hk
  have e1 : nmN l = n := by unfold nmN; rw [h1]; simp
  have e2 : nmJ l = j := by unfold nmJ; rw [h4]; simp
  rw [List.drop_zero] at h7
  rw [e1, e2]
  refine ⟨h2, h6, h7, ?_⟩
  have := putL_ne n
  rcases Nat.eq_zero_or_pos j with h | h
  · subst h; rw [List.take_zero] at h7; exact absurd h7.symm this
  · exact h
theorem nm_bad {l : List UInt8} (h : nmE l ≠ 0) : nmN l = 0 ∧ nmJ l = 0 := by
  obtain ⟨h1, h2⟩ := getS_bad h
  unfold nmN nmJ
  rw [h1, h2]
  exact ⟨rfl, rfl⟩
/-- The same, at a place. -/
theorem nm_at {d : List UInt8} {k : Nat} (hk : k ≤ d.length) : getS d k = ((nmN (d.drop k) : Int), (if nmE (d.drop k) = 0 then ((k + nmJ (d.drop k) : Nat) : Int) else 0), nmE (d.drop k)) := by
  have h0 := nm_eq (d.drop k)
  unfold getS at h0 ⊢
  rw [if_neg (by omega)] at h0 ⊢
  simp only [Int.toNat_natCast, Int.toNat_zero, List.drop_zero, List.length_drop] at h0 ⊢
  by_cases h1 : hiN (d.drop k) = d.length - k
  · rw [if_pos (by omega)] at h0
    rw [if_pos (by omega)]
    simp only [Prod.mk.injEq] at h0 ⊢
    obtain ⟨a, b, c⟩ := h0
    rw [← c]
    exact ⟨a, by rw [if_neg (by omega)], rfl⟩
  · rw [if_neg (by omega)] at h0
    rw [if_neg (by omega)]
    split at h0
    · rename_i hc
      rw [if_pos hc]
      simp only [Prod.mk.injEq] at h0 ⊢
      obtain ⟨a, b, c⟩ := h0
      rw [← c]
      exact ⟨a, by rw [if_neg (by omega)], rfl⟩
    · rename_i hc
      rw [if_neg hc]
      simp only [Prod.mk.injEq] at h0 ⊢
      obtain ⟨a, b, c⟩ := h0
      rw [← c, if_pos rfl]
      exact ⟨a, by omega, rfl⟩

/-- A step: the error, or the bytes and what is left. -/
def stepR (base : List UInt8) (kind : UInt8) (l : List UInt8) : Int × List UInt8 × List UInt8 :=
  if kind = 1 then
    if nmE l ≠ 0 then (nmE l, [], []) else
    if nmE (l.drop (nmJ l)) ≠ 0 then (nmE (l.drop (nmJ l)), [], []) else
    if nmN (l.drop (nmJ l)) = 0 then (4, [], []) else
    if base.length < nmN l ∨ base.length - nmN l < nmN (l.drop (nmJ l)) then (1, [], []) else
    (0, (base.take (nmN l + nmN (l.drop (nmJ l)))).drop (nmN l), (l.drop (nmJ l)).drop (nmJ (l.drop (nmJ l))))
  else if kind = 2 then
    if nmE l ≠ 0 then (nmE l, [], []) else
    if nmN l = 0 then (4, [], []) else
    if (l.drop (nmJ l)).length < nmN l then (2, [], []) else
    (0, (l.drop (nmJ l)).take (nmN l), (l.drop (nmJ l)).drop (nmN l))
  else (4, [], [])
theorem stepR_len (base : List UInt8) (kind : UInt8) (l : List UInt8) : (stepR base kind l).2.2.length ≤ l.length := by
  unfold stepR
  repeat' split
  all_goals simp
  all_goals omega
theorem stepR_bad {base : List UInt8} {kind : UInt8} {l : List UInt8} (h : (stepR base kind l).1 ≠ 0) : (stepR base kind l).2.1 = [] := by
  revert h
  unfold stepR
  repeat' split
  all_goals first | (intro _; rfl) | (intro h; exact absurd rfl h)

/-- The steps, one behind the other. -/
def stepsR (base : List UInt8) (to : Nat) : List UInt8 → List UInt8 → Int × List UInt8
  | [], out => if out.length < to then (2, []) else (0, out)
  | kind :: l, out =>
    if (stepR base kind l).1 ≠ 0 then ((stepR base kind l).1, [])
    else if (to : Int) - out.length < (stepR base kind l).2.1.length then (3, [])
    else stepsR base to (stepR base kind l).2.2 (out ++ (stepR base kind l).2.1)
termination_by l => l.length
decreasing_by have := stepR_len base kind l; simp; omega

/-- The two lengths, and the first error. -/
def szE (d : List UInt8) : Int := if nmE d ≠ 0 then nmE d else nmE (d.drop (nmJ d))
def szA (d : List UInt8) : Nat := if szE d = 0 then nmN d else 0
def szB (d : List UInt8) : Nat := if szE d = 0 then nmN (d.drop (nmJ d)) else 0
def szR (d : List UInt8) : List UInt8 := (d.drop (nmJ d)).drop (nmJ (d.drop (nmJ d)))
/-- What a delta makes of a base. -/
def apR (base d : List UInt8) : Int × List UInt8 :=
  if szE d ≠ 0 then (szE d, []) else if szA d ≠ base.length then (5, []) else if 20000 < szB d then (3, []) else stepsR base (szB d) (szR d) []
end Go.Mx
