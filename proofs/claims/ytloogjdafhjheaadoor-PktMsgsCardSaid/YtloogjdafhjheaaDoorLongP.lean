/- What is told of the pairs: they are lines that are the same, rising; none is longer. Plain facts. -/
import Derived.Test.YtloogjdafhjheaaDoorLcs
import Derived.Test.YtloogjdafhjheaaDoorEd
namespace Go.Mx
open Go Go.RowKit

theorem mpairs_len_eq (a b : List ByteArray) (i j : Nat) : (mpairs a b i j).length = lt2 a b i j := by
  rw [mpairs]
  split
  · rename_i h
    rw [lt2_step h.1 h.2]
    split
    · rw [List.length_cons, mpairs_len_eq a b (i + 1) (j + 1)]
    · split
      · rw [mpairs_len_eq a b (i + 1) j]; omega
      · rw [mpairs_len_eq a b i (j + 1)]; omega
  · rw [lt2_end (by omega)]; rfl
termination_by (a.length - i) + (b.length - j)
decreasing_by all_goals omega

theorem lcs_comm : ∀ (a b : List ByteArray), lcs a b = lcs b a
  | [], b => by rw [lcs_nil]; simp [lcs]
  | x :: xs, [] => by rw [lcs_nil]; simp [lcs]
  | x :: xs, y :: ys => by
    rw [lcs, lcs, lcs_comm xs ys, lcs_comm xs (y :: ys), lcs_comm (x :: xs) ys]
    by_cases h : x = y
    · subst h; simp
    · rw [if_neg h, if_neg (Ne.symm h), Nat.max_comm]
termination_by a b => a.length + b.length

/-- No common subsequence is longer. -/
theorem lcs_max : ∀ (a b s : List ByteArray), s.Sublist a → s.Sublist b → s.length ≤ lcs a b
  | _, _, [], _, _ => Nat.zero_le _
  | [], _, z :: s, h, _ => by cases h
  | _ :: _, [], z :: s, _, h => by cases h
  | x :: xs, y :: ys, z :: s, ha, hb => by
    rw [lcs]
    by_cases he : x = y
    · rw [if_pos he]
      have h1 : s.Sublist xs := by
        cases ha with
        | cons _ h => exact (List.sublist_cons_self _ _).trans h
        | cons_cons _ h => exact h
      have h2 : s.Sublist ys := by
        cases hb with
        | cons _ h => exact (List.sublist_cons_self _ _).trans h
        | cons_cons _ h => exact h
      have := lcs_max xs ys s h1 h2
      simp only [List.length_cons]
      omega
    · rw [if_neg he]
      cases ha with
      | cons _ h =>
        have := lcs_max xs (y :: ys) (z :: s) h hb
        omega
      | cons_cons _ h =>
        cases hb with
        | cons _ h' =>
          have := lcs_max (x :: xs) ys (x :: s) (h.cons_cons _) h'
          omega
        | cons_cons _ h' => exact absurd rfl he
termination_by a b => a.length + b.length

/-- What is told of each pair. -/
def POk (a b : List ByteArray) (l : List (Nat × Nat)) (k : Nat) : Prop :=
  ∃ p : Nat × Nat, l[k]? = some p ∧ ∃ (h1 : p.1 < a.length) (h2 : p.2 < b.length), a[p.1] = b[p.2] ∧ ∀ q, 0 < k → l[k - 1]? = some q → q.1 < p.1 ∧ q.2 < p.2
theorem mpairs_mem (a b : List ByteArray) (i j : Nat) : ∀ p ∈ mpairs a b i j, i ≤ p.1 ∧ j ≤ p.2 ∧ ∃ (h1 : p.1 < a.length) (h2 : p.2 < b.length), a[p.1] = b[p.2] := by
  rw [mpairs]
  split
  · rename_i h
    split
    · rename_i he
      intro p hp
      rcases List.mem_cons.1 hp with rfl | hp
      · exact ⟨Nat.le_refl _, Nat.le_refl _, h.1, h.2, he⟩
      · obtain ⟨h1, h2, h3⟩ := mpairs_mem a b (i + 1) (j + 1) p hp
        exact ⟨by omega, by omega, h3⟩
    · split
      · intro p hp
        obtain ⟨h1, h2, h3⟩ := mpairs_mem a b (i + 1) j p hp
        exact ⟨by omega, h2, h3⟩
      · intro p hp
        obtain ⟨h1, h2, h3⟩ := mpairs_mem a b i (j + 1) p hp
        exact ⟨h1, by omega, h3⟩
  · simp
termination_by (a.length - i) + (b.length - j)
decreasing_by all_goals omega
theorem mpairs_rise (a b : List ByteArray) (i j : Nat) : (mpairs a b i j).Pairwise fun p q => p.1 < q.1 ∧ p.2 < q.2 := by
  rw [mpairs]
  split
  · rename_i h
    split
    · refine List.pairwise_cons.2 ⟨fun q hq => ?_, mpairs_rise a b (i + 1) (j + 1)⟩
      obtain ⟨h1, h2, _⟩ := mpairs_mem a b (i + 1) (j + 1) q hq
      exact ⟨by omega, by omega⟩
    · split
      · exact mpairs_rise a b (i + 1) j
      · exact mpairs_rise a b i (j + 1)
  · exact List.Pairwise.nil
termination_by (a.length - i) + (b.length - j)
decreasing_by all_goals omega
/-- A line more in a common subsequence. -/
theorem sub_snoc {s l : List ByteArray} {k i : Nat} (h : s.Sublist (l.take k)) (hk : k ≤ i) (hi : i < l.length) : (s ++ [l[i]]).Sublist (l.take (i + 1)) := by
  rw [List.take_succ_eq_append_getElem hi]
  refine (h.trans ?_).append (List.Sublist.refl _)
  rw [show l.take k = (l.take i).take k by rw [List.take_take, Nat.min_eq_left hk]]
  exact List.take_sublist _ _
theorem sub_len {a b s : List ByteArray} {k j : Nat} (ha : s.Sublist (a.take k)) (hb : s.Sublist (b.take j)) : s.length ≤ (mpairs a b 0 0).length := by
  rw [mpairs_len_eq]
  exact lcs_max a b s (ha.trans (List.take_sublist _ _)) (hb.trans (List.take_sublist _ _))
theorem mpairs_len_comm (a b : List ByteArray) : (mpairs b a 0 0).length = (mpairs a b 0 0).length := by
  rw [mpairs_len_eq, mpairs_len_eq]; exact lcs_comm b a
end Go.Mx
