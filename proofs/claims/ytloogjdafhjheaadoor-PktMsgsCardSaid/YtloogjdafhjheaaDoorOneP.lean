/- Lines put in at one place: plain facts. -/
import Derived.Test.YtloogjdafhjheaaDoorLongP
namespace Go.Mx
open Go Go.RowKit

theorem lcs_append_self (x : List ByteArray) : ∀ (p : List ByteArray), lcs x (p ++ x) = x.length := by
  intro p
  refine Nat.le_antisymm (lcs_le _ _) (lcs_max _ _ x (List.Sublist.refl _) (List.sublist_append_right _ _))

/-- Two lists of lines that end alike: the pairs from there on. -/
theorem mpairs_same (a b : List ByteArray) (i j : Nat) (h : a.drop i = b.drop j) (hi : i ≤ a.length) (hj : j ≤ b.length) :
    mpairs a b i j = (List.range (a.length - i)).map fun t => (i + t, j + t) := by
  have hl := congrArg List.length h
  rw [List.length_drop, List.length_drop] at hl
  by_cases hlt : i < a.length
  · have hltj : j < b.length := by omega
    rw [List.drop_eq_getElem_cons hlt, List.drop_eq_getElem_cons hltj] at h
    obtain ⟨h1, h2⟩ := List.cons.inj h
    rw [mpairs, dif_pos ⟨hlt, hltj⟩, if_pos h1, mpairs_same a b (i + 1) (j + 1) h2 (by omega) (by omega)]
    rw [show a.length - i = (a.length - (i + 1)) + 1 by omega, List.range_succ_eq_map]
    simp [Function.comp_def, Nat.add_assoc, Nat.add_comm 1]
  · rw [mpairs, dif_neg (by omega), show a.length - i = 0 by omega]
    rfl
termination_by a.length - i

/-- Where the second has lines that the first has not, it goes on alone. -/
theorem mpairs_skip (a b : List ByteArray) (i j n : Nat) (h : a.drop i = b.drop (j + n)) (hi : i ≤ a.length) (hj : j + n ≤ b.length) (hno : ∀ r, j ≤ r → r < j + n → ∀ (hr : r < b.length), b[r] ∉ a) :
    mpairs a b i j = mpairs a b i (j + n) := by
  match n with
  | 0 => rfl
  | n + 1 =>
    have ih := mpairs_skip a b i (j + 1) n (by rw [show j + 1 + n = j + (n + 1) by omega]; exact h) hi (by omega) (fun r h1 h2 hr => hno r (by omega) (by omega) hr)
    rw [show j + 1 + n = j + (n + 1) by omega] at ih
    by_cases hlt : i < a.length
    · have hltj : j < b.length := by omega
      rw [← ih, mpairs, dif_pos ⟨hlt, hltj⟩, if_neg (fun e : a[i] = b[j] => hno j (Nat.le_refl _) (by omega) hltj (by rw [← e]; exact List.getElem_mem _))]
      rw [if_neg ?_]
      have h1 : lt2 a b (i + 1) j ≤ a.length - (i + 1) := by
        have := lcs_le (a.drop (i + 1)) (b.drop j); rw [List.length_drop] at this; exact this
      have h2 : a.length - i ≤ lt2 a b i (j + 1) := by
        have := lcs_max (a.drop i) (b.drop (j + 1)) (a.drop i) (List.Sublist.refl _) (by
          rw [h, show j + (n + 1) = (j + 1) + n by omega, ← List.drop_drop]
          exact List.drop_sublist _ _)
        rw [List.length_drop] at this; exact this
      omega
    · rw [mpairs, dif_neg (by omega), mpairs, dif_neg (by omega)]
/-- The same, the roles turned. -/
theorem mpairs_skip' (a b : List ByteArray) (i j n : Nat) (h : b.drop j = a.drop (i + n)) (hj : j ≤ b.length) (hi : i + n ≤ a.length) (hno : ∀ r, i ≤ r → r < i + n → ∀ (hr : r < a.length), a[r] ∉ b) :
    mpairs a b i j = mpairs a b (i + n) j := by
  match n with
  | 0 => rfl
  | n + 1 =>
    have ih := mpairs_skip' a b (i + 1) j n (by rw [show i + 1 + n = i + (n + 1) by omega]; exact h) hj (by omega) (fun r h1 h2 hr => hno r (by omega) (by omega) hr)
    rw [show i + 1 + n = i + (n + 1) by omega] at ih
    by_cases hlt : j < b.length
    · have hlti : i < a.length := by omega
      rw [← ih, mpairs, dif_pos ⟨hlti, hlt⟩, if_neg (fun e : a[i] = b[j] => hno i (Nat.le_refl _) (by omega) hlti (by rw [e]; exact List.getElem_mem _))]
      rw [if_pos ?_]
      have h1 : lt2 a b i (j + 1) ≤ b.length - (j + 1) := by
        have := lcs_le (b.drop (j + 1)) (a.drop i); rw [List.length_drop, lcs_comm] at this; exact this
      have h2 : b.length - j ≤ lt2 a b (i + 1) j := by
        have := lcs_max (a.drop (i + 1)) (b.drop j) (b.drop j) (by
          rw [h, show i + (n + 1) = (i + 1) + n by omega, ← List.drop_drop]
          exact List.drop_sublist _ _) (List.Sublist.refl _)
        rw [List.length_drop] at this; exact this
      omega
    · rw [mpairs, dif_neg (by omega), mpairs, dif_neg (by omega)]
/-- A common head: each line with itself. -/
theorem mpairs_pre (a b : List ByteArray) (i n : Nat) (ha : i + n ≤ a.length) (hb : i + n ≤ b.length) (h : ∀ k, i ≤ k → k < i + n → ∀ (h1 : k < a.length) (h2 : k < b.length), a[k] = b[k]) :
    mpairs a b i i = (List.range n).map (fun t => (i + t, i + t)) ++ mpairs a b (i + n) (i + n) := by
  match n with
  | 0 => rfl
  | n + 1 =>
    have ih := mpairs_pre a b (i + 1) n (by omega) (by omega) (fun k h1 h2 => h k (by omega) (by omega))
    rw [mpairs, dif_pos ⟨by omega, by omega⟩, if_pos (h i (Nat.le_refl _) (by omega) (by omega) (by omega)), ih, List.range_succ_eq_map]
    simp [Function.comp_def, Nat.add_assoc, Nat.add_comm 1]
theorem eds_diag (b : List ByteArray) (i j n : Nat) (r : List (Nat × Nat)) : eds b ((List.range n).map (fun t => (i + t, j + t)) ++ r) i j = eds b r (i + n) (j + n) := by
  match n with
  | 0 => rfl
  | n + 1 =>
    have ih := eds_diag b (i + 1) (j + 1) n r
    rw [List.range_succ_eq_map, List.map_cons, List.cons_append, eds, if_neg (by simp)]
    rw [show i + (n + 1) = i + 1 + n by omega, show j + (n + 1) = j + 1 + n by omega, ← ih]
    simp [Function.comp_def, Nat.add_assoc, Nat.add_comm 1]
theorem eds_diag0 (b : List ByteArray) (i j n : Nat) : eds b ((List.range n).map (fun t => (i + t, j + t))) i j = [] := by
  have := eds_diag b i j n []
  rw [List.append_nil] at this
  rw [this]; rfl
/-- What differs, where lines were put in. -/
theorem eds_put {a b : List ByteArray} {k n : Nat} (hk : k ≤ a.length) (hn : 0 < n) (hb : b.length = a.length + n) (hpre : ∀ r, r < k → ∀ (h1 : r < a.length) (h2 : r < b.length), a[r] = b[r]) (hsuf : a.drop k = b.drop (k + n))
    (hno : ∀ r, k ≤ r → r < k + n → ∀ (hr : r < b.length), b[r] ∉ a) : eds b (mpairs a b 0 0 ++ [(a.length, b.length)]) 0 0 = [((k : Int), 0, (b.take (k + n)).drop k)] := by
  have e1 := mpairs_pre a b 0 k (by omega) (by omega) (fun r _ h => hpre r (by omega))
  rw [Nat.zero_add] at e1
  rw [e1, mpairs_skip a b k k n hsuf hk (by omega) hno, mpairs_same a b k (k + n) hsuf hk (by omega), List.append_assoc, eds_diag b 0 0 k]
  have e2 : (List.range (a.length - k)).map (fun t => (k + t, k + n + t)) ++ [(a.length, b.length)] = (k, k + n) :: (List.range (a.length - k)).map fun t => (k + 1 + t, k + n + 1 + t) := by
    have : (List.range (a.length - k + 1)).map (fun t => (k + t, k + n + t)) = (List.range (a.length - k)).map (fun t => (k + t, k + n + t)) ++ [(a.length, b.length)] := by
      rw [List.range_succ, List.map_append]
      simp; omega
    rw [← this, List.range_succ_eq_map]
    simp [Function.comp_def, Nat.add_assoc, Nat.add_comm 1]
  rw [e2, Nat.zero_add, eds, if_pos (by simp; omega), eds_diag0]
  simp
/-- .. and where lines were taken out. -/
theorem eds_cut {a b : List ByteArray} {k n : Nat} (hk : k ≤ b.length) (hn : 0 < n) (ha : a.length = b.length + n) (hpre : ∀ r, r < k → ∀ (h1 : r < a.length) (h2 : r < b.length), a[r] = b[r]) (hsuf : b.drop k = a.drop (k + n))
    (hno : ∀ r, k ≤ r → r < k + n → ∀ (hr : r < a.length), a[r] ∉ b) : eds b (mpairs a b 0 0 ++ [(a.length, b.length)]) 0 0 = [((k : Int), (n : Int), [])] := by
  have e1 := mpairs_pre a b 0 k (by omega) (by omega) (fun r _ h => hpre r (by omega))
  rw [Nat.zero_add] at e1
  rw [e1, mpairs_skip' a b k k n hsuf hk (by omega) hno, mpairs_same a b (k + n) k hsuf.symm (by omega) hk, List.append_assoc, eds_diag b 0 0 k]
  have e2 : (List.range (a.length - (k + n))).map (fun t => (k + n + t, k + t)) ++ [(a.length, b.length)] = (k + n, k) :: (List.range (a.length - (k + n))).map fun t => (k + n + 1 + t, k + 1 + t) := by
    have : (List.range (a.length - (k + n) + 1)).map (fun t => (k + n + t, k + t)) = (List.range (a.length - (k + n))).map (fun t => (k + n + t, k + t)) ++ [(a.length, b.length)] := by
      rw [List.range_succ, List.map_append]
      simp; omega
    rw [← this, List.range_succ_eq_map]
    simp [Function.comp_def, Nat.add_assoc, Nat.add_comm 1]
  rw [e2, Nat.zero_add, eds, if_pos (by simp; omega), eds_diag0]
  simp
  omega
end Go.Mx
