/- What differs, done to the one, makes the other one: plain facts. -/
import Derived.Test.YtafmgclhgmhflaaDoorSplitP
namespace Go.Mx
open Go Go.RowKit

theorem patch_eds (a b : List ByteArray) : ∀ (ps : List (Nat × Nat)) (i j k : Nat) (acc : List ByteArray), Ris a.length b.length (ps ++ [(a.length, b.length)]) i j →
    (∀ p ∈ ps, ∃ (h1 : p.1 < a.length) (h2 : p.2 < b.length), a[p.1] = b[p.2]) → k ≤ i → acc ++ (a.take i).drop k = b.take j →
    patchL a (eds b (ps ++ [(a.length, b.length)]) i j) k acc = some b
  | [], i, j, k, acc, hr, _, hk, hacc => by
    obtain ⟨h1, h2, _⟩ := hr
    simp only [List.nil_append] at h1 h2 ⊢
    rw [eds]
    split
    · rename_i hg
      rw [eds, patchL, if_neg (by unfold edBad; simp only []; omega), patchL]
      simp only [Int.toNat_natCast]
      rw [← List.append_assoc, hacc, show ((i : Int) + ((a.length : Int) - (i : Int))).toNat = a.length by omega, List.drop_length, List.append_nil, List.take_length]
      rw [show b.take j ++ b.drop j = b from List.take_append_drop j b]
    · rename_i hg
      rw [eds, patchL]
      have hi : i = a.length := by omega
      have hj : j = b.length := by omega
      rw [hi, hj, List.take_length, List.take_length] at hacc
      rw [hacc]
  | p :: ps, i, j, k, acc, hr, hm, hk, hacc => by
    obtain ⟨h1, h2, h3, h4, h5⟩ := hr
    obtain ⟨g1, g2, g3⟩ := hm p (List.mem_cons_self ..)
    have hps := fun q hq => hm q (List.mem_cons_of_mem _ hq)
    rw [List.cons_append, eds]
    split
    · rename_i hg
      rw [patchL, if_neg (by unfold edBad; simp only []; omega)]
      simp only [Int.toNat_natCast]
      rw [← List.append_assoc, hacc, show ((i : Int) + ((p.1 : Int) - (i : Int))).toNat = p.1 by omega]
      refine patch_eds a b ps (p.1 + 1) (p.2 + 1) p.1 _ h5 hps (by omega) ?_
      rw [seg_snoc (Nat.le_refl _) g1, seg_self, List.nil_append, g3, List.take_succ_eq_append_getElem g2]
      congr 1
      have h6 : (b.take p.2).take j = b.take j := by rw [List.take_take, Nat.min_eq_left h2]
      rw [← h6]
      exact List.take_append_drop j _
    · rename_i hg
      have hi : i = p.1 := by omega
      have hj : j = p.2 := by omega
      refine patch_eds a b ps (p.1 + 1) (p.2 + 1) k acc h5 hps (by omega) ?_
      rw [seg_snoc (by omega) g1, ← List.append_assoc, List.take_succ_eq_append_getElem g2, ← g3]
      congr 1
      rw [← hj, ← hacc, hi]
theorem dE_patch (a b : List ByteArray) : patchL a (eds b (mpairs a b 0 0 ++ [(a.length, b.length)]) 0 0) 0 [] = some b :=
  patch_eds a b (mpairs a b 0 0) 0 0 0 [] (mpairs_ris a b 0 0 (Nat.zero_le _) (Nat.zero_le _)) (fun p hp => by
    obtain ⟨_, _, h1, h2, h3⟩ := mpairs_mem a b 0 0 p hp
    exact ⟨h1, h2, h3⟩) (Nat.le_refl _) (by simp)
theorem dE_self (a : List ByteArray) : eds a (mpairs a a 0 0 ++ [(a.length, a.length)]) 0 0 = [] := by
  have h := mpairs_same a a 0 0 rfl (Nat.zero_le _) (Nat.zero_le _)
  rw [h, Nat.sub_zero]
  have : (List.range a.length).map (fun t => (0 + t, 0 + t)) ++ [(a.length, a.length)] = (List.range (a.length + 1)).map fun t => (0 + t, 0 + t) := by
    rw [List.range_succ, List.map_append]
    simp
  rw [this]
  exact eds_diag0 a 0 0 _
theorem eds_ins (b : List ByteArray) : ∀ (l : List (Nat × Nat)) (i j : Nat), ∀ e ∈ eds b l i j, e.2.2.length ≤ b.length
  | [], _, _, e, he => by simp [eds] at he
  | p :: ps, i, j, e, he => by
    rw [eds] at he
    split at he
    · rcases List.mem_cons.1 he with rfl | he
      · simp only [List.length_drop, List.length_take]; omega
      · exact eds_ins b ps _ _ e he
    · exact eds_ins b ps _ _ e he
theorem tot_le {es : List Ed} {n : Nat} (h : ∀ e ∈ es, e.2.2.length ≤ n) : tot es ≤ es.length * n := by
  induction es with
  | nil => simp [tot]
  | cons e es ih =>
    have h1 := h e (List.mem_cons_self ..)
    have h2 := ih fun x hx => h x (List.mem_cons_of_mem _ hx)
    unfold tot at h2 ⊢
    rw [List.map_cons, List.sum_cons, List.length_cons, Nat.add_mul]
    omega
/-- The numbers in what differs. -/
theorem eds_num {n m : Nat} (b : List ByteArray) : ∀ (l : List (Nat × Nat)) (i j : Nat), Ris n m l i j → ∀ e ∈ eds b l i j, (0 ≤ e.1 ∧ e.1 ≤ n) ∧ (0 ≤ e.2.1 ∧ e.2.1 ≤ n)
  | [], _, _, _, e, he => by simp [eds] at he
  | p :: ps, i, j, hr, e, he => by
    obtain ⟨h1, h2, h3, h4, h5⟩ := hr
    rw [eds] at he
    split at he
    · rcases List.mem_cons.1 he with rfl | he
      · simp only []; omega
      · exact eds_num b ps _ _ h5 e he
    · exact eds_num b ps _ _ h5 e he
end Go.Mx
