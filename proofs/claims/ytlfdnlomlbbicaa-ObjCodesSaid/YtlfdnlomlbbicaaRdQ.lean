/- How long what the document reads is: the plain mathematics. -/
import Derived.Test.YtlfdnlomlbbicaaRdP
import Derived.Test.YtlfdnlomlbbicaaObjD
namespace Go.Mx
open Go Go.RowKit
theorem nmR_le (s : Src) : leS (nmR s).2 s := by
  unfold nmR
  split
  · exact leS.refl s
  · exact nm_le s
theorem nmR_max (s : Src) : (nmR s).1 ≤ 72057594037927936 := by
  unfold nmR
  split
  · exact Nat.zero_le _
  · exact nm_max s
theorem rdItemsR_stop {n : Nat} {s : Src} (h : s.2 = true ∨ n = 0) : rdItemsR n s = ([], s) := by
  cases n with
  | zero => rfl
  | succ n =>
    rcases h with h | h
    · rw [rdItemsR, if_pos h]
    · cases h
theorem rdItemsR_step {n : Nat} {b : List UInt8} {m k : Nat} {x : List UInt8} {id : ByteArray} {s1 s2 s3 s4 : Src} (h1 : on (b, false) = (m, s1)) (h2 : nmR s1 = (k, s2)) (h3 : tk k s2 = (x, s3)) (h4 : hs s3 = (id, s4)) :
    rdItemsR (n + 1) (b, false) = (((m : Int), str x, id) :: (rdItemsR n s4).1, (rdItemsR n s4).2) := by
  rw [rdItemsR, if_neg (by simp), h1]
  simp only []
  rw [h2]
  simp only []
  rw [h3]
  simp only []
  rw [h4]
theorem rdItemsR_size : ∀ (n : Nat) (s : Src), ∀ x ∈ (rdItemsR n s).1, (x.2.1.size ≤ s.1.length ∧ x.2.2.size ≤ 64) ∧ 0 ≤ x.1 ∧ x.1 ≤ 255
  | 0, s, x, h => by cases h
  | n + 1, s, x, h => by
    rw [rdItemsR] at h
    split at h
    · cases h
    · simp only [List.mem_cons] at h
      have h1 := (on_le s).1
      have h2 := (nmR_le (on s).2).1
      have h3 := (tk_le (nmR (on s).2).1 (nmR (on s).2).2).1
      have h4 := (hs_le (tk (nmR (on s).2).1 (nmR (on s).2).2).2).1
      rcases h with rfl | h
      · refine ⟨⟨?_, hs_size _⟩, by simp, ?_⟩
        · simp only [str_size]
          have := tk_x (nmR (on s).2).1 (nmR (on s).2).2
          omega
        · have := on_256 s
          simp only []
          omega
      · have := rdItemsR_size n _ x h
        refine ⟨⟨by omega, this.1.2⟩, this.2⟩
theorem rdItemsR_len : ∀ (n : Nat) (s : Src), (rdItemsR n s).1.length ≤ s.1.length + 1
  | 0, s => by simp [rdItemsR]
  | n + 1, s => by
    rw [rdItemsR]
    split
    · simp
    · rename_i hs0
      simp only [List.length_cons]
      have h1 := nmR_le (on s).2
      have h2 := tk_le (nmR (on s).2).1 (nmR (on s).2).2
      have h3 := hs_le (tk (nmR (on s).2).1 (nmR (on s).2).2).2
      have h4 := (h3.trans h2).trans h1
      have ih := rdItemsR_len n (hs (tk (nmR (on s).2).1 (nmR (on s).2).2).2).2
      cases hb : (hs (tk (nmR (on s).2).1 (nmR (on s).2).2).2).2.2 with
      | true => rw [rdItemsR_stop (.inl hb)]; simp
      | false =>
        have h5 := on_lt s (h4.2 hb)
        have h6 := h4.1
        omega
theorem readR_ok (kind : Int) (l : List UInt8) (hl : l.length ≤ 1000000000) : OZ (readR kind l).1 ∧ (readR kind l).1.data.length ≤ 1000000000000 ∧ (readR kind l).1.items.length ≤ 1000000000000 := by
  have hz : (str []).size ≤ 140737488351232 := by rw [str_size]; simp
  unfold readR
  split
  · exact ⟨⟨hz, hz, by simp, by simp⟩, by simp only []; omega, by simp⟩
  · split
    · have h2 := (nmR_le (l, false)).1
      simp only [] at h2
      refine ⟨⟨hz, hz, fun x hx => ?_, by simp⟩, by simp, ?_⟩
      · have h1 := rdItemsR_size _ _ x hx
        exact ⟨by omega, by omega, by omega, by omega⟩
      · have := rdItemsR_len (nmR (l, false)).1 (nmR (l, false)).2
        simp only []
        omega
    · split
      · refine ⟨⟨by have := hs_size (l, false); simp only []; omega, ?_, by simp, fun x hx => by have := rdPars_size _ _ x hx; omega⟩, by simp, by simp⟩
        simp only [str_size]
        have a1 := (hs_le (l, false)).1
        have a2 := (on_le (hs (l, false)).2).1
        have a3 : ∀ n s, (rdPars n s).2.1.length ≤ s.1.length := fun n => by
          induction n with
          | zero => intro s; exact Nat.le_refl _
          | succ n ih =>
            intro s
            rw [rdPars]
            split
            · exact Nat.le_refl _
            · have := ih (hs s).2
              have := (hs_le s).1
              simp only []
              omega
        have a4 := a3 (on (hs (l, false)).2).1 (on (hs (l, false)).2).2
        have a5 := (nmR_le (rdPars (on (hs (l, false)).2).1 (on (hs (l, false)).2).2).2).1
        have a6 := (nmR_le (nmR (rdPars (on (hs (l, false)).2).1 (on (hs (l, false)).2).2).2).2).1
        have a7 := (nmR_le (nmR (nmR (rdPars (on (hs (l, false)).2).1 (on (hs (l, false)).2).2).2).2).2).1
        have a8 := tk_x (nmR (nmR (nmR (rdPars (on (hs (l, false)).2).1 (on (hs (l, false)).2).2).2).2).2).1 (nmR (nmR (nmR (rdPars (on (hs (l, false)).2).1 (on (hs (l, false)).2).2).2).2).2).2
        simp only [] at a1
        omega
      · exact ⟨⟨hz, hz, by simp, by simp⟩, by simp, by simp⟩
theorem readR_two {l : List UInt8} {n : Nat} {s0 s : Src} {t : List Itm} (h1 : nmR (l, false) = (n, s0)) (h2 : rdItemsR n s0 = (t, s)) : readR 2 l = (⟨2, [], t, str [], [], 0, 0, str []⟩, s.2) := by
  unfold readR
  rw [if_neg (by decide), if_pos rfl]
  simp only [h1, h2]
theorem readR_three {l : List UInt8} {tr : ByteArray} {n st au k : Nat} {s1 s2 s3 s4 s5 s6 s7 : Src} {ps : List ByteArray} {m : List UInt8} (h1 : hs (l, false) = (tr, s1)) (h2 : on s1 = (n, s2)) (h3 : rdPars n s2 = (ps, s3)) (h4 : nmR s3 = (st, s4)) (h5 : nmR s4 = (au, s5)) (h6 : nmR s5 = (k, s6)) (h7 : tk k s6 = (m, s7)) :
    readR 3 l = (⟨3, [], [], tr, ps, st, au, str m⟩, s7.2) := by
  unfold readR
  rw [if_neg (by decide), if_neg (by decide), if_pos rfl]
  simp only [h1, h2, h3, h4, h5, h6, h7]
end Go.Mx
