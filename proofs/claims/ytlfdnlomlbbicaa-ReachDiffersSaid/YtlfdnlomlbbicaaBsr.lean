/- slices.BinarySearch over strings. -/
import Derived.Test.YtlfdnlomlbbicaaJBSrt
import Derived.Test.YtlfdnlomlbbicaaJDMet
namespace Go.Proofs.Ytlfdnlomlbbicaa
open Go.RowKit Go.Mx
theorem isNaN_any (s : ByteArray) (w : World) : Calls Try.prog 82 #[.string s] w fun e w' => e = .returned (.bool false) ∧ w = w' := by
  have h : (s.toList == s.toList) = true := by simp
  go_enter Try.func82, Try.ntmps82
  go_wp2_with (first | ((with_reducible show wpList _ _ _ _ _ _); refine wpl_want rfl ?_))
  go_ret
  exact ⟨by simp, rfl⟩
theorem cNaN_any (s : ByteArray) (w : World) : Calls Try.prog 91 #[.string s] w fun e w' => e = .returned (.bool false) ∧ w = w' := by
  have h : (s.toList == s.toList) = true := by simp
  go_enter Try.func91, Try.ntmps91
  go_wp2_with (first | ((with_reducible show wpList _ _ _ _ _ _); refine wpl_want rfl ?_))
  go_ret
  exact ⟨by simp, rfl⟩
theorem less_any (s t : ByteArray) (w : World) : Calls Try.prog 81 #[.string s, .string t] w fun e w' => e = .returned (.bool (lt s t)) ∧ w = w' := by
  go_enter Try.func81, Try.ntmps81
  go_wp2_with (first | ((with_reducible show wpList _ _ _ _ _ _); refine wpl_want rfl ?_) | (go_at_call 91; refine (cNaN_any _ _).mono ?_; rintro e w9 ⟨rfl, rfl⟩))
  go_ret
  exact ⟨rfl, rfl⟩
def BsrPost (T : List ByteArray) (x : ByteArray) (w : World) (e : Ending) (w' : World) : Prop :=
  ∃ k : Nat, e = .returned (.tuple #[.int .i64 k, .bool (memB T x)]) ∧ w = w'
theorem bs_lo {T : List ByteArray} (hT : Sorted T) {i : Nat} (hi : i < T.length) {x : ByteArray} (h : lt T[i] x = true) (k : Nat) (hk : k < i + 1) (hk2 : k < T.length) : lt T[k] x = true := by
  by_cases he : k = i
  · subst he; exact h
  · have h1 : lt T[i] T[k] = false := List.pairwise_iff_getElem.1 hT k i hk2 hi (by omega)
    cases hx : lt T[k] x with
    | true => rfl
    | false => rw [le_trans' hx h1] at h; cases h
theorem bs_hi {T : List ByteArray} (hT : Sorted T) {i : Nat} (hi : i < T.length) {x : ByteArray} (h : lt T[i] x = false) (k : Nat) (hk : i ≤ k) (hk2 : k < T.length) : lt T[k] x = false := by
  by_cases he : i = k
  · subst he; exact h
  · have h1 : lt T[k] T[i] = false := List.pairwise_iff_getElem.1 hT i k hi hk2 (by omega)
    exact le_trans' h h1
set_option maxRecDepth 100000 in
set_option maxHeartbeats 2000000 in
theorem bsr_any (v : Value) (T : List ByteArray) (x : ByteArray) (w : World) (hv : Sl w 1 v T.length (ss T)) (hT : Sorted T) (hl : T.length ≤ 1000000) :
    Calls Try.prog 64 #[v, .string x] w (BsrPost T x w) := by
  obtain ⟨ao, cap, blk, off, rfl, h1, h2, _, hcc⟩ := hv.txt
  have HC := Mx.hid hcc
  have HT := Mx.hid hT
  clear hv hcc hT
  go_enter Try.func64, Try.ntmps64
  go_wp2_with fail
  go_loopw [7, 8] (fun y z wr => ∃ i j : Nat, y = .int .i64 i ∧ z = .int .i64 j ∧ i ≤ j ∧ j ≤ T.length ∧ Hid (∀ k (hk : k < T.length), k < i → lt T[k] x = true) ∧ Hid (∀ k (hk : k < T.length), j ≤ k → lt T[k] x = false) ∧ w = wr) (fun y z _ => (intOf z).toNat - (intOf y).toNat)
  case atStart => exact ⟨0, T.length, rfl, rfl, by omega, by omega, Mx.hid (fun k _ h => by omega), Mx.hid (fun k h1 h2 => by omega), rfl⟩
  case round =>
    obtain ⟨i, j, rfl, rfl, hij, hj, HI, HJ, rfl⟩ := hrel
    by_cases hlt : i < j
    · obtain ⟨m, hm⟩ : ∃ m, m = (i + j) / 2 := ⟨_, rfl⟩
      have hm1 : i ≤ m := by omega
      have hm2 : m < j := by omega
      have hmT : m < T.length := by omega
      have hmz : ((i : Int) + (j : Int)) / 2 = (m : Int) := by omega
      clear hm
      obtain ⟨rfl, c0⟩ := HC.out m hmT
      have HX := Mx.hid (less_any T[m] x w)
      cases hb : lt T[m] x with
      | true =>
        have HI2 := Mx.hid (fun k (hk : k < T.length) (h : k < m + 1) => bs_lo HT.out hmT hb k h hk)
        rw [hb] at HX
        clear hb
        generalize T[m] = y at *
        go_wp2_with (go_at_call 81; refine HX.out.mono ?_; rintro e w2 ⟨rfl, rfl⟩)
        exact ⟨⟨m + 1, j, by go_num, rfl, by omega, by omega, HI2, HJ, (by trivial)⟩, by simp [intOf]; omega⟩
      | false =>
        have HJ2 := Mx.hid (fun k (hk : k < T.length) (h : m ≤ k) => bs_hi HT.out hmT hb k h hk)
        rw [hb] at HX
        clear hb
        generalize T[m] = y at *
        go_wp2_with (go_at_call 81; refine HX.out.mono ?_; rintro e w2 ⟨rfl, rfl⟩)
        exact ⟨⟨i, m, rfl, rfl, by omega, by omega, HI, HJ2, (by trivial)⟩, by simp [intOf]; omega⟩
    · obtain rfl : i = j := by omega
      by_cases hp : i < T.length
      · obtain ⟨rfl, c0⟩ := HC.out i hp
        have hge := HJ.out i hp (Nat.le_refl _)
        have HM := Mx.hid (show memB T x = decide (T[i] = x) by
          rw [Bool.eq_iff_iff, memB_iff, decide_eq_true_iff]
          constructor
          · intro hx
            obtain ⟨k, hk, rfl⟩ := List.getElem_of_mem hx
            by_cases hki : k < i
            · have := HI.out k hk hki
              rw [lt_irrefl] at this
              cases this
            · by_cases he : k = i
              · subst he; rfl
              · exact lt_total hge (List.pairwise_iff_getElem.1 HT.out i k hp hk (by omega))
          · intro h; rw [← h]; exact List.getElem_mem hp)
        clear hge HI HJ HT hij hlt
        generalize T[i] = y at *
        have HX := Mx.hid (isNaN_any y w)
        by_cases he : y = x
        · have hb : (y.toList == x.toList) = true := tx_beq he
          rw [decide_eq_true he] at HM
          clear he
          go_wp2_with (first | ((with_reducible show wpList _ _ _ _ _ _); refine wpl_want rfl ?_) | (go_at_call 82; refine HX.out.mono ?_; rintro e w2 ⟨rfl, rfl⟩))
          go_ret2
          exact ⟨i, by rw [HM.out]; rfl, rfl⟩
        · have hb : (y.toList == x.toList) = false := tx_bne he
          rw [decide_eq_false he] at HM
          clear he
          go_wp2_with (first | ((with_reducible show wpList _ _ _ _ _ _); refine wpl_want rfl ?_) | (go_at_call 82; refine HX.out.mono ?_; rintro e w2 ⟨rfl, rfl⟩))
          go_ret2
          exact ⟨i, by rw [HM.out]; rfl, rfl⟩
      · have HM := Mx.hid (show memB T x = false by
          rw [Bool.eq_false_iff]
          intro hx
          obtain ⟨k, hk, rfl⟩ := List.getElem_of_mem (memB_iff.1 hx)
          have := HI.out k hk (by omega)
          rw [lt_irrefl] at this
          cases this)
        clear HI HJ HT hij hlt
        go_wp2_with (first | ((with_reducible show wpList _ _ _ _ _ _); refine wpl_want rfl ?_))
        go_ret2
        exact ⟨i, by rw [HM.out]; rfl, rfl⟩
end Go.Proofs.Ytlfdnlomlbbicaa
