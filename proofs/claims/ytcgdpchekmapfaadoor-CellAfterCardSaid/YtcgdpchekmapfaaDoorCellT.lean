/- marlaw3.CellTakes. -/
import Derived.Test.YtcgdpchekmapfaaDoorCellF
import Derived.Test.YtcgdpchekmapfaaDoorShaY
namespace Go.Mx
open Go Go.RowKit
/-- A slice that reads as cells, by its cells. -/
theorem Sl.any {w : World} {size : Nat} {v : Value} {n : Nat} {xs : List Value} (h : Sl w size v n xs) : ∃ ao cap blk off, v = .slice ao n cap ∧ n ≤ cap ∧ cap ≤ 9223372036854775807 ∧ xs.length = n * size ∧
    (∀ j u, xs[j]? = some u → ao = some ⟨blk, off, none⟩ ∧ w.cell? ⟨blk, off + j, none⟩ = some u) := by
  obtain ⟨ao, cap, rfl, h1, h2, h3, _, hc⟩ := h.form
  unfold maxLen at h2
  by_cases hnil : xs = []
  · subst hnil; exact ⟨ao, cap, 0, 0, rfl, h1, by omega, by omega, fun j u hu => by simp at hu⟩
  · obtain ⟨blk, off, rfl, hh⟩ := hc hnil
    exact ⟨_, cap, blk, off, rfl, h1, by omega, h3, fun j u hu => ⟨rfl, hh j u hu⟩⟩
theorem is_get {l : List Int} {k : Nat} (h : k < l.length) : (is l)[k]? = some (.int .i64 l[k]) := by simp [is, h]
end Go.Mx
namespace Go.Proofs.YtcgdpchekmapfaaDoor
open Go.RowKit Go.Mx

set_option maxRecDepth 100000 in
set_option maxHeartbeats 4000000 in
theorem cellTakesRow (sum : Int) (_wf : (Lit.int .i64 sum).wf = true) (v : Value) (l : List Int) {w : World} (hv : Sl w 1 v l.length (is l)) (_hl : ∀ x ∈ l, -9223372036854775808 ≤ x ∧ x ≤ 9223372036854775807) (_w : World) (hL : Laid w) :
    Calls Tryd.prog 13 #[.int .i64 sum, v] w fun e w' => e = .returned (.bool true) ∧ Below w.heap.size w w' := by
  have HL := Mx.hid (fun w' (R : List Row) (Q : List Rd) (h : St w w' R Q) => hL.keep h)
  have HV := Mx.hid hv
  obtain ⟨ao, cap, blk, off, rfl, hc1, hc2, _, hcell⟩ := hv.any
  have HC := Mx.hid hcell
  have hsb : -9223372036854775808 ≤ sum ∧ sum ≤ 9223372036854775807 := by simpa [Lit.wf, IntKind.min, IntKind.max, IntKind.signed, IntKind.bits] using _wf
  clear hcell hv _wf _hl
  go_enter Tryd.func13, Tryd.ntmps13
  go_wp2_with fail
  refine (cfirst_any w hL).mono ?_
  rintro e w1 ⟨rfl, hs1⟩
  clear hL
  go_wp2_with (first | ((with_reducible show wpList _ _ _ _ _ _); refine wpl_want rfl ?_))
  refine (newct_any w1).mono ?_
  rintro e w2 ⟨g, rfl, hk⟩
  have hs2 : St w w2 [CT g 0] [] := hs1.call hk
  clear hs1 hk
  have hend : ∀ (w' : World) (R : List Row) (Q : List Rd), St w w' R Q → Calls Tryd.prog 33 #[] w' fun e w'' => e = .returned (.bool true) ∧ St w w'' R Q := fun w' R Q h => (cfirst_any _ (HL.out _ _ _ h)).mono fun _ _ ⟨h1, h2⟩ => ⟨h1, h.call0 h2⟩
  have HE := Mx.hid hend
  clear hend
  by_cases hbig : sum < 0 ∨ 1099511627776 < sum ∨ 300 < l.length
  · have hb' : sum < 0 ∨ (0 ≤ sum ∧ 1099511627776 < sum) ∨ (0 ≤ sum ∧ sum ≤ 1099511627776 ∧ 300 < l.length) := by omega
    clear hbig
    rcases hb' with h | ⟨h, h2⟩ | ⟨h, h2, h3⟩
    · have d1 : decide (sum < 0) = true := decide_eq_true h
      go_wp2_with (first | ((with_reducible show wpList _ _ _ _ _ _); refine wpl_want rfl ?_) | (go_at_call 33; refine (HE.out _ _ _ hs2).mono ?_; rintro e w3 ⟨rfl, hs3⟩))
      go_ret
      exact ⟨rfl, hs3.below⟩
    · have d1 : decide (sum < 0) = false := decide_eq_false (by omega)
      have d2 : decide (1099511627776 < sum) = true := decide_eq_true h2
      go_wp2_with (first | ((with_reducible show wpList _ _ _ _ _ _); refine wpl_want rfl ?_) | (go_at_call 33; refine (HE.out _ _ _ hs2).mono ?_; rintro e w3 ⟨rfl, hs3⟩))
      go_ret
      exact ⟨rfl, hs3.below⟩
    · have d1 : decide (sum < 0) = false := decide_eq_false (by omega)
      have d2 : decide (1099511627776 < sum) = false := decide_eq_false (by omega)
      have d3 : decide ((300 : Int) < (l.length : Int)) = true := decide_eq_true (by omega)
      go_wp2_with (first | ((with_reducible show wpList _ _ _ _ _ _); refine wpl_want rfl ?_) | (go_at_call 33; refine (HE.out _ _ _ hs2).mono ?_; rintro e w3 ⟨rfl, hs3⟩))
      go_ret
      exact ⟨rfl, hs3.below⟩
  have d1 : decide (sum < 0) = false := decide_eq_false (by omega)
  have d2 : decide (1099511627776 < sum) = false := decide_eq_false (by omega)
  have d3 : decide ((300 : Int) < (l.length : Int)) = false := decide_eq_false (by omega)
  have k1 : 0 ≤ sum := by omega
  have k2 : sum ≤ 1099511627776 := by omega
  have k3 : l.length ≤ 300 := by omega
  clear hbig hsb
  go_wp2_with (first | ((with_reducible show wpList _ _ _ _ _ _); refine wpl_want rfl ?_))
  refine (ctadd_any w w2 [] [] g 0 sum hs2).mono ?_
  rintro e w3 ⟨rfl, hs3⟩
  rw [show wrap64 (0 + sum) = sum by rw [Int.zero_add]; exact IntWalk.wrap64_in _ (by omega)] at hs3 ⊢
  clear hs2 d1 d2 d3
  go_wp2_with fail
  go_loopw [6, 7] (fun x y wr => ∃ (i : Nat) (t : Int), i ≤ l.length ∧ 0 ≤ t ∧ t ≤ sum ∧ x = .int .i64 t ∧ y = .int .i64 i ∧ St w wr [CT g (sum - t)] []) (fun _ y _ => l.length - (intOf y).toNat)
  case atStart => exact ⟨0, 0, by omega, by omega, by omega, rfl, rfl, by rw [Int.sub_zero]; exact hs3⟩
  case round =>
    obtain ⟨i, t, hi, ht0, ht1, rfl, rfl, hs⟩ := hrel
    clear hs3
    by_cases hlt : i < l.length
    · obtain ⟨rfl, c0⟩ := HC.out i _ (is_get hlt)
      have c1 := hs.keep c0
      have HX := Mx.hid (fun (w' : World) (R : List Row) (Q : List Rd) (h : St w w' R Q) => h.keep c0)
      clear c0
      generalize l[i] = x at *
      by_cases hx : x < 0 ∨ 1000 < x
      · have hx' : x < 0 ∨ (0 ≤ x ∧ 1000 < x) := by omega
        clear hx
        rcases hx' with h | ⟨h, h2⟩
        · have e1 : decide (x < 0) = true := decide_eq_true h
          go_wp2_with (first | ((with_reducible show wpList _ _ _ _ _ _); refine wpl_want rfl ?_) | (go_at_call 33; refine (HE.out _ _ _ hs).mono ?_; rintro e w4 ⟨rfl, hs4⟩))
          go_ret
          exact ⟨rfl, hs4.below⟩
        · have e1 : decide (x < 0) = false := decide_eq_false (by omega)
          have e2 : decide (1000 < x) = true := decide_eq_true h2
          go_wp2_with (first | ((with_reducible show wpList _ _ _ _ _ _); refine wpl_want rfl ?_) | (go_at_call 33; refine (HE.out _ _ _ hs).mono ?_; rintro e w4 ⟨rfl, hs4⟩))
          go_ret
          exact ⟨rfl, hs4.below⟩
      · have e1 : decide (x < 0) = false := decide_eq_false (by omega)
        have e2 : decide (1000 < x) = false := decide_eq_false (by omega)
        have hx0 : 0 ≤ x := by omega
        have hx1 : x ≤ 1000 := by omega
        clear hx
        by_cases hle : x ≤ sum - t
        · go_wp2_with (first | ((with_reducible show wpList _ _ _ _ _ _); refine wpl_want rfl ?_) | (go_at_call 44; refine (cttake_yes w wr [] [] g (sum - t) x (by omega) hx0 hle hs).mono ?_; rintro e w4 ⟨rfl, hs4⟩; have c2 := HX.out _ _ _ hs4))
          go_roundw
          case rel => exact ⟨i + 1, t + x, by omega, by omega, by omega, rfl, by go_num, by rw [show sum - (t + x) = sum - t - x by omega]; exact hs4⟩
          case measure => simp [intOf]; omega
        · have e3 : decide (x ≤ sum - t) = false := decide_eq_false hle
          have hgt : sum - t < x := by omega
          clear hle
          go_wp2_with (first | ((with_reducible show wpList _ _ _ _ _ _); refine wpl_want rfl ?_) | (go_at_call 44; refine (cttake_no w wr [] [] g (sum - t) x (by omega) (by omega) (.inr hgt) hs).mono ?_; rintro e w' ⟨rfl, rfl⟩))
          go_roundw
          case rel => exact ⟨i + 1, t, by omega, by omega, by omega, rfl, by go_num, hs⟩
          case measure => simp [intOf]; omega
    · go_wp2_with (first | ((with_reducible show wpList _ _ _ _ _ _); refine wpl_want rfl ?_) | (go_at_call 33; refine (HE.out _ _ _ hs).mono ?_; rintro e w4 ⟨rfl, hs4⟩) | (go_at_call 45; refine (ctget_any w w4 [] [] g (sum - t) (by omega) (by omega) hs4).mono ?_; rintro e w' ⟨rfl, rfl⟩))
      go_ret
      exact ⟨rfl, hs4.below⟩
end Go.Proofs.YtcgdpchekmapfaaDoor
