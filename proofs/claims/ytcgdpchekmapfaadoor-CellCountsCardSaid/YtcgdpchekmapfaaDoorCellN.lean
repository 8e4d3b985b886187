/- marlaw3.CellCounts. -/
import Derived.Test.YtcgdpchekmapfaaDoorCellT
import Derived.Test.YtcgdpchekmapfaaDoorRowCell
namespace Go.Proofs.YtcgdpchekmapfaaDoor
open Go.RowKit Go.Mx

set_option maxRecDepth 100000 in
set_option maxHeartbeats 4000000 in
theorem cellCountsRow (v : Value) (l : List (Int × Int)) {w : World} (hv : Sl w 2 v l.length (l.flatMap opRow)) (hl : ∀ x ∈ l, OpOk x) (_w : World) (hL : Laid w) :
    Calls Tryd.prog 12 #[v] w fun e w' => e = .returned (.bool true) ∧ Below w.heap.size w w' := by
  have HL := Mx.hid (fun w' (R : List Row) (Q : List Rd) (h : St w w' R Q) => hL.keep h)
  obtain ⟨ao, cap, blk, off, rfl, hc1, hc2, _, hcell⟩ := hv.any
  have HC := Mx.hid (fun (i : Nat) (hi : i < l.length) => (show ao = some ⟨blk, off, none⟩ ∧ w.cell? ⟨blk, off + i * 2, none⟩ = some (.int .i64 l[i].1) ∧ w.cell? ⟨blk, off + i * 2 + 1, none⟩ = some (.int .i64 l[i].2) from by
    have g0 := hcell (i * 2 + 0) _ ((flat_get (k := 2) (fun _ => rfl) l (by omega) hi).trans (show (opRow l[i])[0]? = some (.int .i64 l[i].1) from rfl))
    have g1 := hcell (i * 2 + 1) _ ((flat_get (k := 2) (fun _ => rfl) l (by omega) hi).trans (show (opRow l[i])[1]? = some (.int .i64 l[i].2) from rfl))
    exact ⟨g0.1, g0.2, g1.2⟩))
  have HB := Mx.hid (fun (i : Nat) (hi : i < l.length) => hl l[i] (List.getElem_mem hi))
  clear hcell hv hl
  go_enter Tryd.func12, Tryd.ntmps12
  go_wp2_with fail
  refine (cfirst_any w hL).mono ?_
  rintro e w1 ⟨rfl, hs1⟩
  clear hL
  go_wp2_with (first | ((with_reducible show wpList _ _ _ _ _ _); refine wpl_want rfl ?_))
  refine (newct_any w1).mono ?_
  rintro e w2 ⟨g, rfl, hk⟩
  have hs2 : St w w2 [CT g 0] [] := hs1.call hk
  clear hs1 hk
  have hend : ∀ (w' : World) (R : List Row) (Q : List Rd), St w w' R Q → Calls Tryd.prog 33 #[] w' fun e w'' => e = .returned (.bool true) ∧ St w w'' R Q := fun w' R Q h => (cfirst_any _ (HL.out _ _ _ h)).mono fun _ _ ⟨h1, h2⟩ => ⟨h1, h.call0 h2⟩
  have HE := Mx.hid hend
  clear hend
  by_cases hbig : 300 < l.length
  · have d3 : decide ((300 : Int) < (l.length : Int)) = true := decide_eq_true (by omega)
    go_wp2_with (first | ((with_reducible show wpList _ _ _ _ _ _); refine wpl_want rfl ?_) | (go_at_call 33; refine (HE.out _ _ _ hs2).mono ?_; rintro e w3 ⟨rfl, hs3⟩))
    go_ret
    exact ⟨rfl, hs3.below⟩
  have d3 : decide ((300 : Int) < (l.length : Int)) = false := decide_eq_false (by omega)
  have k3 : l.length ≤ 300 := by omega
  clear hbig
  have HS2 := Mx.hid hs2
  clear hs2
  go_wp2_with (first | ((with_reducible show wpList _ _ _ _ _ _); refine wpl_want rfl ?_))
  go_loopw [4, 5] (fun x y wr => ∃ (i : Nat) (n : Int), i ≤ l.length ∧ -9223372036854775808 ≤ n ∧ n ≤ 9223372036854775807 ∧ x = .int .i64 n ∧ y = .int .i64 i ∧ St w wr [CT g n] []) (fun _ y _ => l.length - (intOf y).toNat)
  case atStart => exact ⟨0, 0, by omega, by omega, by omega, rfl, rfl, HS2.out⟩
  case round =>
    obtain ⟨i, n, hi, hn0, hn1, rfl, rfl, hs⟩ := hrel
    clear HS2
    by_cases hlt : i < l.length
    · obtain ⟨rfl, c0, c1⟩ := HC.out i hlt
      obtain ⟨⟨b1, b2⟩, b3, b4⟩ := HB.out i hlt
      have c2 := hs.keep c0
      have c3 := hs.keep c1
      have HX := Mx.hid (fun (w' : World) (R : List Row) (Q : List Rd) (h : St w w' R Q) => h.keep c1)
      clear c0 c1
      generalize l[i].1 = k at *
      generalize l[i].2 = x at *
      by_cases hk : k = 0
      · subst hk
        have hw : -9223372036854775808 ≤ wrap64 (n + x) ∧ wrap64 (n + x) ≤ 9223372036854775807 := by unfold wrap64; omega
        obtain ⟨hw1, hw2⟩ := hw
        have HA := Mx.hid (fun wx (h : St w wx [CT g n] []) => ctadd_any w wx [] [] g n x h)
        have hm : IntKind.i64.wrap (n + x) = wrap64 (n + x) := by simp [wrap64, IntKind.wrap_i64]
        generalize wrap64 (n + x) = m at *
        go_wp2_with (first | (go_at_call 43; refine (HA.out _ hs).mono ?_; rintro e w3 ⟨rfl, hs3⟩) | (go_at_call 45; refine (ctget_any w w3 [] [] g m hw1 hw2 hs3).mono ?_; rintro e w' ⟨rfl, rfl⟩))
        case roundEnd => exact ⟨⟨i + 1, m, by omega, hw1, hw2, rfl, by go_num, hs3⟩, by simp [intOf]; omega⟩
      · have q0 : (k == 0) = false := by simpa using hk
        by_cases hx0 : 0 ≤ x
        · by_cases hxn : x ≤ n
          · have q2 : decide (x ≤ n) = true := decide_eq_true hxn
            go_wp2_with (first | ((with_reducible show wpList _ _ _ _ _ _); refine wpl_want rfl ?_) | (go_at_call 44; refine (cttake_yes w wr [] [] g n x hn1 hx0 hxn hs).mono ?_; rintro e w4 ⟨rfl, hs4⟩; have c4 := HX.out _ _ _ hs4) | (go_at_call 45; refine (ctget_any w w4 [] [] g (n - x) (by omega) (by omega) hs4).mono ?_; rintro e w' ⟨rfl, rfl⟩))
            case roundEnd => exact ⟨⟨i + 1, n - x, by omega, by omega, by omega, rfl, by go_num, hs4⟩, by simp [intOf]; omega⟩
          · have q2 : decide (x ≤ n) = false := decide_eq_false hxn
            have hgt : n < x := by omega
            clear hxn
            go_wp2_with (first | ((with_reducible show wpList _ _ _ _ _ _); refine wpl_want rfl ?_) | (go_at_call 44; refine (cttake_no w wr [] [] g n x hn0 hn1 (.inr hgt) hs).mono ?_; rintro e w' ⟨rfl, rfl⟩) | (go_at_call 45; refine (ctget_any w wr [] [] g n hn0 hn1 hs).mono ?_; rintro e w' ⟨rfl, rfl⟩))
            case roundEnd => exact ⟨⟨i + 1, n, by omega, hn0, hn1, rfl, by go_num, hs⟩, by simp [intOf]; omega⟩
        · have hlt0 : x < 0 := by omega
          have q2 : decide (0 ≤ x) = false := decide_eq_false hx0
          clear hx0
          go_wp2_with (first | ((with_reducible show wpList _ _ _ _ _ _); refine wpl_want rfl ?_) | (go_at_call 44; refine (cttake_no w wr [] [] g n x hn0 hn1 (.inl hlt0) hs).mono ?_; rintro e w' ⟨rfl, rfl⟩) | (go_at_call 45; refine (ctget_any w wr [] [] g n hn0 hn1 hs).mono ?_; rintro e w' ⟨rfl, rfl⟩))
          case roundEnd => exact ⟨⟨i + 1, n, by omega, hn0, hn1, rfl, by go_num, hs⟩, by simp [intOf]; omega⟩
    · go_wp2_with (first | ((with_reducible show wpList _ _ _ _ _ _); refine wpl_want rfl ?_) | (go_at_call 33; refine (HE.out _ _ _ hs).mono ?_; rintro e w4 ⟨rfl, hs4⟩))
      go_ret
      exact ⟨rfl, hs4.below⟩
end Go.Proofs.YtcgdpchekmapfaaDoor
