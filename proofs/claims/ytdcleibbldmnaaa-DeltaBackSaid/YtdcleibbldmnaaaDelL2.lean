/- Chapter 9's statements walked: Short, Back. -/
import Derived.Test.YtdcleibbldmnaaaDelL
import Derived.Test.YtdcleibbldmnaaaDelZ
namespace Go.Proofs.Ytdcleibbldmnaaa
open Go.RowKit Go.Mx

theorem deltaShortRow (vb : Value) (b : List UInt8) {w : World} (hb : Sl w 1 vb b.length (bs b)) (_w : World) (hI : IndexOk w) :
    Calls Try.prog 5 #[vb] w fun e w' => e = .returned (.bool true) ∧ Below w.heap.size w w' := by
  have HB := Mx.hid hb
  obtain ⟨bo, bc, rfl, _⟩ := id hb
  clear hb
  go_enter Try.func5, Try.ntmps5
  go_wp2_with fail
  refine (first_any _ hI).mono ?_
  rintro e w1 ⟨rfl, hs1⟩
  by_cases hl : b.length ≤ 2000
  · have b1 : ¬ ((2000 : Int) < (b.length : Int)) := by omega
    go_wp2_with fail
    refine (make_any w1 _ _ b b (hs1.old HB.out) (hs1.old HB.out) (by omega) (by omega) (hI.keep hs1)).mono ?_
    rintro e w2 ⟨d, rfl, hd⟩
    have hs2 := hs1.call1 hd
    go_wp2_with fail
    refine (make_any w2 _ _ [] b (Sl.nil _ 1) (hs2.old HB.out) (by simp) (by omega) (hI.keep hs2)).mono ?_
    rintro e w3 ⟨f, rfl, hf⟩
    have hs3 := hs2.call1 hf
    obtain ⟨q1, q2⟩ := short_self hl
    obtain ⟨q3, q4⟩ := short_none hl
    have a1 := ap_make b b (by omega) (by omega)
    have a2 := ap_make [] b (by simp) (by omega)
    have A1 := Mx.hid a1
    have A2 := Mx.hid a2
    clear a1 a2
    generalize makeR b b = D at *
    generalize makeR [] b = F at *
    obtain ⟨dp, dc, rfl, _⟩ := id hs3.sl1
    obtain ⟨fp, fc, rfl, _⟩ := id hs3.sl0
    go_wp2_with fail
    refine (apply_any w3 _ _ b D (hs3.old HB.out) hs3.sl1 (by omega) (by omega)).mono ?_
    rintro e w4 ⟨x, he, hx⟩
    rw [A1.out] at he hx
    subst he
    have hs4 := hs3.call1 hx
    go_wp2_with fail
    refine (apply_any w4 _ _ [] F (Sl.nil _ 1) (hs4.sl (r := byr _ F) (by simp)) (by simp) (by omega)).mono ?_
    rintro e w5 ⟨y, he, hy⟩
    rw [A2.out] at he hy
    subst he
    have hs5 := hs4.call1 hy
    go_wp2_with (first | ((with_reducible show wpList _ _ _ _ _ _); refine wpl_want rfl ?_))
    refine (bytes_any _ _ b b w5 hs5.sl1 (hs5.old HB.out)).mono ?_
    rintro e w' ⟨rfl, rfl⟩
    rw [decide_eq_true rfl]
    go_wp2_with (first | ((with_reducible show wpList _ _ _ _ _ _); refine wpl_want rfl ?_))
    refine (bytes_any _ _ b b w5 hs5.sl0 (hs5.old HB.out)).mono ?_
    rintro e w' ⟨rfl, rfl⟩
    rw [decide_eq_true rfl]
    generalize hdl : D.length = dl at *
    generalize hfl : F.length = fl at *
    have c1 : decide (fl < b.length) = false := decide_eq_false (by omega)
    have c2 : decide ((b.length : Int) + 6 < (fl : Int)) = false := decide_eq_false (by omega)
    go_wp2_with (first | ((with_reducible show wpList _ _ _ _ _ _); refine wpl_want rfl ?_))
    refine (first_any _ (hI.keep hs5)).mono ?_
    rintro e w6 ⟨rfl, hk6⟩
    have hs6 := hs5.call0 hk6
    have c3 : decide ((dl : Int) ≤ (b.length : Int) + 7) = true := decide_eq_true (by omega)
    by_cases h8 : b.length < 8
    · have c4 : decide ((b.length : Int) < 8) = true := decide_eq_true (by omega)
      clear h8 q1 q2 q3 q4
      go_wp2_with (first | ((with_reducible show wpList _ _ _ _ _ _); refine wpl_want rfl ?_))
      go_ret
      exact ⟨rfl, hs6.below⟩
    · have c4 : decide ((b.length : Int) < 8) = false := decide_eq_false (by omega)
      have c5 : decide ((dl : Int) ≤ 8) = true := decide_eq_true (by have := q2 (by omega); omega)
      clear h8 q1 q2 q3 q4
      go_wp2_with (first | ((with_reducible show wpList _ _ _ _ _ _); refine wpl_want rfl ?_))
      go_ret
      exact ⟨rfl, hs6.below⟩
  · have b1 : ((2000 : Int) < (b.length : Int)) := by omega
    go_wp2_with (first | ((with_reducible show wpList _ _ _ _ _ _); refine wpl_want rfl ?_))
    refine (first_any _ (hI.keep hs1)).mono ?_
    rintro e w2 ⟨rfl, hs2⟩
    go_wp2_with fail
    go_ret
    exact ⟨rfl, (hs1.call0 hs2).below⟩



set_option maxHeartbeats 1000000 in
theorem deltaBackRow (va : Value) (a : List UInt8) {w : World} (ha : Sl w 1 va a.length (bs a)) (vb : Value) (b : List UInt8) (hb : Sl w 1 vb b.length (bs b)) (vc : Value) (c : List UInt8) (hc : Sl w 1 vc c.length (bs c)) (cut : Int) (_wc : (Lit.int .i64 cut).wf = true) (_w : World) (hI : IndexOk w) :
    Calls Try.prog 8 #[va, vb, vc, .int .i64 cut] w fun e w' => e = .returned (.bool true) ∧ Below w.heap.size w w' := by
  have HA := Mx.hid ha
  have HB := Mx.hid hb
  have HC := Mx.hid hc
  obtain ⟨ao, ac, rfl, _⟩ := id ha
  obtain ⟨bo, bc, rfl, _⟩ := id hb
  obtain ⟨co, cc, rfl, _⟩ := id hc
  clear ha hb hc
  go_enter Try.func8, Try.ntmps8
  go_wp2_with fail
  refine (first_any _ hI).mono ?_
  rintro e w1 ⟨rfl, hs1⟩
  go_wp2_with fail
  refine (few_any w1 _ _ a b (hs1.old HA.out) (hs1.old HB.out)).mono ?_
  rintro e w2 ⟨rfl, rfl⟩
  by_cases hf : a.length ≤ 2000 ∧ b.length ≤ 2000
  · have e1 : (decide (a.length ≤ 2000) && decide (b.length ≤ 2000)) = true := by simp [hf]
    rw [e1]
    obtain ⟨la, lb⟩ := hf
    clear e1
    by_cases lc : c.length ≤ 2000
    · have b1 : ¬ ((2000 : Int) < (c.length : Int)) := by omega
      go_wp2_with (first | ((with_reducible show wpList _ _ _ _ _ _); refine wpl_want rfl ?_))
      refine (make_any w1 _ _ a b (hs1.old HA.out) (hs1.old HB.out) (by omega) (by omega) (hI.keep hs1)).mono ?_
      rintro e w2 ⟨d, rfl, hd⟩
      have hs2 := hs1.call1 hd
      have hL : (makeR a b).length ≤ 100010 := make_len (by omega) (by omega)
      have a1 := ap_make a b (by omega) (by omega)
      have a2 := sz_make a b (by omega) (by omega)
      have a3 := fun h => ap_other a b c (by omega) (by omega) h
      have A1 := Mx.hid a1
      have A2 := Mx.hid a2
      have A3 := Mx.hid @a3
      clear a1 a2 a3
      generalize makeR a b = D at *
      obtain ⟨dp, dc, rfl, _⟩ := id hs2.sl0
      go_wp2_with fail
      refine (apply_any w2 _ _ a D (hs2.old HA.out) hs2.sl0 (by omega) (by omega)).mono ?_
      rintro e w3 ⟨x, he, hx⟩
      rw [A1.out] at he hx
      subst he
      have hs3 := hs2.call1 hx
      go_wp2_with fail
      refine (sizes_any w3 _ D hs3.sl1 (by omega)).mono ?_
      rintro e w4 ⟨rfl, hk4⟩
      rw [A2.out.1, A2.out.2.1, A2.out.2.2]
      have hs4 := hs3.call0 hk4
      go_wp2_with (first | ((with_reducible show wpList _ _ _ _ _ _); refine wpl_want rfl ?_))
      refine (bytes_any _ _ b b w4 hs4.sl0 (hs4.old HB.out)).mono ?_
      rintro e w' ⟨rfl, rfl⟩
      rw [decide_eq_true rfl]
      go_wp2_with (first | ((with_reducible show wpList _ _ _ _ _ _); refine wpl_want rfl ?_))
      refine (apply_any w4 _ _ c D (hs4.old HC.out) hs4.sl1 (by omega) (by omega)).mono ?_
      rintro e w5 ⟨y, rfl, hy⟩
      have hs5 := hs4.call1 hy
      have hA3 : (c.length : Int) = a.length ∨ ((c.length : Int) ≠ a.length ∧ (apR c D).1 = 5) := by
        by_cases h : c.length = a.length
        · exact .inl (by omega)
        · exact .inr ⟨by omega, by rw [A3.out h]⟩
      generalize (apR c D).1 = g at *
      generalize (apR c D).2 = gy at *
      have hdd := Mx.hid (hs5.sl (r := byr (.slice dp D.length dc) D) (by simp))
      have h0 : Hid ((apR a D).1 = 0) := Mx.hid (by rw [A1.out])
      have hcd : ∀ k : Nat, k < D.length → Hid ((apR a (D.take k)).1 ≠ 0 ∧ (apR a (D.take k)).2 = []) := fun k hk => Mx.hid ⟨ap_cut h0.out hk, ap_bad (ap_cut h0.out hk)⟩
      have HCD := Mx.hid hcd
      clear hcd A1 A2 A3 h0
      rcases hA3 with hA3 | ⟨hA3, rfl⟩
      · have d1 : ((c.length : Int) != (a.length : Int)) = false := by simp [hA3]
        clear hA3
        by_cases hn : cut < 0
        · have d2 : decide (cut < 0) = true := decide_eq_true hn
          clear hn
          go_wp2_with (first | ((with_reducible show wpList _ _ _ _ _ _); refine wpl_want rfl ?_))
          refine (first_any _ (hI.keep hs5)).mono ?_
          rintro e wz ⟨rfl, hz⟩
          go_wp2_with fail
          go_ret
          exact ⟨rfl, (hs5.call0 hz).below⟩
        · obtain ⟨k, rfl⟩ := Int.eq_ofNat_of_zero_le (show 0 ≤ cut by omega)
          have d2 : decide ((k : Int) < 0) = false := decide_eq_false hn
          clear hn
          by_cases hk : D.length ≤ k
          · have d3 : decide (D.length ≤ k) = true := decide_eq_true hk
            have d4 : ((D.length : Int) ≤ (k : Int)) := by omega
            clear hk
            go_wp2_with (first | ((with_reducible show wpList _ _ _ _ _ _); refine wpl_want rfl ?_))
            refine (first_any _ (hI.keep hs5)).mono ?_
            rintro e wz ⟨rfl, hz⟩
            go_wp2_with fail
            go_ret
            exact ⟨rfl, (hs5.call0 hz).below⟩
          · have d3 : decide (D.length ≤ k) = false := decide_eq_false hk
            have hk' : k ≤ D.length := by omega
            have HK := HCD.out k (by omega)
            clear hk HCD
            obtain ⟨qo, qc, pq, qq⟩ := cutT hdd.out hk'
            have HQ := Mx.hid (qq _ hdd.out)
            clear qq
            go_wp2_with (first | ((with_reducible show wpList _ _ _ _ _ _); refine wpl_want rfl ?_))
            refine (apply_any w5 _ _ a (D.take k) (hs5.old HA.out) HQ.out (by omega) (by rw [List.length_take]; omega)).mono ?_
            rintro e w6 ⟨u, rfl, hu⟩
            have hs6 := hs5.call0 hu.bare
            obtain ⟨n1, n2⟩ := HK.out
            rw [n2] at hu
            generalize (apR a (D.take k)).1 = h at *
            have hu0 : Sl w6 1 u 0 [] := hu.sl0
            obtain ⟨uo, uc, rfl, _⟩ := hu0
            have d5 : (h != 0) = true := by simpa using n1
            clear n1 n2 HK
            go_wp2_with (first | ((with_reducible show wpList _ _ _ _ _ _); refine wpl_want rfl ?_))
            refine (first_any _ (hI.keep hs6)).mono ?_
            rintro e wz ⟨rfl, hz⟩
            go_wp2_with (first | ((with_reducible show wpList _ _ _ _ _ _); refine wpl_want rfl ?_))
            go_ret
            exact ⟨rfl, (hs6.call0 hz).below⟩
      · have d1 : ((c.length : Int) != (a.length : Int)) = true := by simpa using hA3
        clear hA3
        by_cases hn : cut < 0
        · have d2 : decide (cut < 0) = true := decide_eq_true hn
          clear hn
          go_wp2_with (first | ((with_reducible show wpList _ _ _ _ _ _); refine wpl_want rfl ?_))
          refine (first_any _ (hI.keep hs5)).mono ?_
          rintro e wz ⟨rfl, hz⟩
          go_wp2_with fail
          go_ret
          exact ⟨rfl, (hs5.call0 hz).below⟩
        · obtain ⟨k, rfl⟩ := Int.eq_ofNat_of_zero_le (show 0 ≤ cut by omega)
          have d2 : decide ((k : Int) < 0) = false := decide_eq_false hn
          clear hn
          by_cases hk : D.length ≤ k
          · have d3 : decide (D.length ≤ k) = true := decide_eq_true hk
            have d4 : ((D.length : Int) ≤ (k : Int)) := by omega
            clear hk
            go_wp2_with (first | ((with_reducible show wpList _ _ _ _ _ _); refine wpl_want rfl ?_))
            refine (first_any _ (hI.keep hs5)).mono ?_
            rintro e wz ⟨rfl, hz⟩
            go_wp2_with fail
            go_ret
            exact ⟨rfl, (hs5.call0 hz).below⟩
          · have d3 : decide (D.length ≤ k) = false := decide_eq_false hk
            have hk' : k ≤ D.length := by omega
            have HK := HCD.out k (by omega)
            clear hk HCD
            obtain ⟨qo, qc, pq, qq⟩ := cutT hdd.out hk'
            have HQ := Mx.hid (qq _ hdd.out)
            clear qq
            go_wp2_with (first | ((with_reducible show wpList _ _ _ _ _ _); refine wpl_want rfl ?_))
            refine (apply_any w5 _ _ a (D.take k) (hs5.old HA.out) HQ.out (by omega) (by rw [List.length_take]; omega)).mono ?_
            rintro e w6 ⟨u, rfl, hu⟩
            have hs6 := hs5.call0 hu.bare
            obtain ⟨n1, n2⟩ := HK.out
            rw [n2] at hu
            generalize (apR a (D.take k)).1 = h at *
            have hu0 : Sl w6 1 u 0 [] := hu.sl0
            obtain ⟨uo, uc, rfl, _⟩ := hu0
            have d5 : (h != 0) = true := by simpa using n1
            clear n1 n2 HK
            go_wp2_with (first | ((with_reducible show wpList _ _ _ _ _ _); refine wpl_want rfl ?_))
            refine (first_any _ (hI.keep hs6)).mono ?_
            rintro e wz ⟨rfl, hz⟩
            go_wp2_with (first | ((with_reducible show wpList _ _ _ _ _ _); refine wpl_want rfl ?_))
            go_ret
            exact ⟨rfl, (hs6.call0 hz).below⟩
    · have b1 : ((2000 : Int) < (c.length : Int)) := by omega
      go_wp2_with (first | ((with_reducible show wpList _ _ _ _ _ _); refine wpl_want rfl ?_))
      refine (first_any _ (hI.keep hs1)).mono ?_
      rintro e wz ⟨rfl, hz⟩
      go_wp2_with fail
      go_ret
      exact ⟨rfl, (hs1.call0 hz).below⟩
  · have e1 : (decide (a.length ≤ 2000) && decide (b.length ≤ 2000)) = false := by
      rw [Bool.and_eq_false_iff, decide_eq_false_iff_not, decide_eq_false_iff_not]; omega
    rw [e1]
    clear e1 hf
    go_wp2_with (first | ((with_reducible show wpList _ _ _ _ _ _); refine wpl_want rfl ?_))
    refine (first_any _ (hI.keep hs1)).mono ?_
    rintro e wz ⟨rfl, hz⟩
    go_wp2_with fail
    go_ret
    exact ⟨rfl, (hs1.call0 hz).below⟩
end Go.Proofs.Ytdcleibbldmnaaa
