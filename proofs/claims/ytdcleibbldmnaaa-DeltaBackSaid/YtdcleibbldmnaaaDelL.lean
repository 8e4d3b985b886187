/- Chapter 9's statements walked: first, Makes, Applies. -/
import Derived.Test.YtdcleibbldmnaaaDelY
namespace Go.Mx
open Go Go.RowKit
theorem St.madeMAt {w0 w : World} {R : List Row} {Q : List Rd} (h : St w0 w R Q) (cells : Array Value) (e : TypeId) (size n g : Nat) (hn : cells.size = n * size) (hm : n ≤ maxLen) (hg : g = w.heap.size) :
    St w0 (w.alloc (.cells cells e (cells.size, cells.size + 1))) (⟨.slice (some ⟨g, 0, none⟩) n n, e, size, n, cells.toList⟩ :: R) Q := by
  subst hg; exact h.madeM cells e size n hn hm
theorem putL_1 {n : Nat} (h : n < 128) : putL n = [UInt8.ofNat n] := by rw [putL, dif_pos h]
theorem first_mk : makeR [97, 98, 99, 100, 101, 102, 103, 104, 105, 106] [88, 97, 98, 99, 100, 101, 102, 103, 104, 105, 106] = [10, 11, 2, 1, 88, 1, 0, 10] := by
  have h1 : mtN [97, 98, 99, 100, 101, 102, 103, 104, 105, 106] [88, 97, 98, 99, 100, 101, 102, 103, 104, 105, 106] = 0 := by decide +kernel
  have h2 : mtN [97, 98, 99, 100, 101, 102, 103, 104, 105, 106] [97, 98, 99, 100, 101, 102, 103, 104, 105, 106] = 10 := by decide +kernel
  have h3 : mtP [97, 98, 99, 100, 101, 102, 103, 104, 105, 106] [97, 98, 99, 100, 101, 102, 103, 104, 105, 106] = 0 := by decide +kernel
  unfold makeR
  rw [mkR_cons, h1, if_neg (by decide), mkR_cons, h2, if_pos (by decide), h3]
  simp only [List.drop_succ_cons, List.nil_append, flR, List.length_cons, List.length_nil, Nat.zero_add, Nat.reduceAdd, Nat.reduceSub, reduceCtorEq, if_false, List.drop_nil]
  rw [mkR_nil, flR_nil, putL_1 (by decide), putL_1 (by decide), putL_1 (by decide), putL_1 (by decide)]
  rfl
end Go.Mx
namespace Go.Proofs.Ytdcleibbldmnaaa
open Go.RowKit Go.Mx

set_option maxRecDepth 100000 in
set_option maxHeartbeats 2000000 in
theorem first_any (w : World) (hI : IndexOk w) : Calls Try.prog 9 #[] w fun e w' => e = .returned (.bool true) ∧ St w w' [] [] := by
  have kc := fun (w : World) (C : Array Value) (n c : Nat) => Lib.run_convert_bytes_const (P := Try.prog) w 22 5 C n c Try.underlying22 Try.underlying5
  have kc2 := fun (w : World) (X : Obj) (C : Array Value) (n c : Nat) => heap_size_alloc w X ▸ kc (w.alloc X) C n c
  have q1 := (St.refl w).madeMAt #[.int .u8 97, .int .u8 98, .int .u8 99, .int .u8 100, .int .u8 101, .int .u8 102, .int .u8 103, .int .u8 104, .int .u8 105, .int .u8 106] 5 1 10 w.heap.size rfl (by simp [maxLen]) rfl
  have q2 := q1.madeMAt #[.int .u8 88, .int .u8 97, .int .u8 98, .int .u8 99, .int .u8 100, .int .u8 101, .int .u8 102, .int .u8 103, .int .u8 104, .int .u8 105, .int .u8 106] 5 1 11 (w.heap.size + 1) rfl (by simp [maxLen]) (heap_size_alloc _ _).symm
  have HQ := Mx.hid q2
  clear q1 q2
  go_enter Try.func9, Try.ntmps9
  go_wp2_with fail
  clear kc2
  refine (make_any _ _ _ [97, 98, 99, 100, 101, 102, 103, 104, 105, 106] [88, 97, 98, 99, 100, 101, 102, 103, 104, 105, 106] HQ.out.sl1 HQ.out.sl0 (by simp) (by simp) (hI.keep HQ.out)).mono ?_
  rintro e w1 ⟨v1, rfl, hs1⟩
  rw [first_mk] at hs1
  have hm := hs1.sl0
  have ht : ((str [10, 11, 2, 1, 88, 1, 0, 10]).toList == [10, 11, 2, 1, 88, 1, 0, 10]) = true := by rw [str_toL]; rfl
  go_wp2_with (first | ((with_reducible show wpList _ _ _ _ _ _); refine wpl_b2s rfl 22 9 5 _ rfl Try.underlying22 Try.underlying5 Try.underlying9 (by exact hm) ?_))
  go_ret
  exact ⟨rfl, HQ.out.bare.call0 hs1.bare⟩


theorem few_any (w : World) (va vb : Value) (a b : List UInt8) (ha : Sl w 1 va a.length (bs a)) (hb : Sl w 1 vb b.length (bs b)) :
    Calls Try.prog 10 #[va, vb] w fun e w' => e = .returned (.bool (decide (a.length ≤ 2000) && decide (b.length ≤ 2000))) ∧ w = w' := by
  obtain ⟨ao, ac, rfl, _⟩ := ha
  obtain ⟨bo, bc, rfl, _⟩ := hb
  by_cases h1 : a.length ≤ 2000
  · by_cases h2 : b.length ≤ 2000
    · have d1 : decide ((a.length : Int) ≤ 2000) = true := decide_eq_true (by omega)
      have d2 : decide ((b.length : Int) ≤ 2000) = true := decide_eq_true (by omega)
      have HH := Mx.hid (And.intro h1 h2)
      clear h1 h2
      go_enter Try.func10, Try.ntmps10
      go_wp2_with fail
      go_ret
      exact ⟨by rw [decide_eq_true HH.out.1, decide_eq_true HH.out.2]; rfl, rfl⟩
    · have d1 : decide ((a.length : Int) ≤ 2000) = true := decide_eq_true (by omega)
      have d2 : decide ((b.length : Int) ≤ 2000) = false := decide_eq_false (by omega)
      have HH := Mx.hid (And.intro h1 h2)
      clear h1 h2
      go_enter Try.func10, Try.ntmps10
      go_wp2_with fail
      go_ret
      exact ⟨by rw [decide_eq_true HH.out.1, decide_eq_false HH.out.2]; rfl, rfl⟩
  · have d1 : decide ((a.length : Int) ≤ 2000) = false := decide_eq_false (by omega)
    have HH := Mx.hid h1
    clear h1
    go_enter Try.func10, Try.ntmps10
    go_wp2_with fail
    go_ret
    exact ⟨by rw [decide_eq_false HH.out]; rfl, rfl⟩

theorem deltaMakesRow (va : Value) (a : List UInt8) {w : World} (ha : Sl w 1 va a.length (bs a)) (vb : Value) (b : List UInt8) (hb : Sl w 1 vb b.length (bs b)) (_w : World) (hI : IndexOk w) :
    Calls Try.prog 3 #[va, vb] w fun e w' => e = .returned (.bool true) ∧ Below w.heap.size w w' := by
  have HA := Mx.hid ha
  have HB := Mx.hid hb
  clear ha hb
  go_enter Try.func3, Try.ntmps3
  go_wp2_with fail
  refine (first_any _ hI).mono ?_
  rintro e w1 ⟨rfl, hs1⟩
  go_wp2_with fail
  refine (few_any w1 va vb a b (hs1.old HA.out) (hs1.old HB.out)).mono ?_
  rintro e w2 ⟨rfl, rfl⟩
  by_cases hf : a.length ≤ 2000 ∧ b.length ≤ 2000
  · have e1 : (decide (a.length ≤ 2000) && decide (b.length ≤ 2000)) = true := by simp [hf]
    rw [e1]
    obtain ⟨la, lb⟩ := hf
    clear e1
    go_wp2_with fail
    refine (copyBytes_any va a w1 (hs1.old HA.out) (by omega)).mono ?_
    rintro e w3 ⟨x, rfl, hx⟩
    go_wp2_with fail
    refine (copyBytes_any vb b w3 ((hs1.call0 hx.bare).old HB.out) (by omega)).mono ?_
    rintro e w4 ⟨y, rfl, hy⟩
    have hX := hs1.call1 hx
    have hXY := hX.call1 hy
    go_wp2_with fail
    refine (first_any _ (hI.keep hXY)).mono ?_
    rintro e w5 ⟨rfl, hs5⟩
    have hs6 := hXY.call0 hs5
    go_wp2_with (first | ((with_reducible show wpList _ _ _ _ _ _); refine wpl_want rfl ?_))
    refine (make_any w5 x y a b hs6.sl1 hs6.sl0 (by omega) (by omega) (hI.keep hs6)).mono ?_
    rintro e w6 ⟨d, rfl, hd⟩
    have hs7 := hs6.call1 hd
    go_wp2_with (first | ((with_reducible show wpList _ _ _ _ _ _); refine wpl_want rfl ?_))
    refine (refMake_any w6 va vb a b (hs7.old HA.out) (hs7.old HB.out) (by omega) (by omega)).mono ?_
    rintro e w7 ⟨d', rfl, hd'⟩
    have hs8 := hs7.call1 hd'
    go_wp2_with (first | ((with_reducible show wpList _ _ _ _ _ _); refine wpl_want rfl ?_))
    refine (bytes_any d d' _ _ w7 hs8.sl1 hs8.sl0).mono ?_
    rintro e w8 ⟨rfl, rfl⟩
    rw [decide_eq_true rfl]
    go_wp2_with (first | ((with_reducible show wpList _ _ _ _ _ _); refine wpl_want rfl ?_))
    refine (bytes_any x va a a w7 (hs8.sl (r := byr x a) (by simp)) (hs8.old HA.out)).mono ?_
    rintro e w8 ⟨rfl, rfl⟩
    rw [decide_eq_true rfl]
    go_wp2_with (first | ((with_reducible show wpList _ _ _ _ _ _); refine wpl_want rfl ?_))
    refine (bytes_any y vb b b w7 (hs8.sl (r := byr y b) (by simp)) (hs8.old HB.out)).mono ?_
    rintro e w8 ⟨rfl, rfl⟩
    rw [decide_eq_true rfl]
    go_wp2_with (first | ((with_reducible show wpList _ _ _ _ _ _); refine wpl_want rfl ?_))
    go_ret
    exact ⟨rfl, hs8.below⟩
  · have e1 : (decide (a.length ≤ 2000) && decide (b.length ≤ 2000)) = false := by
      rw [Bool.and_eq_false_iff, decide_eq_false_iff_not, decide_eq_false_iff_not]; omega
    rw [e1]
    clear e1 hf
    go_wp2_with fail
    refine (first_any _ (hI.keep hs1)).mono ?_
    rintro e w2 ⟨rfl, hs2⟩
    go_wp2_with fail
    go_ret
    exact ⟨rfl, (hs1.call0 hs2).below⟩

theorem deltaAppliesRow (va : Value) (a : List UInt8) {w : World} (ha : Sl w 1 va a.length (bs a)) (vd : Value) (d : List UInt8) (hd : Sl w 1 vd d.length (bs d)) (_w : World) (hI : IndexOk w) :
    Calls Try.prog 7 #[va, vd] w fun e w' => e = .returned (.bool true) ∧ Below w.heap.size w w' := by
  have HA := Mx.hid ha
  have HB := Mx.hid hd
  obtain ⟨ao, ac, rfl, _⟩ := id ha
  obtain ⟨bo, bc, rfl, _⟩ := id hd
  clear ha hd
  go_enter Try.func7, Try.ntmps7
  go_wp2_with fail
  refine (first_any _ hI).mono ?_
  rintro e w1 ⟨rfl, hs1⟩
  by_cases hl : a.length ≤ 30000 ∧ d.length ≤ 30000
  · obtain ⟨la, lb⟩ := hl
    have b1 : ¬ ((30000 : Int) < (a.length : Int)) := by omega
    have b2 : ¬ ((30000 : Int) < (d.length : Int)) := by omega
    go_wp2_with fail
    refine (copyBytes_any _ a w1 (hs1.old HA.out) (by omega)).mono ?_
    rintro e w3 ⟨x, rfl, hx⟩
    go_wp2_with fail
    refine (copyBytes_any _ d w3 ((hs1.call0 hx.bare).old HB.out) (by omega)).mono ?_
    rintro e w4 ⟨y, rfl, hy⟩
    have hX := hs1.call1 hx
    have hXY := hX.call1 hy
    obtain ⟨xo, xc, rfl, _⟩ := id hXY.sl1
    obtain ⟨yo, yc, rfl, _⟩ := id hXY.sl0
    go_wp2_with fail
    refine (apply_any w4 _ _ a d hXY.sl1 hXY.sl0 (by omega) (by omega)).mono ?_
    rintro e w5 ⟨t, rfl, ht⟩
    have hs5 := hXY.call1 ht
    generalize hae : (apR a d).1 = ae at *
    generalize hat : (apR a d).2 = at_ at *
    obtain ⟨to, tc, rfl, _⟩ := id ht.sl0
    go_wp2_with fail
    refine (refApply_any w5 _ _ a d (hs5.old HA.out) (hs5.old HB.out) (by omega) (by omega)).mono ?_
    rintro e w6 ⟨u, rfl, hu⟩
    rw [hae]
    rw [hat] at hu
    have hs6 := hs5.call1 hu
    obtain ⟨uo, uc, rfl, _⟩ := id hu.sl0
    go_wp2_with fail
    refine (sizes_any w6 _ d (hs6.sl (r := byr _ d) (by simp)) (by omega)).mono ?_
    rintro e w7 ⟨rfl, hk7⟩
    have hs7 := hs6.call0 hk7
    go_wp2_with fail
    refine (refSizes_any w7 _ d (hs7.old HB.out) (by omega)).mono ?_
    rintro e w8 ⟨rfl, hk8⟩
    have hs8 := hs7.call0 hk8
    generalize (szA d : Int) = sa
    generalize (szB d : Int) = sb
    generalize szE d = se
    go_wp2_with fail
    refine (first_any _ (hI.keep hs8)).mono ?_
    rintro e w9 ⟨rfl, hk9⟩
    have hs9 := hs8.call0 hk9
    go_wp2_with (first | ((with_reducible show wpList _ _ _ _ _ _); refine wpl_want rfl ?_))
    refine (bytes_any _ _ at_ at_ w9 hs9.sl1 hs9.sl0).mono ?_
    rintro e w' ⟨rfl, rfl⟩
    rw [decide_eq_true rfl]
    go_wp2_with (first | ((with_reducible show wpList _ _ _ _ _ _); refine wpl_want rfl ?_))
    refine (bytes_any _ _ a a w9 (hs9.sl (r := byr _ a) (by simp)) (hs9.old HA.out)).mono ?_
    rintro e w' ⟨rfl, rfl⟩
    rw [decide_eq_true rfl]
    go_wp2_with (first | ((with_reducible show wpList _ _ _ _ _ _); refine wpl_want rfl ?_))
    refine (bytes_any _ _ d d w9 (hs9.sl (r := byr _ d) (by simp)) (hs9.old HB.out)).mono ?_
    rintro e w' ⟨rfl, rfl⟩
    rw [decide_eq_true rfl]
    go_wp2_with (first | ((with_reducible show wpList _ _ _ _ _ _); refine wpl_want rfl ?_))
    go_ret
    exact ⟨rfl, hs9.below⟩
  · by_cases h1 : a.length ≤ 30000
    · have b1 : decide ((30000 : Int) < (a.length : Int)) = false := decide_eq_false (by omega)
      have b2 : decide ((30000 : Int) < (d.length : Int)) = true := decide_eq_true (by omega)
      clear hl h1
      go_wp2_with (first | ((with_reducible show wpList _ _ _ _ _ _); refine wpl_want rfl ?_))
      refine (first_any _ (hI.keep hs1)).mono ?_
      rintro e w2 ⟨rfl, hs2⟩
      go_wp2_with fail
      go_ret
      exact ⟨rfl, (hs1.call0 hs2).below⟩
    · have b1 : decide ((30000 : Int) < (a.length : Int)) = true := decide_eq_true (by omega)
      clear hl h1
      go_wp2_with (first | ((with_reducible show wpList _ _ _ _ _ _); refine wpl_want rfl ?_))
      refine (first_any _ (hI.keep hs1)).mono ?_
      rintro e w2 ⟨rfl, hs2⟩
      go_wp2_with fail
      go_ret
      exact ⟨rfl, (hs1.call0 hs2).below⟩
end Go.Proofs.Ytdcleibbldmnaaa
