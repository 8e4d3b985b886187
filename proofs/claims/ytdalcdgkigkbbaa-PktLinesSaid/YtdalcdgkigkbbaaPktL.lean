/- The walk of marlaw21.PktLines: it returns true and leaves what was there as it was. -/
import Derived.Test.YtdalcdgkigkbbaaPktR
import Derived.Lib.SlBytesConst
namespace Go.Proofs.Ytdalcdgkigkbbaa
open Go.RowKit Go.Mx

theorem lists_same (v v' : Value) (ls : List (List UInt8)) (w : World) (hv : LL w v ls) (hv' : LL w v' ls) :
    Calls Try.prog 39 #[v, v'] w fun e w' => e = .returned (.bool true) ∧ St w w' [] [] := by
  obtain ⟨ao, cap, blk, off, us, rfl, h1, h2, hc, hd⟩ := hv.at
  obtain ⟨ao', cap', blk', off', us', rfl, h1', h2', hc', hd'⟩ := hv'.at
  clear hv hv'
  have HC := Mx.hid hc
  have HC' := Mx.hid hc'
  have HD := Mx.hid hd
  have HD' := Mx.hid hd'
  clear hc hc' hd hd'
  have hb : ((ls.length : Int) != (ls.length : Int)) = false := by simp
  go_enter Try.func39, Try.ntmps39
  go_wp2_with fail
  go_loopw [5] (fun x wr => ∃ i : Nat, i ≤ ls.length ∧ x = .int .i64 i ∧ St w wr [] []) (fun x _ => ls.length - (intOf x).toNat)
  case atStart => exact ⟨0, by omega, rfl, St.refl w⟩
  case round =>
    obtain ⟨i, hi, rfl, hs⟩ := hrel
    by_cases hlt : i < ls.length
    · obtain ⟨rfl, c1⟩ := HC.out i hlt
      obtain ⟨rfl, c2⟩ := HC'.out i hlt
      have c1 := hs.keep c1
      have c2 := hs.keep c2
      have d1 := hs.old (HD.out i hlt)
      have d2 := hs.old (HD'.out i hlt)
      have hii : (i : Int) < (ls.length : Int) := by omega
      obtain ⟨z1, y1, e1, _⟩ := d1
      have d1 := hs.old (HD.out i hlt)
      obtain ⟨z2, y2, e2, _⟩ := d2
      have d2 := hs.old (HD'.out i hlt)
      rw [e1] at c1 d1
      rw [e2] at c2 d2
      clear e1 e2
      have hX : ∀ w', St wr w' [] [] → Calls Try.prog 18 #[.slice z1 ls[i].length y1, .slice z2 ls[i].length y2] w' fun e w'' => e = .returned (.bool true) ∧ w'' = w' := fun w' h =>
        (bytes_any _ _ ls[i] ls[i] w' (h.old d1) (h.old d2)).mono fun e w'' g => by rw [decide_eq_true (rfl : ls[i] = ls[i])] at g; exact ⟨g.1, g.2.symm⟩
      have HX := Mx.hid hX
      clear hX
      go_wp2_with fail
      go_quiet ((go_at_call 18; exact Calls.quiet_of_same (HX.out _ ((St.refl wr).drewN _))))
      go_wp2_with fail
      go_roundw
      case rel => exact ⟨i + 1, by omega, by go_num, hs.drewN _⟩
      case measure => simp [intOf]; omega
    · go_wp2_with fail
      go_ret
      exact ⟨rfl, hs⟩

theorem lineS_hi : lineV [104, 105] = [48, 48, 48, 54, 104, 105] ∧ lineE [104, 105] = 0 := by decide +kernel
theorem linesS_hi : linesS [48, 48, 48, 54, 104, 105, 48, 48, 48, 48, 120] 0 [] = ([[104, 105]], 10, 0) := by
  rw [linesS, dif_pos (by decide), if_neg (by decide)]
  have e1 : lenI ((([48, 48, 48, 54, 104, 105, 48, 48, 48, 48, 120] : List UInt8).take (0 + 4)).drop 0) 0 = 6 := by decide +kernel
  simp only [e1]
  rw [if_neg (by decide), if_neg (by decide), if_neg (by decide)]
  rw [linesS, dif_pos (by decide), if_neg (by decide)]
  have e2 : lenI ((([48, 48, 48, 54, 104, 105, 48, 48, 48, 48, 120] : List UInt8).take (0 + (6 : Int).toNat + 4)).drop (0 + (6 : Int).toNat)) 0 = 0 := by decide +kernel
  simp only [e2]
  rfl

theorem firstPkt_any (w : World) : Calls Try.prog 34 #[] w fun e w' => e = .returned (.bool true) ∧ St w w' [] [] := by
  have kc := fun (w : World) (C : Array Value) (n c : Nat) => Lib.run_convert_bytes_const (P := Try.prog) w 22 5 C n c Try.underlying22 Try.underlying5
  have hq := (St.refl w).madeM #[.int .u8 104, .int .u8 105] 5 1 2 rfl (by simp [maxLen])
  go_enter Try.func34, Try.ntmps34
  go_wp2_with fail
  refine (Line_any _ [104, 105] _ hq.sl0 (by simp)).mono ?_
  rintro e w1 h1
  unfold LinePost at h1
  rw [lineS_hi.1, lineS_hi.2] at h1
  obtain ⟨v1, rfl, hs1⟩ := h1
  replace hs1 := hq.bare.call1 hs1
  clear hq
  have hq := hs1.madeM #[.int .u8 48, .int .u8 48, .int .u8 48, .int .u8 54, .int .u8 104, .int .u8 105, .int .u8 48, .int .u8 48, .int .u8 48, .int .u8 48, .int .u8 120] 5 1 11 rfl (by simp [maxLen])
  go_wp2_with fail
  refine (Lines_any _ [48, 48, 48, 54, 104, 105, 48, 48, 48, 48, 120] _ hq.sl0 (by simp)).mono ?_
  rintro e w2 h2
  unfold LinesPost at h2
  rw [linesS_hi] at h2
  obtain ⟨v2, rfl, hs2, hll⟩ := h2
  replace hs2 := hq.tail.call0 hs2
  clear hq hs1
  obtain ⟨ao, cap, blk, off, us, rfl, h1, h2, hc, hd⟩ := hll.at
  clear hll
  obtain ⟨rfl, c1⟩ := hc 0 (by simp)
  have d1 : Sl w2 1 (us 0) 2 (bs [104, 105]) := hd 0 (by simp)
  clear hc hd
  generalize us 0 = u0 at *
  rw [Nat.add_zero] at c1
  have ht1 : ((str [48, 48, 48, 54, 104, 105]).toList == [48, 48, 48, 54, 104, 105]) = true := by rw [str_toL]; rfl
  have ht2 : ((str [104, 105]).toList == [104, 105]) = true := by rw [str_toL]; rfl
  go_wp2_with (first | ((with_reducible show wpList _ _ _ _ _ _); refine wpl_want rfl ?_) | ((with_reducible show wpList _ _ _ _ _ _); refine wpl_b2s rfl 22 9 5 _ rfl Try.underlying22 Try.underlying5 Try.underlying9 (by exact hs2.sl0) ?_) | ((with_reducible show wpList _ _ _ _ _ _); refine wpl_b2s rfl 22 9 5 _ rfl Try.underlying22 Try.underlying5 Try.underlying9 (by exact d1) ?_))
  go_ret
  exact ⟨rfl, hs2.bare⟩

theorem LinePost.all {p : List UInt8} {w w' : World} {e : Ending} (h : LinePost p w e w') : ∃ v, e = .returned (.tuple #[v, .int .i64 (lineE p)]) ∧ St w w' [⟨v, 5, 1, (lineV p).length, bs (lineV p)⟩] [] := h

set_option maxRecDepth 100000 in
set_option maxHeartbeats 2000000 in
theorem pktLines_any (w : World) (v v' : Value) (p b : List UInt8) (hv : Sl w 1 v p.length (bs p)) (hv' : Sl w 1 v' b.length (bs b)) :
    Calls Try.prog 11 #[v, v'] w fun e w' => e = .returned (.bool true) ∧ Below w.heap.size w w' := by
  by_cases hb : 70000 < p.length ∨ 70000 < b.length
  · have hw : decide (70000 < (p.length : Int)) = true ∨ (decide (70000 < (p.length : Int)) = false ∧ decide (70000 < (b.length : Int)) = true) := by
      simp only [decide_eq_true_eq, decide_eq_false_iff_not]; omega
    rcases hw with h1 | ⟨h1, h2⟩
    all_goals
      go_enter Try.func11, Try.ntmps11
      go_wp2_with fail
      refine (firstPkt_any _).mono ?_
      rintro e w1 ⟨rfl, hs1⟩
      go_wp2_with (first | ((with_reducible show wpList _ _ _ _ _ _); refine wpl_want rfl ?_) | ((with_reducible show wpList _ _ _ _ _ _); refine wpl_len rfl 22 5 _ rfl Try.underlying22 (by exact hs1.old hv) ?_) | ((with_reducible show wpList _ _ _ _ _ _); refine wpl_len rfl 22 5 _ rfl Try.underlying22 (by exact hs1.old hv') ?_) | (go_at_call 34; refine (firstPkt_any _).mono ?_; rintro e w2 ⟨rfl, hs2⟩))
      go_ret
      exact ⟨rfl, (hs1.call0 hs2).below⟩
  · have h1 : decide (70000 < (p.length : Int)) = false := decide_eq_false (by omega)
    have h2 : decide (70000 < (b.length : Int)) = false := decide_eq_false (by omega)
    go_enter Try.func11, Try.ntmps11
    go_wp2_with fail
    refine (firstPkt_any _).mono ?_
    rintro e w1 ⟨rfl, hs1⟩
    go_wp2_with (first | ((with_reducible show wpList _ _ _ _ _ _); refine wpl_want rfl ?_) | ((with_reducible show wpList _ _ _ _ _ _); refine wpl_len rfl 22 5 _ rfl Try.underlying22 (by exact hs1.old hv) ?_) | ((with_reducible show wpList _ _ _ _ _ _); refine wpl_len rfl 22 5 _ rfl Try.underlying22 (by exact hs1.old hv') ?_))
    refine (copyBytes_any v' b _ (hs1.old hv') (by omega)).mono ?_
    rintro e w2 ⟨vi, rfl, hs2⟩
    replace hs2 := hs1.call1 hs2
    clear hs1
    go_wp2_with fail
    refine (Line_any v p _ (hs2.old hv) (by omega)).mono ?_
    intro e w3 h3
    obtain ⟨v3, rfl, hs3⟩ := h3.all
    replace hs3 := hs2.call1 hs3
    clear hs2 h3
    go_wp2_with fail
    refine (refLine_any v p _ (hs3.old hv) (by omega)).mono ?_
    intro e w4 h4
    obtain ⟨v4, rfl, hs4⟩ := h4.all
    replace hs4 := hs3.call1 hs4
    clear hs3 h4
    go_wp2_with fail
    refine (Lines_any vi b _ hs4.sl2 (by omega)).mono ?_
    intro e w5 h5
    unfold LinesPost at h5
    obtain ⟨v5, rfl, hs5, hl5⟩ := h5
    replace hs5 := hs4.call0 hs5
    clear hs4
    go_wp2_with fail
    refine (refLines_any v' b _ (hs5.old hv') (by omega)).mono ?_
    intro e w6 h6
    unfold LinesPost at h6
    obtain ⟨v6, rfl, hs6, hl6⟩ := h6
    replace hl5 := hl5.old hs6
    replace hs6 := hs5.call0 hs6
    clear hs5
    generalize linesS b 0 [] = G at *
    obtain ⟨g1, g2, g3⟩ := G
    generalize lineE p = E at *
    generalize lineV p = V at *
    have d1 : decide (V = V) = true := decide_eq_true rfl
    have d2 : decide (b = b) = true := decide_eq_true rfl
    go_wp2_with (first | ((with_reducible show wpList _ _ _ _ _ _); refine wpl_want rfl ?_) | (go_at_call 34; refine (firstPkt_any _).mono ?_; rintro e w7 ⟨rfl, hs7⟩; replace hl5 := hl5.old hs7; replace hl6 := hl6.old hs7; replace hs7 := hs6.call0 hs7) | (go_at_call 18; refine (bytes_any v3 v4 V V _ (by exact hs7.sl1) (by exact hs7.sl0)).mono ?_; rintro e w' ⟨rfl, rfl⟩) | (go_at_call 39; refine (lists_same v5 v6 g1 _ (by exact hl5) (by exact hl6)).mono ?_; rintro e w8 ⟨rfl, hs8⟩; replace hs8 := hs7.call0 hs8) | (go_at_call 18; refine (bytes_any vi v' b b _ (by exact hs8.sl2) (by exact hs8.old hv')).mono ?_; rintro e w' ⟨rfl, rfl⟩))
    go_ret
    exact ⟨rfl, hs8.below⟩

theorem pktLinesRow (v : Value) (p : List UInt8) {w : World} (hv : Sl w 1 v p.length (bs p)) (v' : Value) (b : List UInt8) (hv' : Sl w 1 v' b.length (bs b)) (_w : World) :
    Calls Try.prog 11 #[v, v'] w fun e w' => e = .returned (.bool true) ∧ Below w.heap.size w w' := pktLines_any w v v' p b hv hv'
end Go.Proofs.Ytdalcdgkigkbbaa
