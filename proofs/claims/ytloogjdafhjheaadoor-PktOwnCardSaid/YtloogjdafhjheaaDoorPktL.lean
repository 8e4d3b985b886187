/- The walk of marlaw21.PktLines: it returns true and leaves what was there as it was. -/
import Derived.Test.YtloogjdafhjheaaDoorPktR
import Derived.Lib.SlBytesConst
namespace Go.Proofs.YtloogjdafhjheaaDoor
open Go.RowKit Go.Mx

theorem lists_same (v v' : Value) (ls : List (List UInt8)) (w : World) (hv : LL w v ls) (hv' : LL w v' ls) :
    Calls Tryd.prog 21 #[v, v'] w fun e w' => e = .returned (.bool true) ∧ St w w' [] [] := by
  obtain ⟨ao, cap, blk, off, us, rfl, h1, h2, hc, hd⟩ := hv.at
  obtain ⟨ao', cap', blk', off', us', rfl, h1', h2', hc', hd'⟩ := hv'.at
  clear hv hv'
  have HC := Mx.hid hc
  have HC' := Mx.hid hc'
  have HD := Mx.hid hd
  have HD' := Mx.hid hd'
  clear hc hc' hd hd'
  have hb : ((ls.length : Int) != (ls.length : Int)) = false := by simp
  go_enter Tryd.func21, Tryd.ntmps21
  go_wp2_with fail
  go_loopw [5] (fun x wr => ∃ i : Nat, i ≤ ls.length ∧ x = .int .i64 i ∧ St w wr [] []) (fun x _ => ls.length - (intOf x).toNat)
  case atStart => exact ⟨0, by omega, rfl, St.refl w⟩
  case round =>
    obtain ⟨i, hi, rfl, hs⟩ := hrel
    by_cases hlt : i < ls.length
    · obtain ⟨rfl, c1⟩ := HC.out i hlt
      obtain ⟨rfl, c2⟩ := HC'.out i hlt
      have c1 := hs.keep c1
      have c2 := hs.keep c2
      have d1 := hs.old (HD.out i hlt)
      have d2 := hs.old (HD'.out i hlt)
      have hii : (i : Int) < (ls.length : Int) := by omega
      obtain ⟨z1, y1, e1, _⟩ := d1
      have d1 := hs.old (HD.out i hlt)
      obtain ⟨z2, y2, e2, _⟩ := d2
      have d2 := hs.old (HD'.out i hlt)
      rw [e1] at c1 d1
      rw [e2] at c2 d2
      clear e1 e2
      have hX : ∀ w', St wr w' [] [] → Calls Tryd.prog 14 #[.slice z1 ls[i].length y1, .slice z2 ls[i].length y2] w' fun e w'' => e = .returned (.bool true) ∧ w'' = w' := fun w' h =>
        (bytes_any _ _ ls[i] ls[i] w' (h.old d1) (h.old d2)).mono fun e w'' g => by rw [decide_eq_true (rfl : ls[i] = ls[i])] at g; exact ⟨g.1, g.2.symm⟩
      have HX := Mx.hid hX
      clear hX
      go_wp2_with fail
      go_quiet ((go_at_call 14; exact Calls.quiet_of_same (HX.out _ ((St.refl wr).drewN _))))
      go_wp2_with fail
      go_roundw
      case rel => exact ⟨i + 1, by omega, by go_num, hs.drewN _⟩
      case measure => simp [intOf]; omega
    · go_wp2_with fail
      go_ret
      exact ⟨rfl, hs⟩

theorem lineS_hi : lineV [104, 105] = [48, 48, 48, 54, 104, 105] ∧ lineE [104, 105] = 0 := by decide +kernel
theorem linesS_hi : linesS [48, 48, 48, 54, 104, 105, 48, 48, 48, 48, 120] 0 [] = ([[104, 105]], 10, 0) := by
  rw [linesS, dif_pos (by decide), if_neg (by decide)]
  have e1 : lenI ((([48, 48, 48, 54, 104, 105, 48, 48, 48, 48, 120] : List UInt8).take (0 + 4)).drop 0) 0 = 6 := by decide +kernel
  simp only [e1]
  rw [if_neg (by decide), if_neg (by decide), if_neg (by decide)]
  rw [linesS, dif_pos (by decide), if_neg (by decide)]
  have e2 : lenI ((([48, 48, 48, 54, 104, 105, 48, 48, 48, 48, 120] : List UInt8).take (0 + (6 : Int).toNat + 4)).drop (0 + (6 : Int).toNat)) 0 = 0 := by decide +kernel
  simp only [e2]
  rfl

theorem firstPkt_any (w : World) : Calls Tryd.prog 6 #[] w fun e w' => e = .returned (.bool true) ∧ St w w' [] [] := by
  have kc := fun (w : World) (C : Array Value) (n c : Nat) => Lib.run_convert_bytes_const (P := Tryd.prog) w 23 5 C n c Tryd.underlying23 Tryd.underlying5
  have hq := (St.refl w).madeM #[.int .u8 104, .int .u8 105] 5 1 2 rfl (by simp [maxLen])
  go_enter Tryd.func6, Tryd.ntmps6
  go_wp2_with fail
  refine (Line_any _ [104, 105] _ hq.sl0 (by simp)).mono ?_
  rintro e w1 h1
  unfold LinePost at h1
  rw [lineS_hi.1, lineS_hi.2] at h1
  obtain ⟨v1, rfl, hs1⟩ := h1
  replace hs1 := hq.bare.call1 hs1
  clear hq
  have hq := hs1.madeM #[.int .u8 48, .int .u8 48, .int .u8 48, .int .u8 54, .int .u8 104, .int .u8 105, .int .u8 48, .int .u8 48, .int .u8 48, .int .u8 48, .int .u8 120] 5 1 11 rfl (by simp [maxLen])
  go_wp2_with fail
  refine (Lines_any _ [48, 48, 48, 54, 104, 105, 48, 48, 48, 48, 120] _ hq.sl0 (by simp)).mono ?_
  rintro e w2 h2
  unfold LinesPost at h2
  rw [linesS_hi] at h2
  obtain ⟨v2, rfl, hs2, hll⟩ := h2
  replace hs2 := hq.tail.call0 hs2
  clear hq hs1
  obtain ⟨ao, cap, blk, off, us, rfl, h1, h2, hc, hd⟩ := hll.at
  clear hll
  obtain ⟨rfl, c1⟩ := hc 0 (by simp)
  have d1 : Sl w2 1 (us 0) 2 (bs [104, 105]) := hd 0 (by simp)
  clear hc hd
  generalize us 0 = u0 at *
  rw [Nat.add_zero] at c1
  have ht1 : ((str [48, 48, 48, 54, 104, 105]).toList == [48, 48, 48, 54, 104, 105]) = true := by rw [str_toL]; rfl
  have ht2 : ((str [104, 105]).toList == [104, 105]) = true := by rw [str_toL]; rfl
  go_wp2_with (first | ((with_reducible show wpList _ _ _ _ _ _); refine wpl_want rfl ?_) | ((with_reducible show wpList _ _ _ _ _ _); refine wpl_b2s rfl 23 9 5 _ rfl Tryd.underlying23 Tryd.underlying5 Tryd.underlying9 (by exact hs2.sl0) ?_) | ((with_reducible show wpList _ _ _ _ _ _); refine wpl_b2s rfl 23 9 5 _ rfl Tryd.underlying23 Tryd.underlying5 Tryd.underlying9 (by exact d1) ?_))
  go_ret
  exact ⟨rfl, hs2.bare⟩

theorem LinePost.all {p : List UInt8} {w w' : World} {e : Ending} (h : LinePost p w e w') : ∃ v, e = .returned (.tuple #[v, .int .i64 (lineE p)]) ∧ St w w' [⟨v, 5, 1, (lineV p).length, bs (lineV p)⟩] [] := h

end Go.Proofs.YtloogjdafhjheaaDoor
