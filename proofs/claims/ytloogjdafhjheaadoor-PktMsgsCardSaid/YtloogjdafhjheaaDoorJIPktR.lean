/- Walks of the document's lines (marref20.Line, Lines) and of marref.Lists. The walk of marlaw21.PktLines: it returns true and leaves what was there as it was. -/
import Derived.Test.YtloogjdafhjheaaDoorPkt
import Derived.Lib.SlBytesConst
namespace Go.Proofs.YtloogjdafhjheaaDoor
open Go.RowKit Go.Mx

set_option maxHeartbeats 1000000 in
theorem refLine_any (v : Value) (p : List UInt8) (w : World) (hv : Sl w 1 v p.length (bs p)) (hl : p.length ≤ 140737488355328) :
    Calls Tryd.prog 25 #[v] w (LinePost p w) := by
  by_cases h : 60000 < p.length
  · have hp : LinePost p w (.returned (.tuple #[.slice none 0 0, .int .i64 3])) w := by
      unfold LinePost lineE lineV
      rw [if_pos h, if_pos h]
      exact ⟨_, rfl, St.nil _ _ _⟩
    have HP := Mx.hid hp
    clear hp
    go_enter Tryd.func25, Tryd.ntmps25
    go_wp2_with ((with_reducible show wpList _ _ _ _ _ _); refine wpl_len rfl 23 5 _ rfl Tryd.underlying23 (by exact hv) ?_)
    go_ret2
    exact HP.out
  · have hp : ∀ v w', St w w' [⟨v, 5, 1, (lineL p).length, bs (lineL p)⟩] [] → LinePost p w (.returned (.tuple #[v, .int .i64 0])) w' := fun v w' hs => by
      unfold LinePost lineE lineV
      rw [if_neg h, if_neg h]
      exact ⟨_, rfl, hs⟩
    have HP := Mx.hid hp
    clear hp
    have hd : decide ((60000 : Int) < (p.length : Int)) = false := decide_eq_false (by omega)
    have hA : Hid ([Value.int .u8 (((p.length : Int) + 4) / 256), Value.int .u8 (((p.length : Int) + 4) % 256)] = bs [UInt8.ofNat ((p.length + 4) / 256), UInt8.ofNat (p.length + 4)]) := by
      show _ = [Value.int .u8 _, Value.int .u8 _]
      rw [UInt8.toNat_ofNat', UInt8.toNat_ofNat', show (p.length + 4) / 256 % 2 ^ 8 = (p.length + 4) / 256 by omega]
      rfl
    go_enter Tryd.func25, Tryd.ntmps25
    go_wp2_with (first | ((with_reducible show wpList _ _ _ _ _ _); refine wpl_len rfl 23 5 _ rfl Tryd.underlying23 (by exact hv) ?_))
    have hq := (St.refl w).made #[Value.int IntKind.u8 (((p.length : Int) + 4) / 256), Value.int IntKind.u8 (((p.length : Int) + 4) % 256)] 5 1 2 rfl (by simp [maxLen])
    replace hq := hq.cast (n' := [UInt8.ofNat ((p.length + 4) / 256), UInt8.ofNat (p.length + 4)].length) rfl hA.out
    refine (hex_any _ [UInt8.ofNat ((p.length + 4) / 256), UInt8.ofNat (p.length + 4)] _ hq.sl0 (by simp)).mono ?_
    obtain ⟨S, hS, hXL⟩ : ∃ S, Hid (str (hexL [UInt8.ofNat ((p.length + 4) / 256), UInt8.ofNat (p.length + 4)]) = S) ∧ S.size ≤ 4 := ⟨_, rfl, Nat.le_refl 4⟩
    rintro e w1 ⟨rfl, hs1⟩
    rw [hS.out]
    replace hs1 := hq.bare.call0 hs1
    clear hq hA
    go_wp2_with (first | ((with_reducible show wpList _ _ _ _ _ _); refine wpl_s2b rfl 9 23 5 _ rfl Tryd.underlying9 Tryd.underlying23 Tryd.underlying5 hs1 rfl (by unfold maxLen; omega) ?_; intro v2 w2 hs2) | (at_builtin; refine wpl_app rfl _ _ 23 rfl Tryd.elU8 hs2 rfl (by exact hs2.old hv) (bs_one _) (by omega) ?_; intro v3 w3 hs3 _))
    go_ret2
    refine HP.out _ _ ?_
    unfold lineL
    have he : S.size + p.length = (hexL [UInt8.ofNat ((p.length + 4) / 256), UInt8.ofNat (p.length + 4)] ++ p).length := by rw [← hS.out, str_size, List.length_append]
    exact hs3.cast he (by rw [← hS.out, str_data, bs_app])

set_option maxRecDepth 100000 in
set_option maxHeartbeats 1000000 in
theorem refLines_any (v : Value) (b : List UInt8) (w : World) (hv : Sl w 1 v b.length (bs b)) (hl : b.length ≤ 140737488355) :
    Calls Tryd.prog 31 #[v] w (LinesPost b w) := by
  have HV := Mx.hid hv
  clear hv
  go_enter Tryd.func31, Tryd.ntmps31
  go_wp2_with fail
  go_loopw [5, 6] (fun x y wr => ∃ (k : Nat) (acc : List (List UInt8)) (vs : List Value), k ≤ b.length ∧ 4 * acc.length ≤ k ∧ y = .int .i64 k ∧ Hid (linesS b k acc = linesS b 0 []) ∧ Hid (vs.length = acc.length) ∧ St w wr [⟨x, 23, 1, acc.length, vs⟩] (rds vs acc)) (fun _ y _ => b.length - (intOf y).toNat)
  case atStart => exact ⟨0, [], [], by omega, by simp, rfl, rfl, rfl, St.nil _ _ _⟩
  case round =>
    obtain ⟨k, acc, vs, hk, ha, rfl, He, Hvs, hs⟩ := hrel
    have hbv := hs.old HV.out
    by_cases hlt : k < b.length
    · by_cases h4 : b.length - k < 4
      · have HP := Mx.hid (LinesPost.bad (err := 2) He (by rw [linesS, dif_pos hlt, if_pos h4]) hs.bare)
        go_wp2_with ((with_reducible show wpList _ _ _ _ _ _); refine wpl_len rfl 23 5 _ rfl Tryd.underlying23 (by exact hbv) ?_)
        go_ret3
        exact HP.out
      · have hstep := linesS.eq_def b k acc
        rw [dif_pos hlt, if_neg h4] at hstep
        have hcl : ((b.take (k + 4)).drop k).length = 4 := by rw [List.length_drop, List.length_take]; omega
        have hk4 : k + 4 ≤ b.length := by omega
        cases hu : unhexL ((b.take (k + 4)).drop k) with
        | none =>
          rw [lenI_none hcl hu] at hstep
          have HP := Mx.hid hstep
          have HU := Mx.hid hu
          have hcs : (str ((b.take (k + 4)).drop k)).size ≤ 140737488355328 := by rw [str_size]; omega
          clear hstep hu hcl
          go_wp2_with (first | ((with_reducible show wpList _ _ _ _ _ _); refine wpl_len rfl 23 5 _ rfl Tryd.underlying23 (by exact hbv) ?_) | ((with_reducible show wpList _ _ _ _ _ _); refine wpl_cut rfl 23 _ _ _ rfl Tryd.elU8 (by exact hbv) k (k + 4) (.inr ⟨.i64, rfl⟩) (.inr ⟨.i64, rfl⟩) (by omega) (by omega) ?_; intro vc hvc; replace hvc := Sl.cutB (hvc _ (by exact hbv)) (by omega) (by omega)) | ((with_reducible show wpList _ _ _ _ _ _); refine wpl_b2s rfl 23 9 5 _ rfl Tryd.underlying23 Tryd.underlying5 Tryd.underlying9 (by exact hvc) ?_) | (go_at_call 49; refine (unhex_any _ _ hcs).mono ?_; rintro e w' ⟨ve, rfl, hve⟩; rw [str_data, HU.out] at hve; rw [str_data, HU.out]))
          go_ret3
          exact LinesPost.bad He HP.out (hs.bare.call0 hve.bare)
        | some l =>
          obtain ⟨x, y, rfl, hr⟩ := lenI_some hcl hu
          rw [hr] at hstep
          have hx := u8_lt x
          have hy := u8_lt y
          have HU := Mx.hid hu
          have hcs : (str ((b.take (k + 4)).drop k)).size ≤ 140737488355328 := by rw [str_size]; omega
          have Hst := Mx.hid hstep
          clear hstep hu hcl hr
          go_wp2_with (first | ((with_reducible show wpList _ _ _ _ _ _); refine wpl_len rfl 23 5 _ rfl Tryd.underlying23 (by exact hbv) ?_) | ((with_reducible show wpList _ _ _ _ _ _); refine wpl_cut rfl 23 _ _ _ rfl Tryd.elU8 (by exact hbv) k (k + 4) (.inr ⟨.i64, rfl⟩) (.inr ⟨.i64, rfl⟩) (by omega) (by omega) ?_; intro vc hvc; replace hvc := Sl.cutB (hvc _ (by exact hbv)) (by omega) (by omega)) | ((with_reducible show wpList _ _ _ _ _ _); refine wpl_b2s rfl 23 9 5 _ rfl Tryd.underlying23 Tryd.underlying5 Tryd.underlying9 (by exact hvc) ?_) | (go_at_call 49; refine (unhex_any _ _ hcs).mono ?_; rintro e w' ⟨ve, rfl, hve⟩; rw [str_data, HU.out] at hve; rw [str_data, HU.out]; obtain ⟨g, cp, rfl, hg1, hg2, hg3, hg4⟩ := hve.form0 (by simp); have c1 := hve.cell (j := 0) rfl; have c2 := hve.cell (j := 1) rfl; replace hve := hs.call0 hve.bare; clear hvc))
          go_quiet (fail)
          clear c1 c2 hg1 hg2 hg3 hg4
          have hr1 : 0 ≤ 256 * (x.toNat : Int) + (y.toNat : Int) := by omega
          have hr2 : 256 * (x.toNat : Int) + (y.toNat : Int) < 65536 := by omega
          generalize 256 * (x.toNat : Int) + (y.toNat : Int) = r at *
          replace hs := hve.drewN nq
          have hbv := hs.old HV.out
          have hstep := Hst.out
          clear hve Hst HU hcs hx hy
          by_cases hr0 : r = 0
          · rw [if_pos hr0] at hstep
            have HP := Mx.hid hstep
            have b1 : (r == 0) = true := by simp [hr0]
            clear hstep hr0 hr1 hr2
            go_wp2_with fail
            go_ret3
            exact LinesPost.good He HP.out Hvs hs (by omega)
          · rw [if_neg hr0] at hstep
            have b1 : (r == 0) = false := by simp [hr0]
            by_cases hr4 : r < 4
            · rw [if_pos hr4] at hstep
              have HP := Mx.hid hstep
              clear hstep hr0
              go_wp2_with fail
              go_ret3
              exact LinesPost.bad He HP.out hs.bare
            · rw [if_neg hr4] at hstep
              obtain ⟨m, hm⟩ := Int.eq_ofNat_of_zero_le hr1
              have hm4 : (4 : Int) ≤ r := by omega
              clear hr0 hr4 hr1
              rw [show r.toNat = m by omega] at hstep
              have Hm := Mx.hid hm
              by_cases hlong : (b.length - k : Nat) < m
              · rw [if_pos (show ((b.length - k : Nat) : Int) < r by omega)] at hstep
                have HP := Mx.hid hstep
                have b2 : decide ((b.length : Int) - (k : Int) < r) = true := decide_eq_true (by omega)
                clear hstep hlong hm
                go_wp2_with (first | ((with_reducible show wpList _ _ _ _ _ _); refine wpl_len rfl 23 5 _ rfl Tryd.underlying23 (by exact hbv) ?_))
                go_ret3
                exact LinesPost.bad He HP.out hs.bare
              · rw [if_neg (show ¬ ((b.length - k : Nat) : Int) < r by omega)] at hstep
                have HE := Mx.hid (hstep.symm.trans He.out)
                have hml : k + m ≤ b.length := by omega
                have b2 : decide ((b.length : Int) - (k : Int) < r) = false := decide_eq_false (by omega)
                have hcl : ((b.take (k + m)).drop (k + 4)).length ≤ 140737488355328 := by rw [List.length_drop, List.length_take]; omega
                have hcm : k + 4 ≤ k + m := by omega
                have hki : some (Value.int .i64 ((k : Int) + r)) = some (Value.int .i64 ((k + m : Nat) : Int)) := by rw [hm]; rfl
                have HKI := Mx.hid hki
                clear hstep hlong hm hki
                go_wp2_with (first | ((with_reducible show wpList _ _ _ _ _ _); refine wpl_len rfl 23 5 _ rfl Tryd.underlying23 (by exact hbv) ?_) | ((with_reducible show wpList _ _ _ _ _ _); refine wpl_cut rfl 23 _ _ _ rfl Tryd.elU8 (by exact hbv) (k + 4) (k + m) (.inr ⟨.i64, rfl⟩) (.inr ⟨.i64, HKI.out⟩) (by omega) (by omega) ?_; intro vd hvd; replace hvd := Sl.cutB (hvd _ (by exact hbv)) (by omega) (by omega)) | (go_at_call 8; refine (copyBytes_any _ _ _ hvd hcl).mono ?_; rintro e w' ⟨ve, rfl, hve⟩; obtain ⟨ca, cc, rfl, _⟩ := hve.sl0; replace hve := (hs.call1 hve).freeze; clear hvd hbv) | (at_builtin; refine wpl_app rfl _ _ 43 rfl Tryd.elBs (hve.alloc _) rfl (by exact Sl.one _ _ _) (by intro u hu; simp at hu; subst hu; rfl) (by omega) ?_; intro vf wf hvf _))
                all_goals trace_state
                go_roundw
                case rel =>
                  rw [show k + m - (k + 4) = ((b.take (k + m)).drop (k + 4)).length by rw [List.length_drop, List.length_take]; omega] at hvf
                  obtain ⟨hq, hq'⟩ := hvf.pushL Hvs.out
                  exact ⟨k + m, _, _, by omega, by simp; omega, by rw [Hm.out]; rfl, HE, hq', hq⟩
                case measure => have := Hm.out; simp [intOf]; omega
    · have HP := Mx.hid (LinesPost.good He (by rw [linesS, dif_neg hlt]) Hvs hs (i := (k : Int)) rfl)
      go_wp2_with ((with_reducible show wpList _ _ _ _ _ _); refine wpl_len rfl 23 5 _ rfl Tryd.underlying23 (by exact hbv) ?_)
      go_ret3
      exact HP.out
end Go.Proofs.YtloogjdafhjheaaDoor

namespace Go.Proofs.YtloogjdafhjheaaDoor
open Go.RowKit Go.Mx

theorem lists_same (v v' : Value) (ls : List (List UInt8)) (w : World) (hv : LL w v ls) (hv' : LL w v' ls) :
    Calls Tryd.prog 21 #[v, v'] w fun e w' => e = .returned (.bool true) ∧ St w w' [] [] := by
  obtain ⟨ao, cap, blk, off, us, rfl, h1, h2, hc, hd⟩ := hv.at
  obtain ⟨ao', cap', blk', off', us', rfl, h1', h2', hc', hd'⟩ := hv'.at
  clear hv hv'
  have HC := Mx.hid hc
  have HC' := Mx.hid hc'
  have HD := Mx.hid hd
  have HD' := Mx.hid hd'
  clear hc hc' hd hd'
  have hb : ((ls.length : Int) != (ls.length : Int)) = false := by simp
  go_enter Tryd.func21, Tryd.ntmps21
  go_wp2_with fail
  go_loopw [5] (fun x wr => ∃ i : Nat, i ≤ ls.length ∧ x = .int .i64 i ∧ St w wr [] []) (fun x _ => ls.length - (intOf x).toNat)
  case atStart => exact ⟨0, by omega, rfl, St.refl w⟩
  case round =>
    obtain ⟨i, hi, rfl, hs⟩ := hrel
    by_cases hlt : i < ls.length
    · obtain ⟨rfl, c1⟩ := HC.out i hlt
      obtain ⟨rfl, c2⟩ := HC'.out i hlt
      have c1 := hs.keep c1
      have c2 := hs.keep c2
      have d1 := hs.old (HD.out i hlt)
      have d2 := hs.old (HD'.out i hlt)
      have hii : (i : Int) < (ls.length : Int) := by omega
      obtain ⟨z1, y1, e1, _⟩ := d1
      have d1 := hs.old (HD.out i hlt)
      obtain ⟨z2, y2, e2, _⟩ := d2
      have d2 := hs.old (HD'.out i hlt)
      rw [e1] at c1 d1
      rw [e2] at c2 d2
      clear e1 e2
      have hX : ∀ w', St wr w' [] [] → Calls Tryd.prog 14 #[.slice z1 ls[i].length y1, .slice z2 ls[i].length y2] w' fun e w'' => e = .returned (.bool true) ∧ w'' = w' := fun w' h =>
        (bytes_any _ _ ls[i] ls[i] w' (h.old d1) (h.old d2)).mono fun e w'' g => by rw [decide_eq_true (rfl : ls[i] = ls[i])] at g; exact ⟨g.1, g.2.symm⟩
      have HX := Mx.hid hX
      clear hX
      go_wp2_with fail
      go_quiet ((go_at_call 14; exact Calls.quiet_of_same (HX.out _ ((St.refl wr).drewN _))))
      go_wp2_with fail
      go_roundw
      case rel => exact ⟨i + 1, by omega, by go_num, hs.drewN _⟩
      case measure => simp [intOf]; omega
    · go_wp2_with fail
      go_ret
      exact ⟨rfl, hs⟩

theorem lineS_hi : lineV [104, 105] = [48, 48, 48, 54, 104, 105] ∧ lineE [104, 105] = 0 := by decide +kernel
theorem linesS_hi : linesS [48, 48, 48, 54, 104, 105, 48, 48, 48, 48, 120] 0 [] = ([[104, 105]], 10, 0) := by
  rw [linesS, dif_pos (by decide), if_neg (by decide)]
  have e1 : lenI ((([48, 48, 48, 54, 104, 105, 48, 48, 48, 48, 120] : List UInt8).take (0 + 4)).drop 0) 0 = 6 := by decide +kernel
  simp only [e1]
  rw [if_neg (by decide), if_neg (by decide), if_neg (by decide)]
  rw [linesS, dif_pos (by decide), if_neg (by decide)]
  have e2 : lenI ((([48, 48, 48, 54, 104, 105, 48, 48, 48, 48, 120] : List UInt8).take (0 + (6 : Int).toNat + 4)).drop (0 + (6 : Int).toNat)) 0 = 0 := by decide +kernel
  simp only [e2]
  rfl

theorem firstPkt_any (w : World) : Calls Tryd.prog 6 #[] w fun e w' => e = .returned (.bool true) ∧ St w w' [] [] := by
  have kc := fun (w : World) (C : Array Value) (n c : Nat) => Lib.run_convert_bytes_const (P := Tryd.prog) w 23 5 C n c Tryd.underlying23 Tryd.underlying5
  have hq := (St.refl w).madeM #[.int .u8 104, .int .u8 105] 5 1 2 rfl (by simp [maxLen])
  go_enter Tryd.func6, Tryd.ntmps6
  go_wp2_with fail
  refine (Line_any _ [104, 105] _ hq.sl0 (by simp)).mono ?_
  rintro e w1 h1
  unfold LinePost at h1
  rw [lineS_hi.1, lineS_hi.2] at h1
  obtain ⟨v1, rfl, hs1⟩ := h1
  replace hs1 := hq.bare.call1 hs1
  clear hq
  have hq := hs1.madeM #[.int .u8 48, .int .u8 48, .int .u8 48, .int .u8 54, .int .u8 104, .int .u8 105, .int .u8 48, .int .u8 48, .int .u8 48, .int .u8 48, .int .u8 120] 5 1 11 rfl (by simp [maxLen])
  go_wp2_with fail
  refine (Lines_any _ [48, 48, 48, 54, 104, 105, 48, 48, 48, 48, 120] _ hq.sl0 (by simp)).mono ?_
  rintro e w2 h2
  unfold LinesPost at h2
  rw [linesS_hi] at h2
  obtain ⟨v2, rfl, hs2, hll⟩ := h2
  replace hs2 := hq.tail.call0 hs2
  clear hq hs1
  obtain ⟨ao, cap, blk, off, us, rfl, h1, h2, hc, hd⟩ := hll.at
  clear hll
  obtain ⟨rfl, c1⟩ := hc 0 (by simp)
  have d1 : Sl w2 1 (us 0) 2 (bs [104, 105]) := hd 0 (by simp)
  clear hc hd
  generalize us 0 = u0 at *
  rw [Nat.add_zero] at c1
  have ht1 : ((str [48, 48, 48, 54, 104, 105]).toList == [48, 48, 48, 54, 104, 105]) = true := by rw [str_toL]; rfl
  have ht2 : ((str [104, 105]).toList == [104, 105]) = true := by rw [str_toL]; rfl
  go_wp2_with (first | ((with_reducible show wpList _ _ _ _ _ _); refine wpl_want rfl ?_) | ((with_reducible show wpList _ _ _ _ _ _); refine wpl_b2s rfl 23 9 5 _ rfl Tryd.underlying23 Tryd.underlying5 Tryd.underlying9 (by exact hs2.sl0) ?_) | ((with_reducible show wpList _ _ _ _ _ _); refine wpl_b2s rfl 23 9 5 _ rfl Tryd.underlying23 Tryd.underlying5 Tryd.underlying9 (by exact d1) ?_))
  go_ret
  exact ⟨rfl, hs2.bare⟩

theorem LinePost.all {p : List UInt8} {w w' : World} {e : Ending} (h : LinePost p w e w') : ∃ v, e = .returned (.tuple #[v, .int .i64 (lineE p)]) ∧ St w w' [⟨v, 5, 1, (lineV p).length, bs (lineV p)⟩] [] := h

end Go.Proofs.YtloogjdafhjheaaDoor
