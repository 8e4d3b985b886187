/- Walks of the document's lines (marref20.Line, Lines) and of marref.Lists. -/
import Derived.Test.YtloogjdafhjheaaDoorPkt
namespace Go.Proofs.YtloogjdafhjheaaDoor
open Go.RowKit Go.Mx

set_option maxHeartbeats 1000000 in
theorem refLine_any (v : Value) (p : List UInt8) (w : World) (hv : Sl w 1 v p.length (bs p)) (hl : p.length ≤ 140737488355328) :
    Calls Tryd.prog 25 #[v] w (LinePost p w) := by
  by_cases h : 60000 < p.length
  · have hp : LinePost p w (.returned (.tuple #[.slice none 0 0, .int .i64 3])) w := by
      unfold LinePost lineE lineV
      rw [if_pos h, if_pos h]
      exact ⟨_, rfl, St.nil _ _ _⟩
    have HP := Mx.hid hp
    clear hp
    go_enter Tryd.func25, Tryd.ntmps25
    go_wp2_with ((with_reducible show wpList _ _ _ _ _ _); refine wpl_len rfl 23 5 _ rfl Tryd.underlying23 (by exact hv) ?_)
    go_ret2
    exact HP.out
  · have hp : ∀ v w', St w w' [⟨v, 5, 1, (lineL p).length, bs (lineL p)⟩] [] → LinePost p w (.returned (.tuple #[v, .int .i64 0])) w' := fun v w' hs => by
      unfold LinePost lineE lineV
      rw [if_neg h, if_neg h]
      exact ⟨_, rfl, hs⟩
    have HP := Mx.hid hp
    clear hp
    have hd : decide ((60000 : Int) < (p.length : Int)) = false := decide_eq_false (by omega)
    have hA : Hid ([Value.int .u8 (((p.length : Int) + 4) / 256), Value.int .u8 (((p.length : Int) + 4) % 256)] = bs [UInt8.ofNat ((p.length + 4) / 256), UInt8.ofNat (p.length + 4)]) := by
      show _ = [Value.int .u8 _, Value.int .u8 _]
      rw [UInt8.toNat_ofNat', UInt8.toNat_ofNat', show (p.length + 4) / 256 % 2 ^ 8 = (p.length + 4) / 256 by omega]
      rfl
    go_enter Tryd.func25, Tryd.ntmps25
    go_wp2_with (first | ((with_reducible show wpList _ _ _ _ _ _); refine wpl_len rfl 23 5 _ rfl Tryd.underlying23 (by exact hv) ?_))
    have hq := (St.refl w).made #[Value.int IntKind.u8 (((p.length : Int) + 4) / 256), Value.int IntKind.u8 (((p.length : Int) + 4) % 256)] 5 1 2 rfl (by simp [maxLen])
    replace hq := hq.cast (n' := [UInt8.ofNat ((p.length + 4) / 256), UInt8.ofNat (p.length + 4)].length) rfl hA.out
    refine (hex_any _ [UInt8.ofNat ((p.length + 4) / 256), UInt8.ofNat (p.length + 4)] _ hq.sl0 (by simp)).mono ?_
    obtain ⟨S, hS, hXL⟩ : ∃ S, Hid (str (hexL [UInt8.ofNat ((p.length + 4) / 256), UInt8.ofNat (p.length + 4)]) = S) ∧ S.size ≤ 4 := ⟨_, rfl, Nat.le_refl 4⟩
    rintro e w1 ⟨rfl, hs1⟩
    rw [hS.out]
    replace hs1 := hq.bare.call0 hs1
    clear hq hA
    go_wp2_with (first | ((with_reducible show wpList _ _ _ _ _ _); refine wpl_s2b rfl 9 23 5 _ rfl Tryd.underlying9 Tryd.underlying23 Tryd.underlying5 hs1 rfl (by unfold maxLen; omega) ?_; intro v2 w2 hs2) | (at_builtin; refine wpl_app rfl _ _ 23 rfl Tryd.elU8 hs2 rfl (by exact hs2.old hv) (bs_one _) (by omega) ?_; intro v3 w3 hs3 _))
    go_ret2
    refine HP.out _ _ ?_
    unfold lineL
    have he : S.size + p.length = (hexL [UInt8.ofNat ((p.length + 4) / 256), UInt8.ofNat (p.length + 4)] ++ p).length := by rw [← hS.out, str_size, List.length_append]
    exact hs3.cast he (by rw [← hS.out, str_data, bs_app])

set_option maxRecDepth 100000 in
set_option maxHeartbeats 1000000 in
theorem refLines_any (v : Value) (b : List UInt8) (w : World) (hv : Sl w 1 v b.length (bs b)) (hl : b.length ≤ 140737488355) :
    Calls Tryd.prog 31 #[v] w (LinesPost b w) := by
  have HV := Mx.hid hv
  clear hv
  go_enter Tryd.func31, Tryd.ntmps31
  go_wp2_with fail
  go_loopw [5, 6] (fun x y wr => ∃ (k : Nat) (acc : List (List UInt8)) (vs : List Value), k ≤ b.length ∧ 4 * acc.length ≤ k ∧ y = .int .i64 k ∧ Hid (linesS b k acc = linesS b 0 []) ∧ Hid (vs.length = acc.length) ∧ St w wr [⟨x, 23, 1, acc.length, vs⟩] (rds vs acc)) (fun _ y _ => b.length - (intOf y).toNat)
  case atStart => exact ⟨0, [], [], by omega, by simp, rfl, rfl, rfl, St.nil _ _ _⟩
  case round =>
    obtain ⟨k, acc, vs, hk, ha, rfl, He, Hvs, hs⟩ := hrel
    have hbv := hs.old HV.out
    by_cases hlt : k < b.length
    · by_cases h4 : b.length - k < 4
      · have HP := Mx.hid (LinesPost.bad (err := 2) He (by rw [linesS, dif_pos hlt, if_pos h4]) hs.bare)
        go_wp2_with ((with_reducible show wpList _ _ _ _ _ _); refine wpl_len rfl 23 5 _ rfl Tryd.underlying23 (by exact hbv) ?_)
        go_ret3
        exact HP.out
      · have hstep := linesS.eq_def b k acc
        rw [dif_pos hlt, if_neg h4] at hstep
        have hcl : ((b.take (k + 4)).drop k).length = 4 := by rw [List.length_drop, List.length_take]; omega
        have hk4 : k + 4 ≤ b.length := by omega
        cases hu : unhexL ((b.take (k + 4)).drop k) with
        | none =>
          rw [lenI_none hcl hu] at hstep
          have HP := Mx.hid hstep
          have HU := Mx.hid hu
          have hcs : (str ((b.take (k + 4)).drop k)).size ≤ 140737488355328 := by rw [str_size]; omega
          clear hstep hu hcl
          go_wp2_with (first | ((with_reducible show wpList _ _ _ _ _ _); refine wpl_len rfl 23 5 _ rfl Tryd.underlying23 (by exact hbv) ?_) | ((with_reducible show wpList _ _ _ _ _ _); refine wpl_cut rfl 23 _ _ _ rfl Tryd.elU8 (by exact hbv) k (k + 4) (.inr ⟨.i64, rfl⟩) (.inr ⟨.i64, rfl⟩) (by omega) (by omega) ?_; intro vc hvc; replace hvc := Sl.cutB (hvc _ (by exact hbv)) (by omega) (by omega)) | ((with_reducible show wpList _ _ _ _ _ _); refine wpl_b2s rfl 23 9 5 _ rfl Tryd.underlying23 Tryd.underlying5 Tryd.underlying9 (by exact hvc) ?_) | (go_at_call 49; refine (unhex_any _ _ hcs).mono ?_; rintro e w' ⟨ve, rfl, hve⟩; rw [str_data, HU.out] at hve; rw [str_data, HU.out]))
          go_ret3
          exact LinesPost.bad He HP.out (hs.bare.call0 hve.bare)
        | some l =>
          obtain ⟨x, y, rfl, hr⟩ := lenI_some hcl hu
          rw [hr] at hstep
          have hx := u8_lt x
          have hy := u8_lt y
          have HU := Mx.hid hu
          have hcs : (str ((b.take (k + 4)).drop k)).size ≤ 140737488355328 := by rw [str_size]; omega
          have Hst := Mx.hid hstep
          clear hstep hu hcl hr
          go_wp2_with (first | ((with_reducible show wpList _ _ _ _ _ _); refine wpl_len rfl 23 5 _ rfl Tryd.underlying23 (by exact hbv) ?_) | ((with_reducible show wpList _ _ _ _ _ _); refine wpl_cut rfl 23 _ _ _ rfl Tryd.elU8 (by exact hbv) k (k + 4) (.inr ⟨.i64, rfl⟩) (.inr ⟨.i64, rfl⟩) (by omega) (by omega) ?_; intro vc hvc; replace hvc := Sl.cutB (hvc _ (by exact hbv)) (by omega) (by omega)) | ((with_reducible show wpList _ _ _ _ _ _); refine wpl_b2s rfl 23 9 5 _ rfl Tryd.underlying23 Tryd.underlying5 Tryd.underlying9 (by exact hvc) ?_) | (go_at_call 49; refine (unhex_any _ _ hcs).mono ?_; rintro e w' ⟨ve, rfl, hve⟩; rw [str_data, HU.out] at hve; rw [str_data, HU.out]; obtain ⟨g, cp, rfl, hg1, hg2, hg3, hg4⟩ := hve.form0 (by simp); have c1 := hve.cell (j := 0) rfl; have c2 := hve.cell (j := 1) rfl; replace hve := hs.call0 hve.bare; clear hvc))
          go_quiet (fail)
          clear c1 c2 hg1 hg2 hg3 hg4
          have hr1 : 0 ≤ 256 * (x.toNat : Int) + (y.toNat : Int) := by omega
          have hr2 : 256 * (x.toNat : Int) + (y.toNat : Int) < 65536 := by omega
          generalize 256 * (x.toNat : Int) + (y.toNat : Int) = r at *
          replace hs := hve.drewN nq
          have hbv := hs.old HV.out
          have hstep := Hst.out
          clear hve Hst HU hcs hx hy
          by_cases hr0 : r = 0
          · rw [if_pos hr0] at hstep
            have HP := Mx.hid hstep
            have b1 : (r == 0) = true := by simp [hr0]
            clear hstep hr0 hr1 hr2
            go_wp2_with fail
            go_ret3
            exact LinesPost.good He HP.out Hvs hs (by omega)
          · rw [if_neg hr0] at hstep
            have b1 : (r == 0) = false := by simp [hr0]
            by_cases hr4 : r < 4
            · rw [if_pos hr4] at hstep
              have HP := Mx.hid hstep
              clear hstep hr0
              go_wp2_with fail
              go_ret3
              exact LinesPost.bad He HP.out hs.bare
            · rw [if_neg hr4] at hstep
              obtain ⟨m, hm⟩ := Int.eq_ofNat_of_zero_le hr1
              have hm4 : (4 : Int) ≤ r := by omega
              clear hr0 hr4 hr1
              rw [show r.toNat = m by omega] at hstep
              have Hm := Mx.hid hm
              by_cases hlong : (b.length - k : Nat) < m
              · rw [if_pos (show ((b.length - k : Nat) : Int) < r by omega)] at hstep
                have HP := Mx.hid hstep
                have b2 : decide ((b.length : Int) - (k : Int) < r) = true := decide_eq_true (by omega)
                clear hstep hlong hm
                go_wp2_with (first | ((with_reducible show wpList _ _ _ _ _ _); refine wpl_len rfl 23 5 _ rfl Tryd.underlying23 (by exact hbv) ?_))
                go_ret3
                exact LinesPost.bad He HP.out hs.bare
              · rw [if_neg (show ¬ ((b.length - k : Nat) : Int) < r by omega)] at hstep
                have HE := Mx.hid (hstep.symm.trans He.out)
                have hml : k + m ≤ b.length := by omega
                have b2 : decide ((b.length : Int) - (k : Int) < r) = false := decide_eq_false (by omega)
                have hcl : ((b.take (k + m)).drop (k + 4)).length ≤ 140737488355328 := by rw [List.length_drop, List.length_take]; omega
                have hcm : k + 4 ≤ k + m := by omega
                have hki : some (Value.int .i64 ((k : Int) + r)) = some (Value.int .i64 ((k + m : Nat) : Int)) := by rw [hm]; rfl
                have HKI := Mx.hid hki
                clear hstep hlong hm hki
                go_wp2_with (first | ((with_reducible show wpList _ _ _ _ _ _); refine wpl_len rfl 23 5 _ rfl Tryd.underlying23 (by exact hbv) ?_) | ((with_reducible show wpList _ _ _ _ _ _); refine wpl_cut rfl 23 _ _ _ rfl Tryd.elU8 (by exact hbv) (k + 4) (k + m) (.inr ⟨.i64, rfl⟩) (.inr ⟨.i64, HKI.out⟩) (by omega) (by omega) ?_; intro vd hvd; replace hvd := Sl.cutB (hvd _ (by exact hbv)) (by omega) (by omega)) | (go_at_call 8; refine (copyBytes_any _ _ _ hvd hcl).mono ?_; rintro e w' ⟨ve, rfl, hve⟩; obtain ⟨ca, cc, rfl, _⟩ := hve.sl0; replace hve := (hs.call1 hve).freeze; clear hvd hbv) | (at_builtin; refine wpl_app rfl _ _ 43 rfl Tryd.elBs (hve.alloc _) rfl (by exact Sl.one _ _ _) (by intro u hu; simp at hu; subst hu; rfl) (by omega) ?_; intro vf wf hvf _))
                all_goals trace_state
                go_roundw
                case rel =>
                  rw [show k + m - (k + 4) = ((b.take (k + m)).drop (k + 4)).length by rw [List.length_drop, List.length_take]; omega] at hvf
                  obtain ⟨hq, hq'⟩ := hvf.pushL Hvs.out
                  exact ⟨k + m, _, _, by omega, by simp; omega, by rw [Hm.out]; rfl, HE, hq', hq⟩
                case measure => have := Hm.out; simp [intOf]; omega
    · have HP := Mx.hid (LinesPost.good He (by rw [linesS, dif_neg hlt]) Hvs hs (i := (k : Int)) rfl)
      go_wp2_with ((with_reducible show wpList _ _ _ _ _ _); refine wpl_len rfl 23 5 _ rfl Tryd.underlying23 (by exact hbv) ?_)
      go_ret3
      exact HP.out
end Go.Proofs.YtloogjdafhjheaaDoor
