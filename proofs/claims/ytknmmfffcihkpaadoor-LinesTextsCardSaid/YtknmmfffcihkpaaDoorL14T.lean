/- marlaw14.LinesTexts: it returns true and leaves what was there as it was. -/
import Derived.Test.YtknmmfffcihkpaaDoorL14F
import Derived.Test.YtknmmfffcihkpaaDoorSplitR
namespace Go.Proofs.YtknmmfffcihkpaaDoor
open Go.RowKit Go.Mx

set_option maxRecDepth 100000 in
set_option maxHeartbeats 4000000 in
theorem linesTexts_any (w : World) (v : Value) (b : List UInt8) (hv : Sl w 1 v b.length (bs b)) :
    Calls Tryd.prog 3 #[v] w fun e w' => e = .returned (.bool true) ∧ Below w.heap.size w w' := by
  have HV := Mx.hid hv
  obtain ⟨ao, cap, rfl, h1, h2, h3, _⟩ := hv.form
  clear hv h3
  unfold maxLen at h2
  go_enter Tryd.func3, Tryd.ntmps3
  go_wp2_with fail
  refine (first_any _).mono ?_
  rintro e w1 ⟨rfl, hs1⟩
  by_cases hbig : 6000 < b.length
  · have g1 : decide (6000 < (b.length : Int)) = true := decide_eq_true (by omega)
    go_wp2_with (go_at_call 11; refine (first_any _).mono ?_; rintro e w2 ⟨rfl, hs2⟩)
    go_ret
    exact ⟨rfl, (hs1.call0 hs2).below⟩
  · have g1 : decide (6000 < (b.length : Int)) = false := decide_eq_false (by omega)
    have hb : b.length ≤ 6000 := by omega
    clear hbig
    go_wp2_with fail
    refine (copyBytes_any _ b _ (hs1.old HV.out) (by omega)).mono ?_
    rintro e w2 ⟨vin, rfl, hs2⟩
    replace hs2 := hs1.call1 hs2
    go_wp2_with fail
    refine (split_any vin b _ hs2.sl0 (by omega)).mono ?_
    rintro e w3 ⟨vl, rfl, hs3, hl3⟩
    replace hs3 := hs2.call0 hs3
    have hln := lns_len b
    have HT := Mx.hid (tx_len (lns b))
    have HJ : Hid (joinL (tx (lns b)) = b) := by show _ = _; rw [joinL_tx, lns_flat]
    go_wp2_with fail
    refine (first_any _).mono ?_
    rintro e w4 ⟨rfl, hs4⟩
    replace hl3 := hs4.old hl3
    replace hs4 := hs3.call0 hs4
    go_wp2_with fail
    refine (text_any vin b _ hs4.sl0).mono ?_
    rintro e w' ⟨rfl, rfl⟩
    go_wp2_with fail
    refine (refText_any _ b _ (hs4.old HV.out)).mono ?_
    rintro e w' ⟨rfl, rfl⟩
    have g2 : (isText b == isText b) = true := by simp
    go_wp2_with (first | ((with_reducible show wpList _ _ _ _ _ _); refine wpl_want rfl ?_))
    refine (refSplit_any _ b _ (hs4.old HV.out) (by omega)).mono ?_
    rintro e w5 ⟨vr, rfl, hs5⟩
    replace hl3 := hs5.old hl3
    replace hs5 := hs4.call1 hs5
    have hr5 := hs5.sl0
    rw [← HT.out] at hl3 hr5
    have hTl : (tx (lns b)).length ≤ 6000 := by have := HT.out; omega
    generalize tx (lns b) = T at *
    go_wp2_with (first | ((with_reducible show wpList _ _ _ _ _ _); refine wpl_want rfl ?_))
    refine (texts_same vl vr T T _ hl3 hr5 rfl).mono ?_
    rintro e w6 ⟨rfl, hs6⟩
    replace hl3 := hs6.old hl3
    replace hs6 := hs5.call0 hs6
    go_wp2_with (first | ((with_reducible show wpList _ _ _ _ _ _); refine wpl_want rfl ?_))
    refine (join_any vl T _ hl3 (by omega) (by rw [HJ.out]; omega)).mono ?_
    rintro e w7 ⟨vj, rfl, hs7⟩
    rw [HJ.out] at hs7
    replace hs7 := hs6.call1 hs7
    have k1 := Mx.hid (bytes_any vj (.slice ao b.length cap) b b _ hs7.sl0 (hs7.old HV.out))
    have k2 := Mx.hid (bytes_any vin (.slice ao b.length cap) b b _ hs7.sl2 (hs7.old HV.out))
    have kd : decide (b = b) = true := decide_eq_true rfl
    rw [kd] at k1 k2
    clear kd
    go_wp2_with (first | ((with_reducible show wpList _ _ _ _ _ _); refine wpl_want rfl ?_))
    refine k1.out.mono ?_
    rintro e w' ⟨rfl, rfl⟩
    go_wp2_with (first | ((with_reducible show wpList _ _ _ _ _ _); refine wpl_want rfl ?_))
    refine k2.out.mono ?_
    rintro e w' ⟨rfl, rfl⟩
    go_wp2_with (first | ((with_reducible show wpList _ _ _ _ _ _); refine wpl_want rfl ?_))
    go_ret
    exact ⟨rfl, hs7.below⟩

theorem linesTextsRow (v : Value) (b : List UInt8) {w : World} (hv : Sl w 1 v b.length (bs b)) (_w : World) :
    Calls Tryd.prog 3 #[v] w fun e w' => e = .returned (.bool true) ∧ Below w.heap.size w w' := linesTexts_any w v b hv
end Go.Proofs.YtknmmfffcihkpaaDoor
