/- marlaw15.Diff3Turns: it returns true and leaves what was there as it was. -/
import Derived.Test.YtafmgclhgmhflaaDoorD3F
import Derived.Test.YtafmgclhgmhflaaDoorD3U
namespace Go.Proofs.YtafmgclhgmhflaaDoor
open Go.RowKit Go.Mx

theorem merge_as (vo va vb : Value) (o a b : List UInt8) (w : World) (ho : Sl w 1 vo o.length (bs o)) (ha : Sl w 1 va a.length (bs a)) (hb : Sl w 1 vb b.length (bs b)) (lo : o.length ≤ 1000000) (la : a.length ≤ 1000000) (lb : b.length ≤ 1000000) {R : Option (List UInt8)} {E : Int} (hR : mgR o a b = R) (hE : mgE o a b = E) :
    Calls Tryd.prog 16 #[vo, va, vb] w fun e w' => ∃ v, e = .returned (.tuple #[v, .bool R.isSome, .int .i64 E]) ∧ St w w' [⟨v, 5, 1, (R.getD []).length, bs (R.getD [])⟩] [] := by
  subst hR hE
  exact merge_any vo va vb o a b w ho ha hb lo la lb

set_option maxRecDepth 100000 in
set_option maxHeartbeats 4000000 in
theorem diff3Turns_any (w : World) (vo va vb : Value) (o a b : List UInt8) (ho : Sl w 1 vo o.length (bs o)) (ha : Sl w 1 va a.length (bs a)) (hb : Sl w 1 vb b.length (bs b)) :
    Calls Tryd.prog 6 #[vo, va, vb] w fun e w' => e = .returned (.bool true) ∧ Below w.heap.size w w' := by
  have HO := Mx.hid ho
  have HA := Mx.hid ha
  have HB := Mx.hid hb
  obtain ⟨o1, o2, rfl, h1, h2, _, _⟩ := ho.form
  obtain ⟨a1, a2, rfl, h3, h4, _, _⟩ := ha.form
  obtain ⟨b1, b2, rfl, h5, h6, _, _⟩ := hb.form
  unfold maxLen at h2 h4 h6
  clear ho ha hb
  have HSE := Mx.hid (mgE_swap o a b)
  have HSR := Mx.hid (mgR_swap o a b)
  have HSF := Mx.hid (mg_self o a)
  go_enter Tryd.func6, Tryd.ntmps6
  go_wp2_with fail
  refine (first_any _).mono ?_
  rintro e w1 ⟨rfl, hs1⟩
  by_cases hbig : 4000 < o.length ∨ 4000 < a.length ∨ 4000 < b.length
  · have hb' : 4000 < o.length ∨ (o.length ≤ 4000 ∧ 4000 < a.length) ∨ (o.length ≤ 4000 ∧ a.length ≤ 4000 ∧ 4000 < b.length) := by omega
    clear hbig
    rcases hb' with g | ⟨g, g2⟩ | ⟨g, g2, g3⟩
    · have d1 : decide ((4000 : Int) < (o.length : Int)) = true := decide_eq_true (by omega)
      go_wp2_with (first | ((with_reducible show wpList _ _ _ _ _ _); refine wpl_want rfl ?_) | (go_at_call 9; refine (first_any _).mono ?_; rintro e w2 ⟨rfl, hs2⟩))
      go_ret
      exact ⟨rfl, (hs1.call0 hs2).below⟩
    · have d1 : decide ((4000 : Int) < (o.length : Int)) = false := decide_eq_false (by omega)
      have d2 : decide ((4000 : Int) < (a.length : Int)) = true := decide_eq_true (by omega)
      go_wp2_with (first | ((with_reducible show wpList _ _ _ _ _ _); refine wpl_want rfl ?_) | (go_at_call 9; refine (first_any _).mono ?_; rintro e w2 ⟨rfl, hs2⟩))
      go_ret
      exact ⟨rfl, (hs1.call0 hs2).below⟩
    · have d1 : decide ((4000 : Int) < (o.length : Int)) = false := decide_eq_false (by omega)
      have d2 : decide ((4000 : Int) < (a.length : Int)) = false := decide_eq_false (by omega)
      have d3 : decide ((4000 : Int) < (b.length : Int)) = true := decide_eq_true (by omega)
      go_wp2_with (first | ((with_reducible show wpList _ _ _ _ _ _); refine wpl_want rfl ?_) | (go_at_call 9; refine (first_any _).mono ?_; rintro e w2 ⟨rfl, hs2⟩))
      go_ret
      exact ⟨rfl, (hs1.call0 hs2).below⟩
  have d1 : decide ((4000 : Int) < (o.length : Int)) = false := decide_eq_false (by omega)
  have d2 : decide ((4000 : Int) < (a.length : Int)) = false := decide_eq_false (by omega)
  have d3 : decide ((4000 : Int) < (b.length : Int)) = false := decide_eq_false (by omega)
  have lo : o.length ≤ 1000000 := by omega
  have la : a.length ≤ 1000000 := by omega
  have lb : b.length ≤ 1000000 := by omega
  clear hbig
  go_wp2_with (first | ((with_reducible show wpList _ _ _ _ _ _); refine wpl_want rfl ?_))
  refine (merge_any _ _ _ o a b _ (hs1.old HO.out) (hs1.old HA.out) (hs1.old HB.out) lo la lb).mono ?_
  rintro e w2 ⟨vx, rfl, hs2⟩
  replace hs2 := hs1.call1 hs2
  go_wp2_with fail
  refine (merge_as _ _ _ o b a _ (hs2.old HO.out) (hs2.old HB.out) (hs2.old HA.out) lo lb la HSR.out HSE.out).mono ?_
  rintro e w3 ⟨vy, rfl, hs3⟩
  replace hs3 := hs2.call1 hs3
  clear hs2 hs1 HSE HSR
  obtain ⟨x1, x2, rfl, _⟩ := hs3.sl1
  have t2 : ((mgE o a b == 0) == (mgE o a b == 0)) = true := by simp
  have t2' : ((mgE o a b == 0) != (mgE o a b == 0)) = false := by simp
  generalize mgE o a b = E at *
  generalize mgR o a b = R at *
  have t1 : (R.isSome == R.isSome) = true := by simp
  have t1' : (R.isSome != R.isSome) = false := by simp
  have k1 := Mx.hid (bytes_any (.slice x1 (R.getD []).length x2) vy (R.getD []) (R.getD []) _ hs3.sl1 hs3.sl0)
  have kd : decide (R.getD [] = R.getD []) = true := decide_eq_true rfl
  rw [kd] at k1
  clear kd
  have hlen : R.isSome = false → (R.getD []).length = 0 := by intro h; cases R with
    | none => rfl
    | some x => cases h
  have TO := Mx.hid (fun w' h => text_any (.slice o1 o.length o2) o w' h)
  have TA := Mx.hid (fun w' h => text_any (.slice a1 a.length a2) a w' h)
  have HB0 : Hid (R.isSome = false → (R.getD []).length = 0) := hlen
  clear hlen d1 d2 d3
  obtain ⟨B, hB⟩ : ∃ B, B = R.isSome := ⟨_, rfl⟩
  rw [← hB] at t1 t1' HB0 ⊢
  have HBB := Mx.hid hB
  clear hB
  go_wp2_with fail
  refine k1.out.mono ?_
  rintro e w' ⟨rfl, rfl⟩
  cases B
  all_goals
    have hb0 := HB0.out
    try (have hl0 := hb0 rfl; rw [hl0])
    clear hb0
    go_wp2_with (first | ((with_reducible show wpList _ _ _ _ _ _); refine wpl_want rfl ?_))
    cases h1 : isText o with
    | false =>
      obtain ⟨e1, e2, r1, r2⟩ : mgE o a o = 0 ∧ mgE o a a = 0 ∧ mgR o a o = none ∧ mgR o a a = none := by
        rcases HSF.out with h | h | h
        · exact h.2
        · rw [h1] at h; exact absurd h.1 (by simp)
        · rw [h1] at h; exact absurd h.1 (by simp)
      have TO1 := Mx.hid (TO.out _ (hs3.old HO.out))
      rw [h1] at TO1
      clear h1
      refine TO1.out.mono ?_
      rintro e w' ⟨rfl, rfl⟩
      go_wp2_with (first | ((with_reducible show wpList _ _ _ _ _ _); refine wpl_want rfl ?_))
      refine (merge_as _ _ _ o a o _ (hs3.old HO.out) (hs3.old HA.out) (hs3.old HO.out) lo la lo r1 e1).mono ?_
      rintro e w4 ⟨vp, rfl, hs4⟩
      replace hs4 := hs3.call1 hs4
      go_wp2_with fail
      refine (merge_as _ _ _ o a a _ (hs4.old HO.out) (hs4.old HA.out) (hs4.old HA.out) lo la la r2 e2).mono ?_
      rintro e w5 ⟨vq, rfl, hs5⟩
      replace hs5 := hs4.call1 hs5
      clear hs3 hs4
      go_wp2_with fail
      refine (first_any _).mono ?_
      rintro e w6 ⟨rfl, hs6⟩
      replace hs6 := hs5.call0 hs6
      clear hs5
      go_wp2_with (first | ((with_reducible show wpList _ _ _ _ _ _); refine wpl_want rfl ?_))
      go_ret
      exact ⟨rfl, hs6.below⟩
    | true =>
      have TO1 := Mx.hid (TO.out _ (hs3.old HO.out))
      rw [h1] at TO1
      refine TO1.out.mono ?_
      rintro e w' ⟨rfl, rfl⟩
      go_wp2_with (first | ((with_reducible show wpList _ _ _ _ _ _); refine wpl_want rfl ?_))
      cases h2 : isText a with
      | false =>
      obtain ⟨e1, e2, r1, r2⟩ : mgE o a o = 0 ∧ mgE o a a = 0 ∧ mgR o a o = none ∧ mgR o a a = none := by
        rcases HSF.out with h | h | h
        · exact h.2
        · rw [h1, h2] at h; exact absurd h.1 (by simp)
        · rw [h1, h2] at h; exact absurd h.1 (by simp)
      have TA1 := Mx.hid (TA.out _ (hs3.old HA.out))
      rw [h2] at TA1
      clear h1 h2
      refine TA1.out.mono ?_
      rintro e w' ⟨rfl, rfl⟩
      go_wp2_with (first | ((with_reducible show wpList _ _ _ _ _ _); refine wpl_want rfl ?_))
      refine (merge_as _ _ _ o a o _ (hs3.old HO.out) (hs3.old HA.out) (hs3.old HO.out) lo la lo r1 e1).mono ?_
      rintro e w4 ⟨vp, rfl, hs4⟩
      replace hs4 := hs3.call1 hs4
      go_wp2_with fail
      refine (merge_as _ _ _ o a a _ (hs4.old HO.out) (hs4.old HA.out) (hs4.old HA.out) lo la la r2 e2).mono ?_
      rintro e w5 ⟨vq, rfl, hs5⟩
      replace hs5 := hs4.call1 hs5
      clear hs3 hs4
      go_wp2_with fail
      refine (first_any _).mono ?_
      rintro e w6 ⟨rfl, hs6⟩
      replace hs6 := hs5.call0 hs6
      clear hs5
      go_wp2_with (first | ((with_reducible show wpList _ _ _ _ _ _); refine wpl_want rfl ?_))
      go_ret
      exact ⟨rfl, hs6.below⟩
      | true =>
      have TA1 := Mx.hid (TA.out _ (hs3.old HA.out))
      rw [h2] at TA1
      refine TA1.out.mono ?_
      rintro e w' ⟨rfl, rfl⟩
      go_wp2_with (first | ((with_reducible show wpList _ _ _ _ _ _); refine wpl_want rfl ?_))
      rcases HSF.out with h | ⟨_, e1, e2, r1, r2⟩ | ⟨_, e1, e2, r1, r2⟩
      · rw [h1, h2] at h; exact absurd h.1 (by simp)
      · clear h1 h2
        refine (merge_as _ _ _ o a o _ (hs3.old HO.out) (hs3.old HA.out) (hs3.old HO.out) lo la lo r1 e1).mono ?_
        rintro e w4 ⟨vp, rfl, hs4⟩
        replace hs4 := hs3.call1 hs4
        go_wp2_with fail
        refine (merge_as _ _ _ o a a _ (hs4.old HO.out) (hs4.old HA.out) (hs4.old HA.out) lo la la r2 e2).mono ?_
        rintro e w5 ⟨vq, rfl, hs5⟩
        replace hs5 := hs4.call1 hs5
        clear hs3 hs4
        go_wp2_with fail
        refine (first_any _).mono ?_
        rintro e w6 ⟨rfl, hs6⟩
        replace hs6 := hs5.call0 hs6
        clear hs5
        go_wp2_with (first | ((with_reducible show wpList _ _ _ _ _ _); refine wpl_want rfl ?_))
        go_ret
        exact ⟨rfl, hs6.below⟩
      · clear h1 h2
        refine (merge_as _ _ _ o a o _ (hs3.old HO.out) (hs3.old HA.out) (hs3.old HO.out) lo la lo r1 e1).mono ?_
        rintro e w4 ⟨vp, rfl, hs4⟩
        replace hs4 := hs3.call1 hs4
        go_wp2_with fail
        refine (merge_as _ _ _ o a a _ (hs4.old HO.out) (hs4.old HA.out) (hs4.old HA.out) lo la la r2 e2).mono ?_
        rintro e w5 ⟨vq, rfl, hs5⟩
        replace hs5 := hs4.call1 hs5
        clear hs3 hs4
        go_wp2_with fail
        refine (first_any _).mono ?_
        rintro e w6 ⟨rfl, hs6⟩
        replace hs6 := hs5.call0 hs6
        clear hs5
        have k3 := Mx.hid (bytes_any vp (.slice a1 a.length a2) a a _ hs6.sl1 (hs6.old HA.out))
        have k4 := Mx.hid (bytes_any vq (.slice a1 a.length a2) a a _ hs6.sl0 (hs6.old HA.out))
        have kd : decide (a = a) = true := decide_eq_true rfl
        rw [kd] at k3 k4
        clear kd
        go_wp2_with (first | ((with_reducible show wpList _ _ _ _ _ _); refine wpl_want rfl ?_))
        refine k3.out.mono ?_
        rintro e w' ⟨rfl, rfl⟩
        go_wp2_with (first | ((with_reducible show wpList _ _ _ _ _ _); refine wpl_want rfl ?_))
        refine k4.out.mono ?_
        rintro e w' ⟨rfl, rfl⟩
        go_wp2_with (first | ((with_reducible show wpList _ _ _ _ _ _); refine wpl_want rfl ?_))
        go_ret
        exact ⟨rfl, hs6.below⟩

theorem diff3TurnsRow (vo : Value) (o : List UInt8) {w : World} (ho : Sl w 1 vo o.length (bs o)) (va : Value) (a : List UInt8) (ha : Sl w 1 va a.length (bs a)) (vb : Value) (b : List UInt8) (hb : Sl w 1 vb b.length (bs b)) (_w : World) :
    Calls Tryd.prog 6 #[vo, va, vb] w fun e w' => e = .returned (.bool true) ∧ Below w.heap.size w w' := diff3Turns_any w vo va vb o a b ho ha hb
end Go.Proofs.YtafmgclhgmhflaaDoor
