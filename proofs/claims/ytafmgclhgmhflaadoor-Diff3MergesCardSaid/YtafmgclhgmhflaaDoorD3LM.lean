/- marlaw15.Diff3Merges: it returns true and leaves what was there as it was. -/
import Derived.Test.YtafmgclhgmhflaaDoorD3F
namespace Go.Proofs.YtafmgclhgmhflaaDoor
open Go.RowKit Go.Mx

set_option maxRecDepth 100000 in
set_option maxHeartbeats 4000000 in
theorem diff3Merges_any (w : World) (vo va vb : Value) (o a b : List UInt8) (ho : Sl w 1 vo o.length (bs o)) (ha : Sl w 1 va a.length (bs a)) (hb : Sl w 1 vb b.length (bs b)) :
    Calls Tryd.prog 4 #[vo, va, vb] w fun e w' => e = .returned (.bool true) ∧ Below w.heap.size w w' := by
  have HO := Mx.hid ho
  have HA := Mx.hid ha
  have HB := Mx.hid hb
  obtain ⟨o1, o2, rfl, h1, h2, _, _⟩ := ho.form
  obtain ⟨a1, a2, rfl, h3, h4, _, _⟩ := ha.form
  obtain ⟨b1, b2, rfl, h5, h6, _, _⟩ := hb.form
  unfold maxLen at h2 h4 h6
  clear ho ha hb
  go_enter Tryd.func4, Tryd.ntmps4
  go_wp2_with fail
  refine (first_any _).mono ?_
  rintro e w1 ⟨rfl, hs1⟩
  by_cases hbig : 4000 < o.length ∨ 4000 < a.length ∨ 4000 < b.length
  · have hb' : 4000 < o.length ∨ (o.length ≤ 4000 ∧ 4000 < a.length) ∨ (o.length ≤ 4000 ∧ a.length ≤ 4000 ∧ 4000 < b.length) := by omega
    clear hbig
    rcases hb' with g | ⟨g, g2⟩ | ⟨g, g2, g3⟩
    · have d1 : decide ((4000 : Int) < (o.length : Int)) = true := decide_eq_true (by omega)
      go_wp2_with (first | ((with_reducible show wpList _ _ _ _ _ _); refine wpl_want rfl ?_) | (go_at_call 9; refine (first_any _).mono ?_; rintro e w2 ⟨rfl, hs2⟩))
      go_ret
      exact ⟨rfl, (hs1.call0 hs2).below⟩
    · have d1 : decide ((4000 : Int) < (o.length : Int)) = false := decide_eq_false (by omega)
      have d2 : decide ((4000 : Int) < (a.length : Int)) = true := decide_eq_true (by omega)
      go_wp2_with (first | ((with_reducible show wpList _ _ _ _ _ _); refine wpl_want rfl ?_) | (go_at_call 9; refine (first_any _).mono ?_; rintro e w2 ⟨rfl, hs2⟩))
      go_ret
      exact ⟨rfl, (hs1.call0 hs2).below⟩
    · have d1 : decide ((4000 : Int) < (o.length : Int)) = false := decide_eq_false (by omega)
      have d2 : decide ((4000 : Int) < (a.length : Int)) = false := decide_eq_false (by omega)
      have d3 : decide ((4000 : Int) < (b.length : Int)) = true := decide_eq_true (by omega)
      go_wp2_with (first | ((with_reducible show wpList _ _ _ _ _ _); refine wpl_want rfl ?_) | (go_at_call 9; refine (first_any _).mono ?_; rintro e w2 ⟨rfl, hs2⟩))
      go_ret
      exact ⟨rfl, (hs1.call0 hs2).below⟩
  have d1 : decide ((4000 : Int) < (o.length : Int)) = false := decide_eq_false (by omega)
  have d2 : decide ((4000 : Int) < (a.length : Int)) = false := decide_eq_false (by omega)
  have d3 : decide ((4000 : Int) < (b.length : Int)) = false := decide_eq_false (by omega)
  have lo : o.length ≤ 1000000 := by omega
  have la : a.length ≤ 1000000 := by omega
  have lb : b.length ≤ 1000000 := by omega
  clear hbig
  go_wp2_with (first | ((with_reducible show wpList _ _ _ _ _ _); refine wpl_want rfl ?_))
  refine (merge_any _ _ _ o a b _ (hs1.old HO.out) (hs1.old HA.out) (hs1.old HB.out) lo la lb).mono ?_
  rintro e w2 ⟨vx, rfl, hs2⟩
  replace hs2 := hs1.call1 hs2
  go_wp2_with fail
  refine (refMerge_any _ _ _ o a b _ (hs2.old HO.out) (hs2.old HA.out) (hs2.old HB.out) lo la lb).mono ?_
  rintro e w3 ⟨vy, rfl, hs3⟩
  replace hs3 := hs2.call1 hs3
  clear hs2 hs1
  generalize mgE o a b = E at *
  generalize mgR o a b = R at *
  have t1 : (R.isSome == R.isSome) = true := by simp
  have t2 : (E == E) = true := by simp
  generalize R.getD [] = L at *
  generalize R.isSome = B at *
  go_wp2_with fail
  refine (first_any _).mono ?_
  rintro e w4 ⟨rfl, hs4⟩
  replace hs4 := hs3.call0 hs4
  go_wp2_with (first | ((with_reducible show wpList _ _ _ _ _ _); refine wpl_want rfl ?_))
  have k1 := Mx.hid (bytes_any vx vy L L _ hs4.sl1 hs4.sl0)
  have kd : decide (L = L) = true := decide_eq_true rfl
  rw [kd] at k1
  clear kd
  refine k1.out.mono ?_
  rintro e w' ⟨rfl, rfl⟩
  go_wp2_with (first | ((with_reducible show wpList _ _ _ _ _ _); refine wpl_want rfl ?_))
  go_ret
  exact ⟨rfl, hs4.below⟩

theorem diff3MergesRow (vo : Value) (o : List UInt8) {w : World} (ho : Sl w 1 vo o.length (bs o)) (va : Value) (a : List UInt8) (ha : Sl w 1 va a.length (bs a)) (vb : Value) (b : List UInt8) (hb : Sl w 1 vb b.length (bs b)) (_w : World) :
    Calls Tryd.prog 4 #[vo, va, vb] w fun e w' => e = .returned (.bool true) ∧ Below w.heap.size w w' := diff3Merges_any w vo va vb o a b ho ha hb
end Go.Proofs.YtafmgclhgmhflaaDoor
