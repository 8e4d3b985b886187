/- marlaw14.LinesMatches: it returns true and leaves what was there as it was. -/
import Derived.Test.YtknmmfffcihkpaaL14F
namespace Go.Proofs.Ytknmmfffcihkpaa
open Go.RowKit Go.Mx

set_option maxRecDepth 100000 in
set_option maxHeartbeats 4000000 in
theorem linesMatches_any (w : World) (va vb : Value) (a b : List ByteArray) (ha : Sl w 1 va a.length (ss a)) (hb : Sl w 1 vb b.length (ss b)) :
    Calls Try.prog 3 #[va, vb] w fun e w' => e = .returned (.bool true) ∧ Below w.heap.size w w' := by
  go_enter Try.func3, Try.ntmps3
  go_wp2_with fail
  refine (first_any _).mono ?_
  rintro e w1 ⟨rfl, hs1⟩
  go_wp2_with fail
  refine (few_any va a _ (hs1.old ha)).mono ?_
  rintro e w' ⟨⟨ba, rfl, fa⟩, rfl⟩
  cases ba with
  | false =>
    clear fa
    go_wp2_with (first | ((with_reducible show wpList _ _ _ _ _ _); refine wpl_want rfl ?_) | (go_at_call 7; refine (first_any _).mono ?_; rintro e w2 ⟨rfl, hs2⟩))
    go_ret
    exact ⟨rfl, (hs1.call0 hs2).below⟩
  | true =>
    have la := fa rfl
    clear fa
    go_wp2_with (first | ((with_reducible show wpList _ _ _ _ _ _); refine wpl_want rfl ?_))
    refine (few_any vb b _ (hs1.old hb)).mono ?_
    rintro e w' ⟨⟨bb, rfl, fb⟩, rfl⟩
    cases bb with
    | false =>
      clear fb
      go_wp2_with (first | ((with_reducible show wpList _ _ _ _ _ _); refine wpl_want rfl ?_) | (go_at_call 7; refine (first_any _).mono ?_; rintro e w2 ⟨rfl, hs2⟩))
      go_ret
      exact ⟨rfl, (hs1.call0 hs2).below⟩
    | true =>
      have lb := fb rfl
      clear fb
      go_wp2_with (first | ((with_reducible show wpList _ _ _ _ _ _); refine wpl_want rfl ?_))
      refine (copyTexts_any va a _ (hs1.old ha) (by omega)).mono ?_
      rintro e w2 ⟨vx, rfl, hs2⟩
      replace hs2 := hs1.call1 hs2
      clear hs1
      go_wp2_with fail
      refine (copyTexts_any vb b _ (hs2.old hb) (by omega)).mono ?_
      rintro e w3 ⟨vy, rfl, hs3⟩
      replace hs3 := hs2.call1 hs3
      clear hs2
      go_wp2_with fail
      refine (match_any vx vy a b _ hs3.sl1 hs3.sl0).mono ?_
      rintro e w4 ⟨vp, rfl, hs4⟩
      replace hs4 := hs3.call1 hs4
      clear hs3
      go_wp2_with fail
      refine (refMatch_any va vb a b _ (hs4.old ha) (hs4.old hb)).mono ?_
      rintro e w5 ⟨vq, rfl, hs5⟩
      replace hs5 := hs4.call1 hs5
      clear hs4
      have hx := (hs5.tail.tail).sl1
      have hy := (hs5.tail.tail).sl0
      go_wp2_with fail
      refine (diff_any vx vy a b _ hx hy).mono ?_
      rintro e w6 ⟨vd, rfl, hs6, ed6⟩
      replace hs6 := hs5.call0 hs6
      clear hs5 hx hy
      go_wp2_with fail
      refine (refDiff_any va vb a b _ (hs6.old ha) (hs6.old hb)).mono ?_
      rintro e w7 ⟨vc, rfl, hs7, ed7⟩
      replace ed6 := ed6.old hs7
      replace hs7 := hs6.call0 hs7
      clear hs6
      generalize mE a b = E at *
      generalize mP a b = P at *
      generalize dE a b = D at *
      go_wp2_with fail
      refine (first_any _).mono ?_
      rintro e w8 ⟨rfl, hs8⟩
      replace ed6 := ed6.old hs8
      replace ed7 := ed7.old hs8
      replace hs8 := hs7.call0 hs8
      clear hs7
      have hp := hs8.sl1
      have hq := hs8.sl0
      have hE : (E == E) = true := by simp
      go_wp2_with (first | ((with_reducible show wpList _ _ _ _ _ _); refine wpl_want rfl ?_))
      refine (pairs_same vp vq P _ hp hq).mono ?_
      rintro e w9 ⟨rfl, hs9⟩
      replace ed6 := ed6.old hs9
      replace ed7 := ed7.old hs9
      replace hs9 := hs8.call0 hs9
      clear hs8 hp hq
      go_wp2_with (first | ((with_reducible show wpList _ _ _ _ _ _); refine wpl_want rfl ?_))
      refine (edits_same vd vc D _ ed6 ed7).mono ?_
      rintro e w10 ⟨rfl, hs10⟩
      replace hs10 := hs9.call0 hs10
      clear hs9 ed6 ed7
      have hx := (hs10.tail.tail).sl1
      have hy := (hs10.tail.tail).sl0
      go_wp2_with (first | ((with_reducible show wpList _ _ _ _ _ _); refine wpl_want rfl ?_))
      refine (texts_same vx va a a _ hx (hs10.old ha) rfl).mono ?_
      rintro e w11 ⟨rfl, hs11⟩
      replace hs11 := hs10.call0 hs11
      clear hs10 hx hy
      have hy := (hs11.tail.tail).sl0
      go_wp2_with (first | ((with_reducible show wpList _ _ _ _ _ _); refine wpl_want rfl ?_))
      refine (texts_same vy vb b b _ hy (hs11.old hb) rfl).mono ?_
      rintro e w12 ⟨rfl, hs12⟩
      replace hs12 := hs11.call0 hs12
      go_wp2_with (first | ((with_reducible show wpList _ _ _ _ _ _); refine wpl_want rfl ?_))
      go_ret
      exact ⟨rfl, hs12.below⟩

theorem linesMatchesRow (va : Value) (a : List ByteArray) {w : World} (ha : Sl w 1 va a.length (ss a)) (_la : ∀ s ∈ a, s.size ≤ maxLen) (vb : Value) (b : List ByteArray) (hb : Sl w 1 vb b.length (ss b)) (_lb : ∀ s ∈ b, s.size ≤ maxLen) (_w : World) :
    Calls Try.prog 3 #[va, vb] w fun e w' => e = .returned (.bool true) ∧ Below w.heap.size w w' := linesMatches_any w va vb a b ha hb
end Go.Proofs.Ytknmmfffcihkpaa
