/- The walk of marlaw2.WireNums: it returns true and leaves what was there as it was. -/
import Derived.Test.YtdalcdgkigkbbaaWireR
namespace Go.Proofs.Ytdalcdgkigkbbaa
open Go.RowKit Go.Mx

def putV (n : Int) : List UInt8 := if n < 0 ∨ 72057594037927936 < n then [] else putL n.toNat
def putE (n : Int) : Int := if n < 0 ∨ 72057594037927936 < n then 1 else 0
theorem PutPost.all {n : Int} {w w' : World} {e : Ending} (h : PutPost n w e w') : ∃ v, e = .returned (.tuple #[v, .int .i64 (putE n)]) ∧ St w w' [⟨v, 5, 1, (putV n).length, bs (putV n)⟩] [] := by
  unfold PutPost at h
  unfold putV putE
  by_cases hn : n < 0 ∨ 72057594037927936 < n
  · simp only [if_pos hn] at h ⊢
    obtain ⟨rfl, rfl⟩ := h
    exact ⟨_, rfl, St.nil _ _ _⟩
  · simp only [if_neg hn] at h ⊢
    exact h

set_option maxRecDepth 100000 in
set_option maxHeartbeats 2000000 in
theorem wireNums_any (w : World) (n : Int) (wn : (Lit.int .i64 n).wf = true) (v : Value) (b : List UInt8) (hv : Sl w 1 v b.length (bs b)) (at_ : Int) :
    Calls Try.prog 3 #[.int .i64 n, v, .int .i64 at_] w fun e w' => e = .returned (.bool true) ∧ Below w.heap.size w w' := by
  by_cases hb : 6000 < b.length
  · go_enter Try.func3, Try.ntmps3
    go_wp2_with fail
    refine (first_any _).mono ?_
    rintro e w1 ⟨rfl, hs1⟩
    have hb' : (6000 : Int) < (b.length : Int) := by omega
    go_wp2_with (first | ((with_reducible show wpList _ _ _ _ _ _); refine wpl_len rfl 22 5 _ rfl Try.underlying22 (by exact hs1.old hv) ?_) | (go_at_call 12; refine (first_any _).mono ?_; rintro e w2 ⟨rfl, hs2⟩))
    go_ret
    exact ⟨rfl, (hs1.call0 hs2).below⟩
  · have hb' : decide ((6000 : Int) < (b.length : Int)) = false := decide_eq_false (by omega)
    go_enter Try.func3, Try.ntmps3
    go_wp2_with fail
    refine (first_any _).mono ?_
    rintro e w1 ⟨rfl, hs1⟩
    go_wp2_with (first | ((with_reducible show wpList _ _ _ _ _ _); refine wpl_len rfl 22 5 _ rfl Try.underlying22 (by exact hs1.old hv) ?_))
    refine (copyBytes_any v b _ (hs1.old hv) (by omega)).mono ?_
    rintro e w2 ⟨v2, rfl, hs2⟩
    replace hs2 := hs1.call1 hs2
    clear hs1
    go_wp2_with fail
    refine (Put_any n _ wn).mono ?_
    intro e w3 h3
    obtain ⟨v3, rfl, hs3⟩ := h3.all
    replace hs3 := hs2.call1 hs3
    clear hs2 h3
    go_wp2_with fail
    refine (refPut_any n _).mono ?_
    intro e w4 h4
    obtain ⟨v4, rfl, hs4⟩ := h4.all
    replace hs4 := hs3.call1 hs4
    clear hs3 h4
    go_wp2_with fail
    refine (get_any v2 b at_ _ hs4.sl2 (by omega)).mono ?_
    rintro e w5 ⟨rfl, hs5⟩
    replace hs5 := hs4.call0 hs5
    clear hs4
    go_wp2_with fail
    refine (refGet_any v b at_ _ (hs5.old hv) (by omega)).mono ?_
    rintro e w6 ⟨rfl, hs6⟩
    replace hs6 := hs5.call0 hs6
    clear hs5
    generalize getS b at_ = G at *
    obtain ⟨g1, g2, g3⟩ := G
    generalize putE n = E at *
    generalize putV n = V at *
    have d1 : decide (V = V) = true := decide_eq_true rfl
    have d2 : decide (b = b) = true := decide_eq_true rfl
    go_wp2_with (first | (go_at_call 12; refine (first_any _).mono ?_; rintro e w7 ⟨rfl, hs7⟩; replace hs7 := hs6.call0 hs7) | (go_at_call 18; refine (bytes_any v3 v4 V V _ (by exact hs7.sl1) (by exact hs7.sl0)).mono ?_; rintro e w' ⟨rfl, rfl⟩) | (go_at_call 18; refine (bytes_any v2 v b b _ (by exact hs7.sl2) (by exact hs7.old hv)).mono ?_; rintro e w' ⟨rfl, rfl⟩))
    go_ret
    exact ⟨rfl, hs7.below⟩

theorem wireNumsRow (n : Int) (wn : (Lit.int .i64 n).wf = true) (v : Value) (b : List UInt8) {w : World} (hv : Sl w 1 v b.length (bs b)) (at_ : Int) (_wa : (Lit.int .i64 at_).wf = true) (_w : World) :
    Calls Try.prog 3 #[.int .i64 n, v, .int .i64 at_] w fun e w' => e = .returned (.bool true) ∧ Below w.heap.size w w' := wireNums_any w n wn v b hv at_
end Go.Proofs.Ytdalcdgkigkbbaa
