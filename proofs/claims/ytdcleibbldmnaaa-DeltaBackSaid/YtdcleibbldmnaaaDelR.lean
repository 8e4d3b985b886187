/- The walks of the document's Sizes and step. -/
import Derived.Test.YtdcleibbldmnaaaDelP
import Derived.Test.YtdcleibbldmnaaaWireR
import Derived.Test.YtdcleibbldmnaaaLists
namespace Go.Proofs.Ytdcleibbldmnaaa
open Go.RowKit Go.Mx

def RSizesPost (w : World) (d : List UInt8) (e : Ending) (w' : World) : Prop :=
  e = .returned (.tuple #[.int .i64 (szA d : Int), .int .i64 (szB d : Int), .int .i64 (szE d)]) ∧ St w w' [] []

set_option maxHeartbeats 1000000 in
theorem refSizes_any (w : World) (vd : Value) (d : List UInt8) (hd : Sl w 1 vd d.length (bs d)) (hn : d.length ≤ 140737488355328) :
    Calls Try.prog 19 #[vd] w (RSizesPost w d) := by
  have hE : szE d = if nmE d ≠ 0 then nmE d else nmE (d.drop (nmJ d)) := rfl
  have hA : szA d = if szE d = 0 then nmN d else 0 := rfl
  have hB : szB d = if szE d = 0 then nmN (d.drop (nmJ d)) else 0 := rfl
  have hJ : nmJ d ≤ d.length := by
    by_cases h : nmE d = 0
    · exact (nm_good h).2.1
    · rw [(nm_bad h).2]; omega
  go_enter Try.func19, Try.ntmps19
  go_wp2_with fail
  refine (refGet_any vd d 0 w hd hn).mono ?_
  rintro e w1 ⟨rfl, hk⟩
  rw [nm_eq]
  have hg := nm_at hJ
  have HG := Mx.hid hg
  have HD := Mx.hid hd
  have HA := Mx.hid hA
  have HB := Mx.hid hB
  have HE := Mx.hid hE
  clear hd hg hA hB hE
  generalize hjj : ((nmJ d : Nat) : Int) = jj
  generalize hee : nmE d = ee
  generalize hnn : ((nmN d : Nat) : Int) = nn
  by_cases h0 : ee = 0
  · subst h0
    go_wp2_with fail
    refine (refGet_any vd d jj w1 (hk.old HD.out) hn).mono ?_
    rintro e w2 ⟨rfl, hk2⟩
    have hs := hk.call0 hk2
    rw [← hjj, HG.out]
    generalize he2 : nmE (d.drop (nmJ d)) = e2
    generalize hm2 : ((nmN (d.drop (nmJ d)) : Nat) : Int) = m2
    generalize (if e2 = 0 then ((nmJ d + nmJ (d.drop (nmJ d)) : Nat) : Int) else 0) = jx
    by_cases h2 : e2 = 0
    · subst h2
      go_wp2_with fail
      go_ret3
      have hE := HE.out
      rw [if_neg (by simp [hee]), he2] at hE
      have hA := HA.out
      have hB := HB.out
      rw [hE, if_pos rfl] at hA hB
      unfold RSizesPost
      rw [hA, hB, hE, ← hnn, ← hm2]
      exact ⟨rfl, hs⟩
    · have b1 : (e2 != 0) = true := by simpa using h2
      go_wp2_with fail
      go_ret3
      have hE := HE.out
      rw [if_neg (by simp [hee]), he2] at hE
      have hA := HA.out
      have hB := HB.out
      rw [hE, if_neg h2] at hA hB
      unfold RSizesPost
      rw [hA, hB, hE]
      exact ⟨rfl, hs⟩
  · have b1 : (ee != 0) = true := by simpa using h0
    go_wp2_with fail
    go_ret3
    have hE := HE.out
    rw [hee, if_pos h0] at hE
    have hA := HA.out
    have hB := HB.out
    rw [hE, if_neg h0] at hA hB
    unfold RSizesPost
    rw [hA, hB, hE]
    exact ⟨rfl, hk⟩
end Go.Proofs.Ytdcleibbldmnaaa
