/- The walks of Sizes and Apply. -/
import Derived.Test.YtdcleibbldmnaaaDelS
namespace Go.Proofs.Ytdcleibbldmnaaa
open Go.RowKit Go.Mx

def SizesPost (w : World) (d : List UInt8) (e : Ending) (w' : World) : Prop :=
  e = .returned (.tuple #[.int .i64 (szA d : Int), .int .i64 (szB d : Int), .int .i64 (szE d)]) ∧ St w w' [] []

set_option maxHeartbeats 1000000 in
theorem sizes_any (w : World) (vd : Value) (d : List UInt8) (hd : Sl w 1 vd d.length (bs d)) (hn : d.length ≤ 140737488355328) :
    Calls Try.prog 18 #[vd] w (SizesPost w d) := by
  obtain ⟨ao, ac, rfl, _⟩ := id hd
  go_enter Try.func18, Try.ntmps18
  go_wp2_with fail
  have hs0 : St w (w.alloc (Obj.cells #[.slice ao d.length ac, .int .i64 0] 43)) [rdr w.heap.size (.slice ao d.length ac) 0] [] := (St.refl w).made #[.slice ao d.length ac, .int .i64 0] 43 2 1 rfl (by simp [maxLen])
  generalize w.alloc (Obj.cells #[.slice ao d.length ac, .int .i64 0] 43) = w1 at hs0 ⊢
  generalize w.heap.size = g at *
  refine (number_go w w1 [] [] g _ d hs0 hd hn).mono ?_
  rintro e w2 ⟨v2, rfl, hv2, hs2⟩
  have ce : w2.cell? ⟨g, 1, none⟩ = some (.int .i64 (nmE d)) := hs2.rcell (List.mem_cons_self ..) rfl
  have hdl : (d.drop (nmJ d)).length ≤ d.length := by rw [List.length_drop]; omega
  have hE : szE d = if nmE d ≠ 0 then nmE d else nmE (d.drop (nmJ d)) := rfl
  have hA : szA d = if szE d = 0 then nmN d else 0 := rfl
  have hB : szB d = if szE d = 0 then nmN (d.drop (nmJ d)) else 0 := rfl
  generalize nmN d = pl at *
  generalize d.drop (nmJ d) = l2 at *
  generalize nmE d = ee at *
  have HB := Mx.hid hB
  have HA := Mx.hid hA
  have HE := Mx.hid hE
  clear hB hA hE hs0
  by_cases hee : ee = 0
  · subst hee
    clear ce
    go_wp2_with fail
    refine (number_go w w2 [] [] g v2 l2 hs2 hv2 (by omega)).mono ?_
    rintro e w3 ⟨v3, rfl, hv3, hs3⟩
    have ce : w3.cell? ⟨g, 1, none⟩ = some (.int .i64 (nmE l2)) := hs3.rcell (List.mem_cons_self ..) rfl
    generalize hll : nmN l2 = nn at *
    generalize hle : nmE l2 = e2 at *
    clear hv3 hv2 hs2
    by_cases he2 : e2 = 0
    · subst he2
      go_wp2_with fail
      go_ret3
      have hE := HE.out
      rw [if_neg (by simp)] at hE
      have hA := HA.out
      have hB := HB.out
      rw [hE, if_pos rfl] at hA hB
      unfold SizesPost
      rw [hA, hB, hE]
      exact ⟨rfl, hs3.bare⟩
    · have b1 : (e2 != 0) = true := by simpa using he2
      go_wp2_with fail
      go_quiet (fail)
      go_wp2_with fail
      go_ret3
      have hE := HE.out
      rw [if_neg (by simp)] at hE
      have hA := HA.out
      have hB := HB.out
      rw [hE, if_neg he2] at hA hB
      unfold SizesPost
      rw [hA, hB, hE]
      exact ⟨rfl, by first | exact (hs3.drewN _).bare | exact (hs3.drewN _).drew.bare⟩
  · have b1 : (ee != 0) = true := by simpa using hee
    go_wp2_with fail
    refine (number_stop w2 g ee ce hee).mono ?_
    rintro e w3 ⟨rfl, hk⟩
    have hs3 := hs2.call0 hk
    have ce3 : w3.cell? ⟨g, 1, none⟩ = some (.int .i64 ee) := hs3.rcell (List.mem_cons_self ..) rfl
    clear ce
    go_wp2_with fail
    go_quiet (fail)
    go_wp2_with fail
    go_ret3
    have hE := HE.out
    rw [if_pos hee] at hE
    have hA := HA.out
    have hB := HB.out
    rw [hE, if_neg hee] at hA hB
    unfold SizesPost
    rw [hA, hB, hE]
    exact ⟨rfl, by first | exact (hs3.drewN _).bare | exact (hs3.drewN _).drew.bare⟩
end Go.Proofs.Ytdcleibbldmnaaa
