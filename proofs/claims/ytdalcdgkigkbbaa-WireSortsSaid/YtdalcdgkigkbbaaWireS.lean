/- The walks of Compare; marlaw2.WireSums. -/
import Derived.Test.YtdalcdgkigkbbaaWireF
import Derived.Test.YtdalcdgkigkbbaaOrd
namespace Go.Proofs.Ytdalcdgkigkbbaa
open Go.RowKit Go.Mx

theorem compare_any (s t : ByteArray) (w : World) : Calls Try.prog 21 #[.string s, .string t] w fun e w' => e = .returned (.int .i64 (cmpL s.toList t.toList)) ∧ w = w' := by
  generalize hx : s.toList = x
  generalize hy : t.toList = y
  by_cases h : Op.bytesLess x y = true
  · have hc : cmpL x y = -1 := by rw [cmpL, if_pos h]
    have HC := hid hc
    clear hc
    go_enter Try.func21, Try.ntmps21
    go_wp2_with fail
    go_ret
    exact ⟨by rw [HC.out]; rfl, rfl⟩
  · have h : Op.bytesLess x y = false := by simpa using h
    by_cases he : x = y
    · have hc : cmpL x y = 0 := by rw [cmpL, h, if_pos he]; rfl
      have hb : (x == y) = true := by simpa using he
      have HC := hid hc
      clear hc he
      go_enter Try.func21, Try.ntmps21
      go_wp2_with fail
      go_ret
      exact ⟨by rw [HC.out]; rfl, rfl⟩
    · have hc : cmpL x y = 1 := by rw [cmpL, h, if_neg he]; rfl
      have hb : (x == y) = false := by simpa using he
      have HC := hid hc
      clear hc he
      go_enter Try.func21, Try.ntmps21
      go_wp2_with fail
      go_ret
      exact ⟨by rw [HC.out]; rfl, rfl⟩

theorem refCompare_any (s t : ByteArray) (w : World) : Calls Try.prog 22 #[.string s, .string t] w fun e w' => e = .returned (.int .i64 (cmpL s.toList t.toList)) ∧ w = w' := by
  generalize hx : s.toList = x
  generalize hy : t.toList = y
  by_cases h : Op.bytesLess x y = true
  · have hc : cmpL x y = -1 := by rw [cmpL, if_pos h]
    have HC := hid hc
    clear hc
    go_enter Try.func22, Try.ntmps22
    go_wp2_with fail
    go_ret
    exact ⟨by rw [HC.out]; rfl, rfl⟩
  · have h : Op.bytesLess x y = false := by simpa using h
    by_cases he : x = y
    · have hc : cmpL x y = 0 := by rw [cmpL, h, if_pos he]; rfl
      have hb : (x == y) = true := by simpa using he
      have HC := hid hc
      clear hc he
      go_enter Try.func22, Try.ntmps22
      go_wp2_with fail
      go_ret
      exact ⟨by rw [HC.out]; rfl, rfl⟩
    · have hc : cmpL x y = 1 := by rw [cmpL, h, if_neg he]; rfl
      have hb : (x == y) = false := by simpa using he
      have HC := hid hc
      clear hc he
      go_enter Try.func22, Try.ntmps22
      go_wp2_with fail
      go_ret
      exact ⟨by rw [HC.out]; rfl, rfl⟩

set_option maxRecDepth 100000 in
set_option maxHeartbeats 2000000 in
theorem wireSums_any (w : World) (v : Value) (b : List UInt8) (hv : Sl w 1 v b.length (bs b)) (s t : ByteArray) :
    Calls Try.prog 7 #[v, .string s, .string t] w fun e w' => e = .returned (.bool true) ∧ Below w.heap.size w w' := by
  by_cases hb : 6000 < b.length ∨ 6000 < s.size ∨ 6000 < t.size
  · have hw : decide (6000 < (b.length : Int)) = true ∨ (decide (6000 < (b.length : Int)) = false ∧ decide (6000 < (s.size : Int)) = true) ∨ (decide (6000 < (b.length : Int)) = false ∧ decide (6000 < (s.size : Int)) = false ∧ decide (6000 < (t.size : Int)) = true) := by
      simp only [decide_eq_true_eq, decide_eq_false_iff_not]; omega
    rcases hw with h1 | ⟨h1, h2⟩ | ⟨h1, h2, h3⟩
    all_goals
      go_enter Try.func7, Try.ntmps7
      go_wp2_with fail
      refine (first_any _).mono ?_
      rintro e w1 ⟨rfl, hs1⟩
      go_wp2_with (first | ((with_reducible show wpList _ _ _ _ _ _); refine wpl_want rfl ?_) | ((with_reducible show wpList _ _ _ _ _ _); refine wpl_len rfl 22 5 _ rfl Try.underlying22 (by exact hs1.old hv) ?_) | (go_at_call 12; refine (first_any _).mono ?_; rintro e w2 ⟨rfl, hs2⟩))
      go_ret
      exact ⟨rfl, (hs1.call0 hs2).below⟩
  · have h1 : decide (6000 < (b.length : Int)) = false := decide_eq_false (by omega)
    have h2 : decide (6000 < (s.size : Int)) = false := decide_eq_false (by omega)
    have h3 : decide (6000 < (t.size : Int)) = false := decide_eq_false (by omega)
    have hn := cmpL_neg s.toList t.toList
    have hr := cmpL_range s.toList t.toList
    have hr1 : -1 ≤ cmpL s.toList t.toList := by omega
    have hr2 : cmpL s.toList t.toList ≤ 1 := by omega
    clear hr
    go_enter Try.func7, Try.ntmps7
    go_wp2_with fail
    refine (first_any _).mono ?_
    rintro e w1 ⟨rfl, hs1⟩
    go_wp2_with (first | ((with_reducible show wpList _ _ _ _ _ _); refine wpl_want rfl ?_) | ((with_reducible show wpList _ _ _ _ _ _); refine wpl_len rfl 22 5 _ rfl Try.underlying22 (by exact hs1.old hv) ?_) | (go_at_call 12; refine (first_any _).mono ?_; rintro e w2 ⟨rfl, hs2⟩; replace hs2 := hs1.call0 hs2) | (go_at_call 19; refine (crc_any _ b _ (hs2.old hv) (by omega)).mono ?_; rintro e w3 ⟨rfl, hs3⟩; replace hs3 := hs2.call0 hs3) | (go_at_call 20; refine (crcRef_any _ b _ (hs3.old hv) (by omega)).mono ?_; rintro e w4 ⟨rfl, rfl⟩) | (go_at_call 21; refine (compare_any _ _ _).mono ?_; rintro e w4 ⟨rfl, rfl⟩) | (go_at_call 22; refine (refCompare_any _ _ _).mono ?_; rintro e w4 ⟨rfl, rfl⟩))
    go_ret
    exact ⟨rfl, hs3.below⟩

theorem wireSumsRow (v : Value) (b : List UInt8) {w : World} (hv : Sl w 1 v b.length (bs b)) (s : ByteArray) (_hs : s.size ≤ maxLen) (t : ByteArray) (_ht : t.size ≤ maxLen) (_w : World) :
    Calls Try.prog 7 #[v, .string s, .string t] w fun e w' => e = .returned (.bool true) ∧ Below w.heap.size w w' := wireSums_any w v b hv s t
end Go.Proofs.Ytdalcdgkigkbbaa
