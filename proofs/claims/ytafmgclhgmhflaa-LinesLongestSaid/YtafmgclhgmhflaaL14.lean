/- marlaw14's helpers: Few, pairs, edits, first. -/
import Derived.Test.YtafmgclhgmhflaaDiff
import Derived.Test.YtafmgclhgmhflaaTextsQ
namespace Go.Proofs.Ytafmgclhgmhflaa
open Go.RowKit Go.Mx

def FewPost (l : List ByteArray) (w : World) (e : Ending) (w' : World) : Prop := (∃ b : Bool, e = .returned (.bool b) ∧ (b = true → l.length ≤ 220)) ∧ w = w'

theorem few_any (v : Value) (l : List ByteArray) (w : World) (hv : Sl w 1 v l.length (ss l)) :
    Calls Try.prog 10 #[v] w (FewPost l w) := by
  obtain ⟨ao, cap, blk, off, rfl, h1, h2, _, hc⟩ := hv.txt
  clear hv
  have HC := Mx.hid hc
  clear hc
  go_enter Try.func10, Try.ntmps10
  go_wp2_with fail
  go_loop [3, 4] (fun y x => ∃ i n : Nat, i ≤ l.length ∧ i ≤ 220 ∧ x = .int .i64 i ∧ y = .int .i64 n ∧ n ≤ 24000) (fun _ x => l.length - (intOf x).toNat)
  case atStart => exact ⟨0, 0, by omega, by omega, rfl, rfl, by omega⟩
  case round =>
    obtain ⟨i, n, hi, h4, rfl, rfl, hn⟩ := hrel
    by_cases hlt : i < l.length ∧ i < 220
    · obtain ⟨hlt, h400⟩ := hlt
      obtain ⟨rfl, c1⟩ := HC.out i hlt
      have hii : (i : Int) < (l.length : Int) := by omega
      have hjj : (i : Int) < 220 := by omega
      generalize hz : l[i].size = z at *
      go_wp2_with fail
      go_round
      case rel => exact ⟨i + 1, min (n + min z 6001) 24000, by omega, by omega, by go_num, by congr 1; omega, by omega⟩
      case measure => simp [intOf]; omega
    · by_cases hlt2 : i < l.length
      · have hii : decide ((i : Int) < (l.length : Int)) = true := decide_eq_true (by omega)
        have hjj : decide ((i : Int) < 220) = false := decide_eq_false (by omega)
        have hkk : decide ((l.length : Int) ≤ 220) = false := decide_eq_false (by omega)
        go_wp2_with fail
        go_ret
        exact ⟨⟨false, rfl, by simp⟩, rfl⟩
      · have hii : decide ((i : Int) < (l.length : Int)) = false := decide_eq_false (by omega)
        have hkk : decide ((l.length : Int) ≤ 220) = true := decide_eq_true (by omega)
        go_wp2_with fail
        go_ret
        exact ⟨⟨_, rfl, fun _ => by omega⟩, rfl⟩

/-- Pairs by their cells. -/
theorem sl_pairs {w : World} {v : Value} {l : List (Nat × Nat)} (h : Sl w 2 v l.length (pr l)) : ∃ ao cap blk off, v = .slice ao l.length cap ∧ l.length ≤ cap ∧ cap ≤ 9223372036854775807 ∧
    ∀ k (hk : k < l.length), ao = some ⟨blk, off, none⟩ ∧ w.cell? ⟨blk, off + k * 2, none⟩ = some (.int .i64 (l[k].1 : Int)) ∧ w.cell? ⟨blk, off + k * 2 + 1, none⟩ = some (.int .i64 (l[k].2 : Int)) := by
  obtain ⟨ao, cap, rfl, h1, h2, h3, _, hc⟩ := h.form
  unfold maxLen at h2
  by_cases hnil : l = []
  · subst hnil; exact ⟨ao, cap, 0, 0, rfl, h1, by omega, fun k hk => by simp at hk⟩
  · have hne : pr l ≠ [] := by intro he; rw [he] at h3; simp at h3; exact hnil (List.eq_nil_of_length_eq_zero (by omega))
    obtain ⟨blk, off, rfl, hh⟩ := hc hne
    refine ⟨_, cap, blk, off, rfl, h1, by omega, fun k hk => ?_⟩
    obtain ⟨e1, e2⟩ := pr_get hk
    have f1 := hh _ _ e1
    have f2 := hh _ _ e2
    rw [show off + 2 * k = off + k * 2 by omega] at f1
    rw [show off + (2 * k + 1) = off + k * 2 + 1 by omega] at f2
    exact ⟨rfl, f1, f2⟩

theorem mp3 {x y z : ByteArray} (h1 : x ≠ y) (h2 : x ≠ z) (h3 : y ≠ z) : mP [x, y, z] [y, z, x] = [(1, 0), (2, 1)] := by
  unfold mP
  rw [if_neg (by simp)]
  simp [mpairs, lt2, lcs, h1, h2, h3, Ne.symm h1, Ne.symm h2]
theorem dE2 {x y : ByteArray} (h1 : x ≠ y) : dE [x, y] [y] = [(0, 1, [])] := by
  unfold dE
  rw [if_neg (by simp)]
  simp [mpairs, lt2, lcs, h1, eds]
end Go.Proofs.Ytafmgclhgmhflaa
