/- marlaw14's helpers: Few, pairs, edits, first. -/
import Derived.Test.YtknmmfffcihkpaaDiffR
import Derived.Test.YtknmmfffcihkpaaTextsQ
namespace Go.Proofs.Ytknmmfffcihkpaa
open Go.RowKit Go.Mx

def FewPost (l : List ByteArray) (w : World) (e : Ending) (w' : World) : Prop := (∃ b : Bool, e = .returned (.bool b) ∧ (b = true → l.length ≤ 220)) ∧ w = w'

theorem few_any (v : Value) (l : List ByteArray) (w : World) (hv : Sl w 1 v l.length (ss l)) :
    Calls Try.prog 8 #[v] w (FewPost l w) := by
  obtain ⟨ao, cap, blk, off, rfl, h1, h2, _, hc⟩ := hv.txt
  clear hv
  have HC := Mx.hid hc
  clear hc
  go_enter Try.func8, Try.ntmps8
  go_wp2_with fail
  go_loop [3, 4] (fun y x => ∃ i n : Nat, i ≤ l.length ∧ i ≤ 220 ∧ x = .int .i64 i ∧ y = .int .i64 n ∧ n ≤ 24000) (fun _ x => l.length - (intOf x).toNat)
  case atStart => exact ⟨0, 0, by omega, by omega, rfl, rfl, by omega⟩
  case round =>
    obtain ⟨i, n, hi, h4, rfl, rfl, hn⟩ := hrel
    by_cases hlt : i < l.length ∧ i < 220
    · obtain ⟨hlt, h400⟩ := hlt
      obtain ⟨rfl, c1⟩ := HC.out i hlt
      have hii : (i : Int) < (l.length : Int) := by omega
      have hjj : (i : Int) < 220 := by omega
      generalize hz : l[i].size = z at *
      go_wp2_with fail
      go_round
      case rel => exact ⟨i + 1, min (n + min z 6001) 24000, by omega, by omega, by go_num, by congr 1; omega, by omega⟩
      case measure => simp [intOf]; omega
    · by_cases hlt2 : i < l.length
      · have hii : decide ((i : Int) < (l.length : Int)) = true := decide_eq_true (by omega)
        have hjj : decide ((i : Int) < 220) = false := decide_eq_false (by omega)
        have hkk : decide ((l.length : Int) ≤ 220) = false := decide_eq_false (by omega)
        go_wp2_with fail
        go_ret
        exact ⟨⟨false, rfl, by simp⟩, rfl⟩
      · have hii : decide ((i : Int) < (l.length : Int)) = false := decide_eq_false (by omega)
        have hkk : decide ((l.length : Int) ≤ 220) = true := decide_eq_true (by omega)
        go_wp2_with fail
        go_ret
        exact ⟨⟨_, rfl, fun _ => by omega⟩, rfl⟩

/-- Pairs by their cells. -/
theorem sl_pairs {w : World} {v : Value} {l : List (Nat × Nat)} (h : Sl w 2 v l.length (pr l)) : ∃ ao cap blk off, v = .slice ao l.length cap ∧ l.length ≤ cap ∧ cap ≤ 9223372036854775807 ∧
    ∀ k (hk : k < l.length), ao = some ⟨blk, off, none⟩ ∧ w.cell? ⟨blk, off + k * 2, none⟩ = some (.int .i64 (l[k].1 : Int)) ∧ w.cell? ⟨blk, off + k * 2 + 1, none⟩ = some (.int .i64 (l[k].2 : Int)) := by
  obtain ⟨ao, cap, rfl, h1, h2, h3, _, hc⟩ := h.form
  unfold maxLen at h2
  by_cases hnil : l = []
  · subst hnil; exact ⟨ao, cap, 0, 0, rfl, h1, by omega, fun k hk => by simp at hk⟩
  · have hne : pr l ≠ [] := by intro he; rw [he] at h3; simp at h3; exact hnil (List.eq_nil_of_length_eq_zero (by omega))
    obtain ⟨blk, off, rfl, hh⟩ := hc hne
    refine ⟨_, cap, blk, off, rfl, h1, by omega, fun k hk => ?_⟩
    obtain ⟨e1, e2⟩ := pr_get hk
    have f1 := hh _ _ e1
    have f2 := hh _ _ e2
    rw [show off + 2 * k = off + k * 2 by omega] at f1
    rw [show off + (2 * k + 1) = off + k * 2 + 1 by omega] at f2
    exact ⟨rfl, f1, f2⟩

set_option maxHeartbeats 1000000 in
theorem pairs_same (v v' : Value) (l : List (Nat × Nat)) (w : World) (hv : Sl w 2 v l.length (pr l)) (hv' : Sl w 2 v' l.length (pr l)) :
    Calls Try.prog 14 #[v, v'] w fun e w' => e = .returned (.bool true) ∧ St w w' [] [] := by
  obtain ⟨ao, cap, blk, off, rfl, h1, h2, hc⟩ := sl_pairs hv
  obtain ⟨ao', cap', blk', off', rfl, h1', h2', hc'⟩ := sl_pairs hv'
  clear hv hv'
  have HC := Mx.hid hc
  have HC' := Mx.hid hc'
  clear hc hc'
  have hb : ((l.length : Int) != (l.length : Int)) = false := by simp
  go_enter Try.func14, Try.ntmps14
  go_wp2_with fail
  go_loopw [5] (fun x wr => ∃ i : Nat, i ≤ l.length ∧ x = .int .i64 i ∧ St w wr [] []) (fun x _ => l.length - (intOf x).toNat)
  case atStart => exact ⟨0, by omega, rfl, St.refl w⟩
  case round =>
    obtain ⟨i, hi, rfl, hs⟩ := hrel
    by_cases hlt : i < l.length
    · obtain ⟨rfl, c1, c2⟩ := HC.out i hlt
      obtain ⟨rfl, c3, c4⟩ := HC'.out i hlt
      replace c1 := hs.keep c1
      replace c2 := hs.keep c2
      replace c3 := hs.keep c3
      replace c4 := hs.keep c4
      have hii : (i : Int) < (l.length : Int) := by omega
      generalize l[i].1 = p at *
      generalize l[i].2 = q at *
      have e1 : ((p : Int) != (p : Int)) = false := by simp
      have e2 : ((q : Int) != (q : Int)) = false := by simp
      go_wp2_with fail
      go_quiet (fail)
      go_wp2_with fail
      go_roundw
      case rel => exact ⟨i + 1, by omega, by go_num, hs.drewN _⟩
      case measure => simp [intOf]; omega
    · go_wp2_with fail
      go_ret
      exact ⟨rfl, hs⟩

set_option maxRecDepth 100000 in
set_option maxHeartbeats 2000000 in
theorem edits_same (v v' : Value) (l : List Ed) (w : World) (hv : ED w v l) (hv' : ED w v' l) :
    Calls Try.prog 15 #[v, v'] w fun e w' => e = .returned (.bool true) ∧ St w w' [] [] := by
  obtain ⟨ao, cap, blk, off, us, rfl, h1, h2, hc, hd⟩ := hv.at
  obtain ⟨ao', cap', blk', off', us', rfl, h1', h2', hc', hd'⟩ := hv'.at
  clear hv hv'
  have HC := Mx.hid hc
  have HC' := Mx.hid hc'
  have HD := Mx.hid hd
  have HD' := Mx.hid hd'
  clear hc hc' hd hd'
  have hb : ((l.length : Int) != (l.length : Int)) = false := by simp
  go_enter Try.func15, Try.ntmps15
  go_wp2_with fail
  go_loopw [5] (fun x wr => ∃ i : Nat, i ≤ l.length ∧ x = .int .i64 i ∧ St w wr [] []) (fun x _ => l.length - (intOf x).toNat)
  case atStart => exact ⟨0, by omega, rfl, St.refl w⟩
  case round =>
    obtain ⟨i, hi, rfl, hs⟩ := hrel
    by_cases hlt : i < l.length
    · obtain ⟨rfl, c1, c2, c3⟩ := HC.out i hlt
      obtain ⟨rfl, c4, c5, c6⟩ := HC'.out i hlt
      rw [show off + 3 * i = off + i * 3 by omega] at c1
      rw [show off + (3 * i + 1) = off + i * 3 + 1 by omega] at c2
      rw [show off + (3 * i + 2) = off + i * 3 + 2 by omega] at c3
      rw [show off' + 3 * i = off' + i * 3 by omega] at c4
      rw [show off' + (3 * i + 1) = off' + i * 3 + 1 by omega] at c5
      rw [show off' + (3 * i + 2) = off' + i * 3 + 2 by omega] at c6
      replace c1 := hs.keep c1
      replace c2 := hs.keep c2
      replace c3 := hs.keep c3
      replace c4 := hs.keep c4
      replace c5 := hs.keep c5
      replace c6 := hs.keep c6
      have hii : (i : Int) < (l.length : Int) := by omega
      have d1 := hs.old (HD.out i hlt)
      have d2 := hs.old (HD'.out i hlt)
      obtain ⟨z1, y1, e1, _⟩ := HD.out i hlt
      obtain ⟨z2, y2, e2, _⟩ := HD'.out i hlt
      rw [e1] at c3 d1
      rw [e2] at c6 d2
      clear e1 e2
      generalize l[i].1 = p at *
      generalize l[i].2.1 = q at *
      generalize l[i].2.2 = L at *
      have e1 : ((p : Int) != (p : Int)) = false := by simp
      have e2 : ((q : Int) != (q : Int)) = false := by simp
      have hX : ∀ n, Calls Try.prog 16 #[.slice z1 L.length y1, .slice z2 L.length y2] (wr.drewN n) fun e w'' => e = .returned (.bool true) ∧ ∃ m, w'' = (wr.drewN n).drewN m := fun n =>
        texts_qs _ _ L _ (((St.refl wr).drewN n).old d1) (((St.refl wr).drewN n).old d2)
      have HX := Mx.hid hX
      clear hX d1 d2
      go_wp2_with fail
      go_quiet ((go_at_call 16; exact Calls.quiet_of (HX.out _)))
      go_wp2_with fail
      go_roundw
      case rel => exact ⟨i + 1, by omega, by go_num, hs.drewN _⟩
      case measure => simp [intOf]; omega
    · go_wp2_with fail
      go_ret
      exact ⟨rfl, hs⟩

theorem mp3 {x y z : ByteArray} (h1 : x ≠ y) (h2 : x ≠ z) (h3 : y ≠ z) : mP [x, y, z] [y, z, x] = [(1, 0), (2, 1)] := by
  unfold mP
  rw [if_neg (by simp)]
  simp [mpairs, lt2, lcs, h1, h2, h3, Ne.symm h1, Ne.symm h2]
theorem dE2 {x y : ByteArray} (h1 : x ≠ y) : dE [x, y] [y] = [(0, 1, [])] := by
  unfold dE
  rw [if_neg (by simp)]
  simp [mpairs, lt2, lcs, h1, eds]
end Go.Proofs.Ytknmmfffcihkpaa
