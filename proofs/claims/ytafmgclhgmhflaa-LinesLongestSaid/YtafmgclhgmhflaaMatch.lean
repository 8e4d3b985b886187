/- Walks of lines.Match and of the document's Match. -/
import Derived.Test.YtafmgclhgmhflaaLines
namespace Go.Proofs.Ytafmgclhgmhflaa
open Go.RowKit Go.Mx

def mP (a b : List ByteArray) : List (Nat × Nat) := if 200 < a.length ∨ 200 < b.length then [] else mpairs a b 0 0
def mE (a b : List ByteArray) : Int := if 200 < a.length ∨ 200 < b.length then 14 else 0

def MatchPost (e0 : TypeId) (a b : List ByteArray) (w : World) (e : Ending) (w' : World) : Prop :=
  ∃ v, e = .returned (.tuple #[v, .int .i64 (mE a b)]) ∧ St w w' [⟨v, e0, 2, (mP a b).length, pr (mP a b)⟩] []
theorem MatchPost.bad {e0 : TypeId} {a b : List ByteArray} {w : World} (h : 200 < a.length ∨ 200 < b.length) : MatchPost e0 a b w (.returned (.tuple #[.slice none 0 0, .int .i64 14])) w := by
  unfold MatchPost mP mE
  rw [if_pos h, if_pos h]
  exact ⟨_, rfl, St.nil _ _ _⟩
theorem MatchPost.good {e0 : TypeId} {a b : List ByteArray} {w w' : World} {v : Value} {ps : List (Nat × Nat)} (h : ¬ (200 < a.length ∨ 200 < b.length)) (hp : ps = mpairs a b 0 0) (hs : St w w' [⟨v, e0, 2, ps.length, pr ps⟩] []) : MatchPost e0 a b w (.returned (.tuple #[v, .int .i64 0])) w' := by
  unfold MatchPost mP mE
  rw [if_neg h, if_neg h, ← hp]
  exact ⟨_, rfl, hs⟩

set_option maxRecDepth 100000 in
set_option maxHeartbeats 4000000 in
theorem match_any (va vb : Value) (a b : List ByteArray) (w : World) (ha : Sl w 1 va a.length (ss a)) (hb : Sl w 1 vb b.length (ss b)) :
    Calls Try.prog 11 #[va, vb] w (MatchPost 31 a b w) := by
  by_cases hbig : 200 < a.length ∨ 200 < b.length
  · have hw : decide (200 < (a.length : Int)) = true ∨ (decide (200 < (a.length : Int)) = false ∧ decide (200 < (b.length : Int)) = true) := by
      simp only [decide_eq_true_eq, decide_eq_false_iff_not]; omega
    have HP := Mx.hid (MatchPost.bad (e0 := 31) (w := w) hbig)
    clear hbig
    rcases hw with h1 | ⟨h1, h2⟩
    all_goals
      go_enter Try.func11, Try.ntmps11
      go_wp2_with (first | ((with_reducible show wpList _ _ _ _ _ _); refine wpl_want rfl ?_) | ((with_reducible show wpList _ _ _ _ _ _); refine wpl_len rfl 22 9 _ rfl Try.underlying22 (by exact ha) ?_) | ((with_reducible show wpList _ _ _ _ _ _); refine wpl_len rfl 22 9 _ rfl Try.underlying22 (by exact hb) ?_))
      go_ret2
      exact HP.out
  · have h1 : decide (200 < (a.length : Int)) = false := decide_eq_false (by omega)
    have h2 : decide (200 < (b.length : Int)) = false := decide_eq_false (by omega)
    have Hbig := Mx.hid hbig
    have la : a.length ≤ 200 := by omega
    have lb : b.length ≤ 200 := by omega
    clear hbig
    go_enter Try.func11, Try.ntmps11
    go_wp2_with (first | ((with_reducible show wpList _ _ _ _ _ _); refine wpl_want rfl ?_) | ((with_reducible show wpList _ _ _ _ _ _); refine wpl_len rfl 22 9 _ rfl Try.underlying22 (by exact ha) ?_) | ((with_reducible show wpList _ _ _ _ _ _); refine wpl_len rfl 22 9 _ rfl Try.underlying22 (by exact hb) ?_))
    refine (lengths_any va vb a b _ ha hb la lb).mono ?_
    rintro e w1 ⟨vt, rfl, hs1, htab⟩
    obtain ⟨ao, cap, blk, off, rfl, g1, g2, _, hc⟩ := (hs1.old ha).txt
    obtain ⟨ao', cap', blk', off', rfl, g1', g2', _, hc'⟩ := (hs1.old hb).txt
    obtain ⟨capt, blkt, offt, rfl, t1, t2, hct⟩ := htab.at
    clear ha hb htab h1 h2
    have HA := Mx.hid hc
    have HB := Mx.hid hc'
    have HT := Mx.hid hct
    have HS1 := Mx.hid hs1
    clear hc hc' hct hs1
    go_wp2_with fail
    go_loopw [7, 8, 9] (fun x y z wr => ∃ (i j : Nat) (acc : List (Nat × Nat)), i ≤ a.length ∧ j ≤ b.length ∧ y = .int .i64 i ∧ z = .int .i64 j ∧ acc.length ≤ i ∧ Hid (acc ++ mpairs a b i j = mpairs a b 0 0) ∧ St w1 wr [⟨x, 31, 2, acc.length, pr acc⟩] []) (fun _ y z _ => (a.length - (intOf y).toNat) + (b.length - (intOf z).toNat))
    case atStart => exact ⟨0, 0, [], by omega, by omega, rfl, rfl, by simp, rfl, St.nil _ _ _⟩
    case round =>
      obtain ⟨i, j, acc, hi, hj, rfl, rfl, hacc, He, hs⟩ := hrel
      by_cases hlt : i < a.length
      · by_cases hltj : j < b.length
        · obtain ⟨rfl, c1⟩ := HA.out i hlt
          obtain ⟨rfl, c2⟩ := HB.out j hltj
          replace c1 := hs.keep c1
          replace c2 := hs.keep c2
          have hii : (i : Int) < (a.length : Int) := by omega
          have hjj : (j : Int) < (b.length : Int) := by omega
          have hstep := mpairs.eq_def a b i j
          rw [dif_pos ⟨hlt, hltj⟩] at hstep
          by_cases hx : a[i] = b[j]
          · rw [if_pos hx] at hstep
            have hb := tx_beq hx
            have Hst := Mx.hid hstep
            clear hstep hx
            go_wp2_with fail
            go_quiet (fail)
            replace hs := hs.drewN nq
            go_wp2_with (at_builtin; refine wpl_app rfl _ _ 26 rfl Try.elPair (hs.alloc _) rfl (by exact ((St.refl _).made #[.int .i64 i, .int .i64 j] 31 2 1 rfl (by simp [maxLen])).sl0) (by intro u hu; simp at hu; rcases hu with rfl | rfl <;> rfl) (by omega) ?_; intro v1 w2 hs2 _)
            go_roundw
            case rel => exact ⟨i + 1, j + 1, acc ++ [(i, j)], by omega, by omega, by go_num, by go_num, by simp; omega, by have := He.out; rw [Hst.out] at this; rw [← this]; simp [Hid], hs2.cast (by simp) (by rw [pr_app]; rfl)⟩
            case measure => simp [intOf]; omega
          · rw [if_neg hx] at hstep
            have hb := tx_bne hx
            obtain ⟨ga, oa, ca, ta, tb, tc, td⟩ := HT.out (i + 1) (by omega)
            obtain ⟨ga', oa', ca', ta', tb', tc', td'⟩ := HT.out i (by omega)
            replace ta := hs.keep ta
            replace ta' := hs.keep ta'
            have td := hs.keep (td j (by omega))
            have td' := hs.keep (td' (j + 1) (by omega))
            have w1' : IntKind.i64.wrap ((i : Int) + 1) = (i : Int) + 1 := IntWalk.i64_in _ (by omega)
            have w2' : IntKind.i64.wrap ((j : Int) + 1) = (j : Int) + 1 := IntWalk.i64_in _ (by omega)
            have n1 : ((i : Int) + 1).toNat = i + 1 := by omega
            have n2 : ((j : Int) + 1).toNat = j + 1 := by omega
            have p1 : (0 : Int) ≤ (i : Int) + 1 := by omega
            have p2 : (0 : Int) ≤ (j : Int) + 1 := by omega
            clear hx
            by_cases hle : lt2 a b i (j + 1) ≤ lt2 a b (i + 1) j
            · rw [if_pos hle] at hstep
              have hb2 : (lt2 a b i (j + 1) : Int) ≤ (lt2 a b (i + 1) j : Int) := by omega
              have Hst := Mx.hid (by have := He.out; rw [hstep] at this; exact this)
              clear hstep
              generalize lt2 a b i (j + 1) = L1 at *
              generalize lt2 a b (i + 1) j = L2 at *
              go_wp2_with fail
              go_quiet (fail)
              go_wp2_with fail
              go_quiet (fail)
              clear w1' w2' n1 n2 p1 p2
              go_wp2_with fail
              go_roundw
              case rel => exact ⟨i + 1, j, acc, by omega, by omega, by go_num, by go_num, by omega, Hst, hs.drewN _⟩
              case measure => simp [intOf]; omega
            · rw [if_neg hle] at hstep
              have hb2 : (lt2 a b (i + 1) j : Int) < (lt2 a b i (j + 1) : Int) := by omega
              have hle : lt2 a b (i + 1) j < lt2 a b i (j + 1) := by omega
              have Hst := Mx.hid (by have := He.out; rw [hstep] at this; exact this)
              clear hstep
              generalize lt2 a b i (j + 1) = L1 at *
              generalize lt2 a b (i + 1) j = L2 at *
              go_wp2_with fail
              go_quiet (fail)
              go_wp2_with fail
              go_quiet (fail)
              clear w1' w2' n1 n2 p1 p2
              go_wp2_with fail
              go_roundw
              case rel => exact ⟨i, j + 1, acc, by omega, by omega, by go_num, by go_num, by omega, Hst, hs.drewN _⟩
              case measure => simp [intOf]; omega
        · have HP := Mx.hid (MatchPost.good (e0 := 31) Hbig.out (by have := He.out; rw [mpairs, dif_neg (by omega), List.append_nil] at this; exact this) (HS1.out.call1 hs))
          have hjj : decide ((j : Int) < (b.length : Int)) = false := decide_eq_false (by omega)
          go_wp2_with (first | ((with_reducible show wpList _ _ _ _ _ _); refine wpl_want rfl ?_))
          go_ret2
          exact HP.out
      · have HP := Mx.hid (MatchPost.good (e0 := 31) Hbig.out (by have := He.out; rw [mpairs, dif_neg (by omega), List.append_nil] at this; exact this) (HS1.out.call1 hs))
        go_wp2_with (first | ((with_reducible show wpList _ _ _ _ _ _); refine wpl_want rfl ?_))
        go_ret2
        exact HP.out
end Go.Proofs.Ytafmgclhgmhflaa
