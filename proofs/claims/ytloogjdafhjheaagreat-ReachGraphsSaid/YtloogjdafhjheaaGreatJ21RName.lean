/- The document's Name. The document's Rises. -/
import Derived.Test.YtloogjdafhjheaaGreatJ7ObjN
import Derived.Test.YtloogjdafhjheaaGreatJ8ObjM
import Derived.Test.YtloogjdafhjheaaGreatJ5RVal
namespace Go.Proofs.YtloogjdafhjheaaGreat
open Go.RowKit Go.Mx

set_option maxHeartbeats 2000000 in
theorem refName_any (s : ByteArray) (w : World) (hs : s.size ≤ maxLen) :
    Calls Tryz.prog 101 #[.string s] w fun e w' => e = .returned (.bool (nameB (bL s))) ∧ w = w' := by
  unfold maxLen at hs
  have HNT : Hid (nameB (bL s) = ((bL s).all nmc && decide (bL s ≠ [] ∧ (bL s).length ≤ 64 ∧ bL s ≠ [46] ∧ bL s ≠ [46, 46]))) := rfl
  rw [name_tail] at HNT
  have hem : s.toList.isEmpty = decide (s.size < 1) := by
    rw [ByteArray.toList_eq, Bool.eq_iff_iff, List.isEmpty_iff, decide_eq_true_iff]
    have : s.data.toList.length = s.size := rfl
    constructor
    · intro h; rw [h] at this; simp at this; omega
    · intro h; exact List.eq_nil_of_length_eq_zero (by omega)
  by_cases h1 : s.size < 1
  · have q1 : decide ((s.size : Int) < 1) = true := decide_eq_true (by omega)
    have HF := Mx.hid (show nameB (bL s) = false by rw [HNT.out, hem, decide_eq_true h1]; simp)
    clear hem h1
    go_enter Tryz.func101, Tryz.ntmps101
    go_wp2_with (first | ((with_reducible show wpList _ _ _ _ _ _); refine wpl_want rfl ?_))
    go_ret
    exact ⟨by rw [HF.out]; rfl, rfl⟩
  have q1 : decide ((s.size : Int) < 1) = false := decide_eq_false (by omega)
  rw [decide_eq_false h1] at hem
  by_cases h2 : 64 < s.size
  · have q2 : decide ((64 : Int) < (s.size : Int)) = true := decide_eq_true (by omega)
    have HF := Mx.hid (show nameB (bL s) = false by rw [HNT.out, decide_eq_false (show ¬ (s.size : Int) ≤ 64 by omega)]; simp)
    clear hem h1 h2
    go_enter Tryz.func101, Tryz.ntmps101
    go_wp2_with (first | ((with_reducible show wpList _ _ _ _ _ _); refine wpl_want rfl ?_))
    go_ret
    exact ⟨by rw [HF.out]; rfl, rfl⟩
  have q2 : decide ((64 : Int) < (s.size : Int)) = false := decide_eq_false (by omega)
  have e2 : decide ((s.size : Int) ≤ 64) = true := decide_eq_true (by omega)
  cases h3 : (s.toList == [46]) with
  | true =>
    have HF := Mx.hid (show nameB (bL s) = false by rw [HNT.out, h3]; simp)
    clear hem h1 h2
    go_enter Tryz.func101, Tryz.ntmps101
    go_wp2_with (first | ((with_reducible show wpList _ _ _ _ _ _); refine wpl_want rfl ?_))
    go_ret
    exact ⟨by rw [HF.out]; rfl, rfl⟩
  | false =>
  cases h4 : (s.toList == [46, 46]) with
  | true =>
    have HF := Mx.hid (show nameB (bL s) = false by rw [HNT.out, h4]; simp)
    clear hem h1 h2
    go_enter Tryz.func101, Tryz.ntmps101
    go_wp2_with (first | ((with_reducible show wpList _ _ _ _ _ _); refine wpl_want rfl ?_))
    go_ret
    exact ⟨by rw [HF.out]; rfl, rfl⟩
  | false =>
  have HNB := Mx.hid (show nameB (bL s) = (bL s).all nmc by rw [HNT.out, hem, e2, h3, h4]; simp)
  clear hem h1 h2 e2 HNT
  go_enter Tryz.func101, Tryz.ntmps101
  go_wp2_with (first | ((with_reducible show wpList _ _ _ _ _ _); refine wpl_want rfl ?_))
  clear q1 q2 h3 h4
  go_loop [3] (fun y => ∃ i : Nat, i ≤ s.size ∧ y = .int .i64 i ∧ Hid (((bL s).take i).all nmc = true)) (fun y => s.size - (intOf y).toNat)
  case atStart => exact ⟨0, by omega, rfl, by simp [Hid]⟩
  case round =>
    obtain ⟨i, hi, rfl, HA⟩ := hrel
    by_cases hlt : i < s.size
    · have HS := Mx.hid (all_snoc (p := nmc) hlt)
      have HN := Mx.hid (fun h => (show nameB (bL s) = false by rw [HNB.out, all_not (p := nmc) hlt h]))
      have hc : (s[i].toNat : Int) < 33 ∨ (33 ≤ (s[i].toNat : Int) ∧ 126 < (s[i].toNat : Int)) ∨ (33 ≤ (s[i].toNat : Int) ∧ (s[i].toNat : Int) ≤ 126 ∧ (s[i].toNat : Int) = 47) ∨ (33 ≤ (s[i].toNat : Int) ∧ (s[i].toNat : Int) ≤ 126 ∧ (s[i].toNat : Int) ≠ 47) := by omega
      rcases hc with h | ⟨h, h2⟩ | ⟨h, h2, h3⟩ | ⟨h, h2, h3⟩
      · have q1 : decide ((s[i].toNat : Int) < 33) = true := decide_eq_true h
        have HF := Mx.hid (HN.out (by unfold nmc; simp; omega))
        go_wp2_with (first | ((with_reducible show wpList _ _ _ _ _ _); refine wpl_want rfl ?_))
        go_ret
        exact ⟨by rw [HF.out]; rfl, rfl⟩
      · have q1 : decide ((s[i].toNat : Int) < 33) = false := decide_eq_false (by omega)
        have q2 : decide (126 < (s[i].toNat : Int)) = true := decide_eq_true h2
        have HF := Mx.hid (HN.out (by unfold nmc; simp; omega))
        go_wp2_with (first | ((with_reducible show wpList _ _ _ _ _ _); refine wpl_want rfl ?_))
        go_ret
        exact ⟨by rw [HF.out]; rfl, rfl⟩
      · have q1 : decide ((s[i].toNat : Int) < 33) = false := decide_eq_false (by omega)
        have q2 : decide (126 < (s[i].toNat : Int)) = false := decide_eq_false (by omega)
        have q3 : ((s[i].toNat : Int) == 47) = true := by rw [beq_iff_eq]; exact h3
        have HF := Mx.hid (HN.out (by unfold nmc; simp; omega))
        clear h3
        go_wp2_with (first | ((with_reducible show wpList _ _ _ _ _ _); refine wpl_want rfl ?_))
        go_ret
        exact ⟨by rw [HF.out]; rfl, rfl⟩
      · have q1 : decide ((s[i].toNat : Int) < 33) = false := decide_eq_false (by omega)
        have q2 : decide (126 < (s[i].toNat : Int)) = false := decide_eq_false (by omega)
        have q3 : ((s[i].toNat : Int) == 47) = false := by rw [beq_eq_false_iff_ne]; exact h3
        have hb : nmc s[i] = true := by unfold nmc; simp; omega
        have HB := Mx.hid hb
        clear hb h3
        go_wp2_with (first | ((with_reducible show wpList _ _ _ _ _ _); refine wpl_want rfl ?_))
        case roundEnd => exact ⟨⟨i + 1, by omega, by go_num, by show _ = true; rw [HS.out, HA.out, HB.out]; rfl⟩, by simp [intOf]; omega⟩
    · have HF := Mx.hid (show nameB (bL s) = true by rw [HNB.out]; exact all_full (p := nmc) (by omega) HA.out)
      go_wp2_with fail
      go_ret
      exact ⟨by rw [HF.out]; rfl, rfl⟩
end Go.Proofs.YtloogjdafhjheaaGreat

namespace Go.Proofs.YtloogjdafhjheaaGreat
open Go.RowKit Go.Mx
set_option maxRecDepth 100000 in
theorem rises_any (v : Value) (l : List ByteArray) (w : World) (hv : Sl w 1 v l.length (ss l)) :
    Calls Tryz.prog 91 #[v] w fun e w' => e = .returned (.bool (risesB l)) ∧ St w w' [] [] := by
  obtain ⟨ao, cap, blk, off, rfl, h1, h2, _, hc⟩ := hv.txt
  have HC := Mx.hid hc
  clear hv hc
  go_enter Tryz.func91, Tryz.ntmps91
  go_wp2_with fail
  go_loopw [3] (fun y wr => ∃ i : Nat, i ≤ l.length ∧ y = .int .i64 ((i : Int) + 1) ∧ Hid (risesB (l.take (i + 1)) = true) ∧ St w wr [] []) (fun y _ => l.length + 1 - (intOf y).toNat)
  case atStart => exact ⟨0, by omega, by go_num, Mx.hid (rises_one l), St.refl w⟩
  case round =>
    obtain ⟨i, hi, rfl, HA, hs⟩ := hrel
    by_cases hlt : i + 1 < l.length
    · obtain ⟨rfl, c0⟩ := HC.out i (by omega)
      obtain ⟨_, c1⟩ := HC.out (i + 1) hlt
      have HD := Mx.hid (fun (w' : World) (h : St w w' [] []) => And.intro (h.keep c0) (h.keep c1))
      clear c0 c1
      have HS := Mx.hid (rises_snoc l i hlt)
      have HN := Mx.hid (fun h => rises_not hlt h)
      have k1 : IntKind.i64.wrap (i : Int) = (i : Int) := IntWalk.i64_in _ (by omega)
      have k2 : ((i : Int) + 1).toNat = i + 1 := by omega
      have k3 : (0 : Int) ≤ (i : Int) + 1 := by omega
      have k4 : (i : Int) + 1 < (l.length : Int) := by omega
      have k5 : (i : Int) < (l.length : Int) := by omega
      cases hless : Op.bytesLess l[i].toList l[i + 1].toList with
      | true =>
        rw [hless] at HS
        obtain ⟨q1, q2⟩ := less_le hless
        clear hless HN
        generalize l[i] = t at *
        generalize l[i + 1] = s at *
        go_wp2_with fail
        refine wp_region_C (fun W' => St w W' [] []) (by kernel_rfl) (by kernel_rfl) (by exact hs.drew) ?_
        repeat ((first | (refine cq_y0 (v := ?_) (by with_reducible rfl) ?_ ?_; rotate_left 1; (focus (intro wq hq; (try dsimp only at hq); (obtain ⟨y0, y1⟩ := HD.out _ hq); go_simp; (first | done | with_reducible rfl | fail)))) | (refine cq_no (by go_simp; first | done | (intro h9; cases h9)) ?_) | (refine cq_yes (v := ?_) (by go_simp) ?_ ?_; rotate_left 1; (focus (intro wq hq; (try dsimp only at hq); (obtain ⟨y0, y1⟩ := HD.out _ hq); go_simp; (first | done | with_reducible rfl | fail))))); (try simp only [Act.put, List.setIfInBounds_toArray, List.set_cons_zero, List.set_cons_succ]))
        refine cq_nil ?_
        intro wq hq
        (try dsimp only at hq)
        go_wp2_with fail
        refine ⟨⟨i + 1, by omega, by go_num, Mx.hid (by rw [HS.out, HA.out]; rfl), hq⟩, by simp [intOf]; omega⟩
      | false =>
        have HF := Mx.hid (HN.out hless)
        have hq := less_not hless
        clear hless HN HS
        generalize l[i] = t at *
        generalize l[i + 1] = s at *
        rcases hq with q1 | ⟨q1, q2⟩
        · go_wp2_with fail
          refine wp_region_C (fun W' => St w W' [] []) (by kernel_rfl) (by kernel_rfl) (by exact hs.drew) ?_
          repeat ((first | (refine cq_y0 (v := ?_) (by with_reducible rfl) ?_ ?_; rotate_left 1; (focus (intro wq hq; (try dsimp only at hq); (obtain ⟨y0, y1⟩ := HD.out _ hq); go_simp; (first | done | with_reducible rfl | fail)))) | (refine cq_no (by go_simp; first | done | (intro h9; cases h9)) ?_) | (refine cq_yes (v := ?_) (by go_simp) ?_ ?_; rotate_left 1; (focus (intro wq hq; (try dsimp only at hq); (obtain ⟨y0, y1⟩ := HD.out _ hq); go_simp; (first | done | with_reducible rfl | fail))))); (try simp only [Act.put, List.setIfInBounds_toArray, List.set_cons_zero, List.set_cons_succ]))
          refine cq_nil ?_
          intro wq hq
          (try dsimp only at hq)
          go_wp2_with fail
          go_ret
          exact ⟨by rw [HF.out]; rfl, hq⟩
        · go_wp2_with fail
          refine wp_region_C (fun W' => St w W' [] []) (by kernel_rfl) (by kernel_rfl) (by exact hs.drew) ?_
          repeat ((first | (refine cq_y0 (v := ?_) (by with_reducible rfl) ?_ ?_; rotate_left 1; (focus (intro wq hq; (try dsimp only at hq); (obtain ⟨y0, y1⟩ := HD.out _ hq); go_simp; (first | done | with_reducible rfl | fail)))) | (refine cq_no (by go_simp; first | done | (intro h9; cases h9)) ?_) | (refine cq_yes (v := ?_) (by go_simp) ?_ ?_; rotate_left 1; (focus (intro wq hq; (try dsimp only at hq); (obtain ⟨y0, y1⟩ := HD.out _ hq); go_simp; (first | done | with_reducible rfl | fail))))); (try simp only [Act.put, List.setIfInBounds_toArray, List.set_cons_zero, List.set_cons_succ]))
          refine cq_nil ?_
          intro wq hq
          (try dsimp only at hq)
          go_wp2_with fail
          go_ret
          exact ⟨by rw [HF.out]; rfl, hq⟩
    · have k4 : ¬ (i : Int) + 1 < (l.length : Int) := by omega
      have HF := Mx.hid (show risesB l = true by have := HA.out; rwa [List.take_of_length_le (by omega)] at this)
      go_wp2_with fail
      go_ret
      exact ⟨by rw [HF.out]; rfl, hs⟩
end Go.Proofs.YtloogjdafhjheaaGreat
