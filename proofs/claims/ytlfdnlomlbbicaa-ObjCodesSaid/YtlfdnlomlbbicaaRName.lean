/- The document's Name. -/
import Derived.Test.YtlfdnlomlbbicaaObjN
namespace Go.Proofs.Ytlfdnlomlbbicaa
open Go.RowKit Go.Mx

set_option maxHeartbeats 2000000 in
theorem refName_any (s : ByteArray) (w : World) (hs : s.size ≤ maxLen) :
    Calls Try.prog 76 #[.string s] w fun e w' => e = .returned (.bool (nameB (bL s))) ∧ w = w' := by
  unfold maxLen at hs
  have HNT : Hid (nameB (bL s) = ((bL s).all nmc && decide (bL s ≠ [] ∧ (bL s).length ≤ 64 ∧ bL s ≠ [46] ∧ bL s ≠ [46, 46]))) := rfl
  rw [name_tail] at HNT
  have hem : s.toList.isEmpty = decide (s.size < 1) := by
    rw [ByteArray.toList_eq, Bool.eq_iff_iff, List.isEmpty_iff, decide_eq_true_iff]
    have : s.data.toList.length = s.size := rfl
    constructor
    · intro h; rw [h] at this; simp at this; omega
    · intro h; exact List.eq_nil_of_length_eq_zero (by omega)
  by_cases h1 : s.size < 1
  · have q1 : decide ((s.size : Int) < 1) = true := decide_eq_true (by omega)
    have HF := Mx.hid (show nameB (bL s) = false by rw [HNT.out, hem, decide_eq_true h1]; simp)
    clear hem h1
    go_enter Try.func76, Try.ntmps76
    go_wp2_with (first | ((with_reducible show wpList _ _ _ _ _ _); refine wpl_want rfl ?_))
    go_ret
    exact ⟨by rw [HF.out]; rfl, rfl⟩
  have q1 : decide ((s.size : Int) < 1) = false := decide_eq_false (by omega)
  rw [decide_eq_false h1] at hem
  by_cases h2 : 64 < s.size
  · have q2 : decide ((64 : Int) < (s.size : Int)) = true := decide_eq_true (by omega)
    have HF := Mx.hid (show nameB (bL s) = false by rw [HNT.out, decide_eq_false (show ¬ (s.size : Int) ≤ 64 by omega)]; simp)
    clear hem h1 h2
    go_enter Try.func76, Try.ntmps76
    go_wp2_with (first | ((with_reducible show wpList _ _ _ _ _ _); refine wpl_want rfl ?_))
    go_ret
    exact ⟨by rw [HF.out]; rfl, rfl⟩
  have q2 : decide ((64 : Int) < (s.size : Int)) = false := decide_eq_false (by omega)
  have e2 : decide ((s.size : Int) ≤ 64) = true := decide_eq_true (by omega)
  cases h3 : (s.toList == [46]) with
  | true =>
    have HF := Mx.hid (show nameB (bL s) = false by rw [HNT.out, h3]; simp)
    clear hem h1 h2
    go_enter Try.func76, Try.ntmps76
    go_wp2_with (first | ((with_reducible show wpList _ _ _ _ _ _); refine wpl_want rfl ?_))
    go_ret
    exact ⟨by rw [HF.out]; rfl, rfl⟩
  | false =>
  cases h4 : (s.toList == [46, 46]) with
  | true =>
    have HF := Mx.hid (show nameB (bL s) = false by rw [HNT.out, h4]; simp)
    clear hem h1 h2
    go_enter Try.func76, Try.ntmps76
    go_wp2_with (first | ((with_reducible show wpList _ _ _ _ _ _); refine wpl_want rfl ?_))
    go_ret
    exact ⟨by rw [HF.out]; rfl, rfl⟩
  | false =>
  have HNB := Mx.hid (show nameB (bL s) = (bL s).all nmc by rw [HNT.out, hem, e2, h3, h4]; simp)
  clear hem h1 h2 e2 HNT
  go_enter Try.func76, Try.ntmps76
  go_wp2_with (first | ((with_reducible show wpList _ _ _ _ _ _); refine wpl_want rfl ?_))
  clear q1 q2 h3 h4
  go_loop [3] (fun y => ∃ i : Nat, i ≤ s.size ∧ y = .int .i64 i ∧ Hid (((bL s).take i).all nmc = true)) (fun y => s.size - (intOf y).toNat)
  case atStart => exact ⟨0, by omega, rfl, by simp [Hid]⟩
  case round =>
    obtain ⟨i, hi, rfl, HA⟩ := hrel
    by_cases hlt : i < s.size
    · have HS := Mx.hid (all_snoc (p := nmc) hlt)
      have HN := Mx.hid (fun h => (show nameB (bL s) = false by rw [HNB.out, all_not (p := nmc) hlt h]))
      have hc : (s[i].toNat : Int) < 33 ∨ (33 ≤ (s[i].toNat : Int) ∧ 126 < (s[i].toNat : Int)) ∨ (33 ≤ (s[i].toNat : Int) ∧ (s[i].toNat : Int) ≤ 126 ∧ (s[i].toNat : Int) = 47) ∨ (33 ≤ (s[i].toNat : Int) ∧ (s[i].toNat : Int) ≤ 126 ∧ (s[i].toNat : Int) ≠ 47) := by omega
      rcases hc with h | ⟨h, h2⟩ | ⟨h, h2, h3⟩ | ⟨h, h2, h3⟩
      · have q1 : decide ((s[i].toNat : Int) < 33) = true := decide_eq_true h
        have HF := Mx.hid (HN.out (by unfold nmc; simp; omega))
        go_wp2_with (first | ((with_reducible show wpList _ _ _ _ _ _); refine wpl_want rfl ?_))
        go_ret
        exact ⟨by rw [HF.out]; rfl, rfl⟩
      · have q1 : decide ((s[i].toNat : Int) < 33) = false := decide_eq_false (by omega)
        have q2 : decide (126 < (s[i].toNat : Int)) = true := decide_eq_true h2
        have HF := Mx.hid (HN.out (by unfold nmc; simp; omega))
        go_wp2_with (first | ((with_reducible show wpList _ _ _ _ _ _); refine wpl_want rfl ?_))
        go_ret
        exact ⟨by rw [HF.out]; rfl, rfl⟩
      · have q1 : decide ((s[i].toNat : Int) < 33) = false := decide_eq_false (by omega)
        have q2 : decide (126 < (s[i].toNat : Int)) = false := decide_eq_false (by omega)
        have q3 : ((s[i].toNat : Int) == 47) = true := by rw [beq_iff_eq]; exact h3
        have HF := Mx.hid (HN.out (by unfold nmc; simp; omega))
        clear h3
        go_wp2_with (first | ((with_reducible show wpList _ _ _ _ _ _); refine wpl_want rfl ?_))
        go_ret
        exact ⟨by rw [HF.out]; rfl, rfl⟩
      · have q1 : decide ((s[i].toNat : Int) < 33) = false := decide_eq_false (by omega)
        have q2 : decide (126 < (s[i].toNat : Int)) = false := decide_eq_false (by omega)
        have q3 : ((s[i].toNat : Int) == 47) = false := by rw [beq_eq_false_iff_ne]; exact h3
        have hb : nmc s[i] = true := by unfold nmc; simp; omega
        have HB := Mx.hid hb
        clear hb h3
        go_wp2_with (first | ((with_reducible show wpList _ _ _ _ _ _); refine wpl_want rfl ?_))
        case roundEnd => exact ⟨⟨i + 1, by omega, by go_num, by show _ = true; rw [HS.out, HA.out, HB.out]; rfl⟩, by simp [intOf]; omega⟩
    · have HF := Mx.hid (show nameB (bL s) = true by rw [HNB.out]; exact all_full (p := nmc) (by omega) HA.out)
      go_wp2_with fail
      go_ret
      exact ⟨by rw [HF.out]; rfl, rfl⟩
end Go.Proofs.Ytlfdnlomlbbicaa
