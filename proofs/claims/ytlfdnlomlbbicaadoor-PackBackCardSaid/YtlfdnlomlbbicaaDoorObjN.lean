/- Walks of names.Name and obj.mayMsg. -/
import Derived.Test.YtlfdnlomlbbicaaDoorObjP
import Derived.Test.YtlfdnlomlbbicaaDoorJ3Base
namespace Go.Mx
open Go Go.RowKit
theorem all_snoc {s : ByteArray} {p : UInt8 → Bool} {i : Nat} (h : i < s.size) : ((bL s).take (i + 1)).all p = (((bL s).take i).all p && p s[i]) := by
  have hl : i < (bL s).length := by simpa [bL] using h
  rw [List.take_succ_eq_append_getElem hl, List.all_append]
  simp [bL]
  rfl
theorem all_not {s : ByteArray} {p : UInt8 → Bool} {i : Nat} (h : i < s.size) (hp : p s[i] = false) : (bL s).all p = false := by
  rw [Bool.eq_false_iff]
  intro ha
  have hl : i < (bL s).length := by simpa [bL] using h
  have := List.all_eq_true.1 ha _ (List.getElem_mem hl)
  have h3 : p (s[i]'h) = true := this
  rw [hp] at h3
  cases h3
theorem all_full {s : ByteArray} {p : UInt8 → Bool} {i : Nat} (h : s.size ≤ i) (hp : ((bL s).take i).all p = true) : (bL s).all p = true := by
  rwa [List.take_of_length_le (by simpa [bL] using h)] at hp
theorem le_dec (a b : Nat) : decide (a ≤ b) = decide ((a : Int) ≤ (b : Int)) := by rw [Bool.eq_iff_iff]; simp
theorem name_tail (s : ByteArray) : decide (bL s ≠ [] ∧ (bL s).length ≤ 64 ∧ bL s ≠ [46] ∧ bL s ≠ [46, 46]) = (!s.toList.isEmpty && decide ((s.size : Int) ≤ 64) && !(s.toList == [46]) && !(s.toList == [46, 46])) := by
  have e : s.toList = bL s := ByteArray.toList_eq s
  have e2 : s.size = (bL s).length := by simp [bL]
  rw [e, e2, Bool.eq_iff_iff]
  simp [and_assoc]
  intros
  omega
def nmc (c : UInt8) : Bool := decide (33 ≤ c.toNat ∧ c.toNat ≤ 126 ∧ c.toNat ≠ 47)
def msc (c : UInt8) : Bool := decide (32 ≤ c.toNat ∧ c.toNat ≤ 126)
end Go.Mx
namespace Go.Proofs.YtlfdnlomlbbicaaDoor
open Go.RowKit Go.Mx

set_option maxHeartbeats 1000000 in
theorem mayMsg_any (s : ByteArray) (w : World) (hs : s.size ≤ maxLen) :
    Calls Tryd.prog 68 #[.string s] w fun e w' => e = .returned (.bool (msgB s)) ∧ w = w' := by
  unfold maxLen at hs
  go_enter Tryd.func68, Tryd.ntmps68
  go_wp2_with fail
  go_loop [6] (fun y => ∃ i : Nat, i ≤ s.size ∧ y = .int .i64 i ∧ Hid (((bL s).take i).all msc = true)) (fun y => s.size - (intOf y).toNat)
  case atStart => exact ⟨0, by omega, rfl, by simp [Hid]⟩
  case round =>
    obtain ⟨i, hi, rfl, HA⟩ := hrel
    by_cases hlt : i < s.size
    · have HS := Mx.hid (all_snoc (p := msc) hlt)
      have HN := Mx.hid (all_not (p := msc) hlt)
      have hc : (s[i].toNat : Int) < 32 ∨ (32 ≤ (s[i].toNat : Int) ∧ 126 < (s[i].toNat : Int)) ∨ (32 ≤ (s[i].toNat : Int) ∧ (s[i].toNat : Int) ≤ 126) := by omega
      rcases hc with h | ⟨h, h2⟩ | ⟨h, h2⟩
      · have q1 : decide ((s[i].toNat : Int) < 32) = true := decide_eq_true h
        have hf : msgB s = false := by
          unfold msgB
          rw [show (bL s).all (fun c => decide (32 ≤ c.toNat ∧ c.toNat ≤ 126)) = false from HN.out (by unfold msc; simp; omega)]
          rfl
        have HF := Mx.hid hf
        clear hf
        go_wp2_with (first | ((with_reducible show wpList _ _ _ _ _ _); refine wpl_want rfl ?_))
        go_ret
        exact ⟨by rw [HF.out]; rfl, rfl⟩
      · have q1 : decide ((s[i].toNat : Int) < 32) = false := decide_eq_false (by omega)
        have q2 : decide (126 < (s[i].toNat : Int)) = true := decide_eq_true h2
        have hf : msgB s = false := by
          unfold msgB
          rw [show (bL s).all (fun c => decide (32 ≤ c.toNat ∧ c.toNat ≤ 126)) = false from HN.out (by unfold msc; simp; omega)]
          rfl
        have HF := Mx.hid hf
        clear hf
        go_wp2_with (first | ((with_reducible show wpList _ _ _ _ _ _); refine wpl_want rfl ?_))
        go_ret
        exact ⟨by rw [HF.out]; rfl, rfl⟩
      · have q1 : decide ((s[i].toNat : Int) < 32) = false := decide_eq_false (by omega)
        have q2 : decide (126 < (s[i].toNat : Int)) = false := decide_eq_false (by omega)
        have hb : msc s[i] = true := by unfold msc; simp; omega
        have HB := Mx.hid hb
        clear hb
        go_wp2_with (first | ((with_reducible show wpList _ _ _ _ _ _); refine wpl_want rfl ?_))
        case roundEnd => exact ⟨⟨i + 1, by omega, by go_num, by show _ = true; rw [HS.out, HA.out, HB.out]; rfl⟩, by simp [intOf]; omega⟩
    · have HF := Mx.hid (show msgB s = decide (s.size ≤ 200) by
        unfold msgB
        rw [show (bL s).all (fun c => decide (32 ≤ c.toNat ∧ c.toNat ≤ 126)) = true from all_full (p := msc) (by omega) HA.out, Bool.true_and])
      go_wp2_with fail
      go_ret
      exact ⟨by rw [HF.out, le_dec]; rfl, rfl⟩
set_option maxHeartbeats 2000000 in
theorem name_any (s : ByteArray) (w : World) (hs : s.size ≤ maxLen) :
    Calls Tryd.prog 79 #[.string s] w fun e w' => e = .returned (.bool (nameB (bL s))) ∧ w = w' := by
  unfold maxLen at hs
  go_enter Tryd.func79, Tryd.ntmps79
  go_wp2_with fail
  go_loop [6] (fun y => ∃ i : Nat, i ≤ s.size ∧ y = .int .i64 i ∧ Hid (((bL s).take i).all nmc = true)) (fun y => s.size - (intOf y).toNat)
  case atStart => exact ⟨0, by omega, rfl, by simp [Hid]⟩
  case round =>
    obtain ⟨i, hi, rfl, HA⟩ := hrel
    by_cases hlt : i < s.size
    · have HS := Mx.hid (all_snoc (p := nmc) hlt)
      have HN := Mx.hid (fun h => (show nameB (bL s) = false by unfold nameB; rw [show (bL s).all (fun c => decide (33 ≤ c.toNat ∧ c.toNat ≤ 126 ∧ c.toNat ≠ 47)) = false from all_not (p := nmc) hlt h]; rfl))
      have hc : (s[i].toNat : Int) < 33 ∨ (33 ≤ (s[i].toNat : Int) ∧ 126 < (s[i].toNat : Int)) ∨ (33 ≤ (s[i].toNat : Int) ∧ (s[i].toNat : Int) ≤ 126 ∧ (s[i].toNat : Int) = 47) ∨ (33 ≤ (s[i].toNat : Int) ∧ (s[i].toNat : Int) ≤ 126 ∧ (s[i].toNat : Int) ≠ 47) := by omega
      rcases hc with h | ⟨h, h2⟩ | ⟨h, h2, h3⟩ | ⟨h, h2, h3⟩
      · have q1 : decide ((s[i].toNat : Int) < 33) = true := decide_eq_true h
        have HF := Mx.hid (HN.out (by unfold nmc; simp; omega))
        go_wp2_with (first | ((with_reducible show wpList _ _ _ _ _ _); refine wpl_want rfl ?_))
        go_ret
        exact ⟨by rw [HF.out]; rfl, rfl⟩
      · have q1 : decide ((s[i].toNat : Int) < 33) = false := decide_eq_false (by omega)
        have q2 : decide (126 < (s[i].toNat : Int)) = true := decide_eq_true h2
        have HF := Mx.hid (HN.out (by unfold nmc; simp; omega))
        go_wp2_with (first | ((with_reducible show wpList _ _ _ _ _ _); refine wpl_want rfl ?_))
        go_ret
        exact ⟨by rw [HF.out]; rfl, rfl⟩
      · have q1 : decide ((s[i].toNat : Int) < 33) = false := decide_eq_false (by omega)
        have q2 : decide (126 < (s[i].toNat : Int)) = false := decide_eq_false (by omega)
        have q3 : ((s[i].toNat : Int) == 47) = true := by rw [beq_iff_eq]; exact h3
        have HF := Mx.hid (HN.out (by unfold nmc; simp; omega))
        clear h3
        go_wp2_with (first | ((with_reducible show wpList _ _ _ _ _ _); refine wpl_want rfl ?_))
        go_ret
        exact ⟨by rw [HF.out]; rfl, rfl⟩
      · have q1 : decide ((s[i].toNat : Int) < 33) = false := decide_eq_false (by omega)
        have q2 : decide (126 < (s[i].toNat : Int)) = false := decide_eq_false (by omega)
        have q3 : ((s[i].toNat : Int) == 47) = false := by rw [beq_eq_false_iff_ne]; exact h3
        have hb : nmc s[i] = true := by unfold nmc; simp; omega
        have HB := Mx.hid hb
        clear hb h3
        go_wp2_with (first | ((with_reducible show wpList _ _ _ _ _ _); refine wpl_want rfl ?_))
        case roundEnd => exact ⟨⟨i + 1, by omega, by go_num, by show _ = true; rw [HS.out, HA.out, HB.out]; rfl⟩, by simp [intOf]; omega⟩
    · have HF := Mx.hid (show nameB (bL s) = decide (bL s ≠ [] ∧ (bL s).length ≤ 64 ∧ bL s ≠ [46] ∧ bL s ≠ [46, 46]) by
        unfold nameB
        rw [show (bL s).all (fun c => decide (33 ≤ c.toNat ∧ c.toNat ≤ 126 ∧ c.toNat ≠ 47)) = true from all_full (p := nmc) (by omega) HA.out, Bool.true_and])
      rw [name_tail] at HF
      cases hE : s.toList.isEmpty with
      | true =>
        go_wp2_with (first | ((with_reducible show wpList _ _ _ _ _ _); refine wpl_want rfl ?_))
        go_ret
        exact ⟨by rw [HF.out, hE]; rfl, rfl⟩
      | false =>
        by_cases h64 : s.size ≤ 64
        · have q1 : decide ((s.size : Int) ≤ 64) = true := decide_eq_true (by omega)
          cases h1 : (s.toList == [46]) with
          | true =>
            have h1' : (s.toList != [46]) = false := by rw [bne, h1]; rfl
            go_wp2_with (first | ((with_reducible show wpList _ _ _ _ _ _); refine wpl_want rfl ?_))
            go_ret
            exact ⟨by rw [HF.out, hE, q1, h1]; rfl, rfl⟩
          | false =>
            have h1' : (s.toList != [46]) = true := by rw [bne, h1]; rfl
            cases h2 : (s.toList == [46, 46]) with
            | true =>
              have h2' : (s.toList != [46, 46]) = false := by rw [bne, h2]; rfl
              go_wp2_with (first | ((with_reducible show wpList _ _ _ _ _ _); refine wpl_want rfl ?_))
              go_ret
              exact ⟨by rw [HF.out, hE, q1, h1, h2]; rfl, rfl⟩
            | false =>
              have h2' : (s.toList != [46, 46]) = true := by rw [bne, h2]; rfl
              go_wp2_with (first | ((with_reducible show wpList _ _ _ _ _ _); refine wpl_want rfl ?_))
              go_ret
              exact ⟨by rw [HF.out, hE, q1, h1, h2]; rfl, rfl⟩
        · have q1 : decide ((s.size : Int) ≤ 64) = false := decide_eq_false (by omega)
          go_wp2_with (first | ((with_reducible show wpList _ _ _ _ _ _); refine wpl_want rfl ?_))
          go_ret
          exact ⟨by rw [HF.out, hE, q1]; rfl, rfl⟩
end Go.Proofs.YtlfdnlomlbbicaaDoor
