/- Walks of names.Path, Split; marref1.Name, Path, Split. -/
import Derived.Test.YtobpojlophhfaaaDoorNamQ
import Derived.Test.YtobpojlophhfaaaDoorObjN
import Derived.Test.YtobpojlophhfaaaDoorSplitR
import Derived.Test.YtobpojlophhfaaaDoorSplit
namespace Go.Mx
open Go Go.RowKit
theorem txt_at' {w : World} {ao : Option Addr} {n cap : Nat} {L : List (List UInt8)} (h : Sl w 1 (.slice ao n cap) L.length (ss (tx L))) (i : Nat) (hi : i < L.length) : ∃ blk off, ao = some ⟨blk, off, none⟩ ∧ w.cell? ⟨blk, off + i, none⟩ = some (.string (str L[i])) := by
  rw [← tx_len L] at h
  obtain ⟨ao', cap', blk, off, e, _, _, _, hc⟩ := h.txt
  cases e
  obtain ⟨rfl, c⟩ := hc i (by rw [tx_len]; exact hi)
  rw [tx_get] at c
  exact ⟨blk, off, rfl, c⟩
theorem lall_snoc' {α : Type} {l : List α} {p : α → Bool} {i : Nat} (h : i < l.length) : (l.take (i + 1)).all p = ((l.take i).all p && p l[i]) := by
  rw [List.take_succ_eq_append_getElem h, List.all_append]
  simp
theorem lall_not' {α : Type} {l : List α} {p : α → Bool} {i : Nat} (h : i < l.length) (hp : p l[i] = false) : l.all p = false := by
  rw [Bool.eq_false_iff]
  intro ha
  have := List.all_eq_true.1 ha _ (List.getElem_mem h)
  rw [hp] at this
  cases this
theorem sum_mem : ∀ {L : List (List UInt8)} {p : List UInt8}, p ∈ L → p.length ≤ (L.map List.length).sum
  | q :: L, p, h => by
    rw [List.map_cons, List.sum_cons]
    rcases List.mem_cons.1 h with rfl | h
    · omega
    · have := sum_mem h; omega
theorem pcs_le {c : UInt8} {l p : List UInt8} (h : p ∈ pcs c 0 l) : p.length ≤ l.length := by
  have h1 := join_len c (pcs_ne c 0 l)
  rw [join_pcs] at h1
  have h2 := sum_mem h
  have h3 : 1 ≤ (pcs c 0 l).length := List.length_pos_iff.2 (pcs_ne c 0 l)
  omega
end Go.Mx
namespace Go.Proofs.YtobpojlophhfaaaDoor
open Go.RowKit Go.Mx

theorem ssplit_any (s : ByteArray) (hs : s.size < 4294967281) (w : World) :
    Calls Tryd.prog 65 #[.string s, .string ⟨#[47]⟩] w fun e w' => ∃ v, e = .returned v ∧ St w w' [⟨v, 9, 1, (pcs 47 0 (bL s)).length, ss (tx (pcs 47 0 (bL s)))⟩] [] := by
  have G := Mx.hid (genSplit_any s hs 47 0 (Nat.zero_le _) w)
  have hl : (pcs 47 0 s.data.toList).length ≤ maxLen := by
    rw [pcs_len]
    have h1 : s.data.toList.count 47 ≤ s.data.toList.length := List.count_le_length
    have h2 : s.data.toList.length = s.size := rfl
    unfold maxLen
    omega
  have HS := Mx.hid ((St.refl w).made (ss (tx (pcs 47 0 s.data.toList))).toArray 9 1 (pcs 47 0 s.data.toList).length (by simp [ss_len, tx_len]) hl)
  clear hl
  go_enter Tryd.func65, Tryd.ntmps65
  go_wp2_with fail
  refine G.out.mono ?_
  rintro e w' ⟨rfl, rfl⟩
  go_wp2_with fail
  go_ret
  exact ⟨_, rfl, HS.out⟩

set_option maxHeartbeats 1000000 in
theorem path_any (s : ByteArray) (w : World) (_hs : s.size ≤ maxLen) :
    Calls Tryd.prog 33 #[.string s] w fun e w' => e = .returned (.bool (pathB (bL s))) ∧ St w w' [] [] := by
  have hsl : (bL s).length = s.size := rfl
  by_cases h200 : 200 < s.size
  · have q : decide ((200 : Int) < (s.size : Int)) = true := decide_eq_true (by omega)
    have HF := Mx.hid (show pathB (bL s) = false by unfold pathB; rw [decide_eq_false (by omega)]; rfl)
    clear hsl h200
    go_enter Tryd.func33, Tryd.ntmps33
    go_wp2_with fail
    go_ret
    exact ⟨by rw [HF.out]; rfl, St.refl w⟩
  · have q : decide ((200 : Int) < (s.size : Int)) = false := decide_eq_false (by omega)
    have HG := Mx.hid (fun wx => ssplit_any s (by omega) wx)
    have HP := Mx.hid (show pathB (bL s) = ((pcs 47 0 (bL s)).all nameB && decide ((pcs 47 0 (bL s)).length ≤ 8)) by unfold pathB; rw [decide_eq_true (by omega)]; rfl)
    have hL : ∀ p ∈ pcs 47 0 (bL s), p.length ≤ 200 := fun p hp => by have := pcs_le hp; omega
    generalize pcs 47 0 (bL s) = L at *
    have HL := Mx.hid hL
    clear hL hsl h200 _hs
    go_enter Tryd.func33, Tryd.ntmps33
    go_wp2_with fail
    refine (HG.out _).mono ?_
    rintro e w1 ⟨v, rfl, hk⟩
    obtain ⟨ao, cap, rfl, l1, l2, _⟩ := id hk.sl0
    unfold maxLen at l2
    replace hk := hk.freeze
    simp only [] at hk
    go_wp2_with fail
    go_loopw [13] (fun y wr => ∃ i : Nat, i ≤ L.length ∧ y = .int .i64 i ∧ Hid ((L.take i).all nameB = true) ∧ St w wr [] [⟨.slice ao L.length cap, 1, L.length, ss (tx L)⟩]) (fun y _ => L.length - (intOf y).toNat)
    case atStart => exact ⟨0, by omega, rfl, by simp [Hid], hk⟩
    case round =>
      clear hk
      obtain ⟨i, hi, rfl, HA, hs⟩ := hrel
      by_cases hlt : i < L.length
      · obtain ⟨blk, off, rfl, c0⟩ := txt_at' hs.q0 i hlt
        have HN := Mx.hid (fun wx => name_any (str L[i]) wx (by have := HL.out L[i] (List.getElem_mem hlt); rw [str_size]; unfold maxLen; omega))
        rw [bL_str] at HN
        have HS := Mx.hid (lall_snoc' (p := nameB) hlt)
        have HX := Mx.hid (fun h => (show pathB (bL s) = false by rw [HP.out, lall_not' (p := nameB) hlt h]; rfl))
        cases hb : nameB L[i] with
        | false =>
          have HF := Mx.hid (HX.out hb)
          rw [hb] at HN
          clear HX HS hb
          generalize str L[i] = t at *
          go_wp2_with (go_at_call 39; refine (HN.out _).mono ?_; rintro e w2 ⟨rfl, rfl⟩)
          go_ret
          exact ⟨by rw [HF.out]; rfl, hs.noQ⟩
        | true =>
          have HB := Mx.hid hb
          rw [hb] at HN
          clear HX hb
          generalize str L[i] = t at *
          go_wp2_with (go_at_call 39; refine (HN.out _).mono ?_; rintro e w2 ⟨rfl, rfl⟩)
          go_roundw
          case rel => exact ⟨i + 1, by omega, by go_num, by show _ = true; rw [HS.out, HA.out, HB.out]; rfl, hs⟩
          case measure => simp [intOf]; omega
      · have HF := Mx.hid (show pathB (bL s) = decide (L.length ≤ 8) by
          have h1 := HA.out
          rw [List.take_of_length_le (by omega)] at h1
          rw [HP.out, h1]; rfl)
        go_wp2_with fail
        go_ret
        exact ⟨by rw [HF.out, le_dec]; rfl, hs.noQ⟩

/-- names.Split. -/
theorem split_n (s : ByteArray) (w : World) (hs : s.size ≤ maxLen) :
    Calls Tryd.prog 34 #[.string s] w fun e w' => ∃ v, e = .returned v ∧ St w w' [⟨v, 9, 1, (namesL (bL s)).length, ss (tx (namesL (bL s)))⟩] [] := by
  have HP := Mx.hid (fun wx => path_any s wx hs)
  cases hp : pathB (bL s) with
  | false =>
    have HN := Mx.hid (names_not hp)
    rw [hp] at HP
    clear hp
    go_enter Tryd.func34, Tryd.ntmps34
    go_wp2_with fail
    refine (HP.out _).mono ?_
    rintro e w1 ⟨rfl, hk⟩
    go_wp2_with fail
    go_ret
    exact ⟨_, rfl, by rw [HN.out]; exact hk.addNil _ _⟩
  | true =>
    have h200 : s.size ≤ 200 := by
      have h := hp
      unfold pathB at h
      simp only [Bool.and_eq_true, decide_eq_true_eq] at h
      exact h.1
    have HN := Mx.hid (show namesL (bL s) = pcs 47 0 (bL s) by unfold namesL; rw [if_pos hp])
    have HG := Mx.hid (fun wx => ssplit_any s (by omega) wx)
    rw [hp] at HP
    clear hp
    go_enter Tryd.func34, Tryd.ntmps34
    go_wp2_with fail
    refine (HP.out _).mono ?_
    rintro e w1 ⟨rfl, hk⟩
    go_wp2_with fail
    refine (HG.out _).mono ?_
    rintro e w2 ⟨v, rfl, hk2⟩
    go_wp2_with fail
    go_ret
    exact ⟨_, rfl, by rw [HN.out]; exact hk.call hk2⟩

set_option maxHeartbeats 2000000 in
theorem refName_any (s : ByteArray) (w : World) (hs : s.size ≤ maxLen) :
    Calls Tryd.prog 40 #[.string s] w fun e w' => e = .returned (.bool (nameB (bL s))) ∧ w = w' := by
  unfold maxLen at hs
  have HNT : Hid (nameB (bL s) = ((bL s).all nmc && decide (bL s ≠ [] ∧ (bL s).length ≤ 64 ∧ bL s ≠ [46] ∧ bL s ≠ [46, 46]))) := rfl
  rw [name_tail] at HNT
  have hem : s.toList.isEmpty = decide (s.size < 1) := by
    rw [ByteArray.toList_eq, Bool.eq_iff_iff, List.isEmpty_iff, decide_eq_true_iff]
    have : s.data.toList.length = s.size := rfl
    constructor
    · intro h; rw [h] at this; simp at this; omega
    · intro h; exact List.eq_nil_of_length_eq_zero (by omega)
  by_cases h1 : s.size < 1
  · have q1 : decide ((s.size : Int) < 1) = true := decide_eq_true (by omega)
    have HF := Mx.hid (show nameB (bL s) = false by rw [HNT.out, hem, decide_eq_true h1]; simp)
    clear hem h1
    go_enter Tryd.func40, Tryd.ntmps40
    go_wp2_with (first | ((with_reducible show wpList _ _ _ _ _ _); refine wpl_want rfl ?_))
    go_ret
    exact ⟨by rw [HF.out]; rfl, rfl⟩
  have q1 : decide ((s.size : Int) < 1) = false := decide_eq_false (by omega)
  rw [decide_eq_false h1] at hem
  by_cases h2 : 64 < s.size
  · have q2 : decide ((64 : Int) < (s.size : Int)) = true := decide_eq_true (by omega)
    have HF := Mx.hid (show nameB (bL s) = false by rw [HNT.out, decide_eq_false (show ¬ (s.size : Int) ≤ 64 by omega)]; simp)
    clear hem h1 h2
    go_enter Tryd.func40, Tryd.ntmps40
    go_wp2_with (first | ((with_reducible show wpList _ _ _ _ _ _); refine wpl_want rfl ?_))
    go_ret
    exact ⟨by rw [HF.out]; rfl, rfl⟩
  have q2 : decide ((64 : Int) < (s.size : Int)) = false := decide_eq_false (by omega)
  have e2 : decide ((s.size : Int) ≤ 64) = true := decide_eq_true (by omega)
  cases h3 : (s.toList == [46]) with
  | true =>
    have HF := Mx.hid (show nameB (bL s) = false by rw [HNT.out, h3]; simp)
    clear hem h1 h2
    go_enter Tryd.func40, Tryd.ntmps40
    go_wp2_with (first | ((with_reducible show wpList _ _ _ _ _ _); refine wpl_want rfl ?_))
    go_ret
    exact ⟨by rw [HF.out]; rfl, rfl⟩
  | false =>
  cases h4 : (s.toList == [46, 46]) with
  | true =>
    have HF := Mx.hid (show nameB (bL s) = false by rw [HNT.out, h4]; simp)
    clear hem h1 h2
    go_enter Tryd.func40, Tryd.ntmps40
    go_wp2_with (first | ((with_reducible show wpList _ _ _ _ _ _); refine wpl_want rfl ?_))
    go_ret
    exact ⟨by rw [HF.out]; rfl, rfl⟩
  | false =>
  have HNB := Mx.hid (show nameB (bL s) = (bL s).all nmc by rw [HNT.out, hem, e2, h3, h4]; simp)
  clear hem h1 h2 e2 HNT
  go_enter Tryd.func40, Tryd.ntmps40
  go_wp2_with (first | ((with_reducible show wpList _ _ _ _ _ _); refine wpl_want rfl ?_))
  clear q1 q2 h3 h4
  go_loop [3] (fun y => ∃ i : Nat, i ≤ s.size ∧ y = .int .i64 i ∧ Hid (((bL s).take i).all nmc = true)) (fun y => s.size - (intOf y).toNat)
  case atStart => exact ⟨0, by omega, rfl, by simp [Hid]⟩
  case round =>
    obtain ⟨i, hi, rfl, HA⟩ := hrel
    by_cases hlt : i < s.size
    · have HS := Mx.hid (all_snoc (p := nmc) hlt)
      have HN := Mx.hid (fun h => (show nameB (bL s) = false by rw [HNB.out, all_not (p := nmc) hlt h]))
      have hc : (s[i].toNat : Int) < 33 ∨ (33 ≤ (s[i].toNat : Int) ∧ 126 < (s[i].toNat : Int)) ∨ (33 ≤ (s[i].toNat : Int) ∧ (s[i].toNat : Int) ≤ 126 ∧ (s[i].toNat : Int) = 47) ∨ (33 ≤ (s[i].toNat : Int) ∧ (s[i].toNat : Int) ≤ 126 ∧ (s[i].toNat : Int) ≠ 47) := by omega
      rcases hc with h | ⟨h, h2⟩ | ⟨h, h2, h3⟩ | ⟨h, h2, h3⟩
      · have q1 : decide ((s[i].toNat : Int) < 33) = true := decide_eq_true h
        have HF := Mx.hid (HN.out (by unfold nmc; simp; omega))
        go_wp2_with (first | ((with_reducible show wpList _ _ _ _ _ _); refine wpl_want rfl ?_))
        go_ret
        exact ⟨by rw [HF.out]; rfl, rfl⟩
      · have q1 : decide ((s[i].toNat : Int) < 33) = false := decide_eq_false (by omega)
        have q2 : decide (126 < (s[i].toNat : Int)) = true := decide_eq_true h2
        have HF := Mx.hid (HN.out (by unfold nmc; simp; omega))
        go_wp2_with (first | ((with_reducible show wpList _ _ _ _ _ _); refine wpl_want rfl ?_))
        go_ret
        exact ⟨by rw [HF.out]; rfl, rfl⟩
      · have q1 : decide ((s[i].toNat : Int) < 33) = false := decide_eq_false (by omega)
        have q2 : decide (126 < (s[i].toNat : Int)) = false := decide_eq_false (by omega)
        have q3 : ((s[i].toNat : Int) == 47) = true := by rw [beq_iff_eq]; exact h3
        have HF := Mx.hid (HN.out (by unfold nmc; simp; omega))
        clear h3
        go_wp2_with (first | ((with_reducible show wpList _ _ _ _ _ _); refine wpl_want rfl ?_))
        go_ret
        exact ⟨by rw [HF.out]; rfl, rfl⟩
      · have q1 : decide ((s[i].toNat : Int) < 33) = false := decide_eq_false (by omega)
        have q2 : decide (126 < (s[i].toNat : Int)) = false := decide_eq_false (by omega)
        have q3 : ((s[i].toNat : Int) == 47) = false := by rw [beq_eq_false_iff_ne]; exact h3
        have hb : nmc s[i] = true := by unfold nmc; simp; omega
        have HB := Mx.hid hb
        clear hb h3
        go_wp2_with (first | ((with_reducible show wpList _ _ _ _ _ _); refine wpl_want rfl ?_))
        case roundEnd => exact ⟨⟨i + 1, by omega, by go_num, by show _ = true; rw [HS.out, HA.out, HB.out]; rfl⟩, by simp [intOf]; omega⟩
    · have HF := Mx.hid (show nameB (bL s) = true by rw [HNB.out]; exact all_full (p := nmc) (by omega) HA.out)
      go_wp2_with fail
      go_ret
      exact ⟨by rw [HF.out]; rfl, rfl⟩

theorem refCut47 (s : ByteArray) (w : World) (hl : s.size ≤ 4294967296) :
    Calls Tryd.prog 36 #[.string s, .int .u8 47] w fun e w' => ∃ v', e = .returned v' ∧ St w w' [⟨v', 9, 1, (pcs 47 0 (bL s)).length, ss (tx (pcs 47 0 (bL s)))⟩] [] := refCut_any s 47 w hl

set_option maxHeartbeats 1000000 in
theorem refPath_any (s : ByteArray) (w : World) (_hs : s.size ≤ maxLen) :
    Calls Tryd.prog 41 #[.string s] w fun e w' => e = .returned (.bool (pathB (bL s))) ∧ St w w' [] [] := by
  have hsl : (bL s).length = s.size := rfl
  by_cases h200 : 200 < s.size
  · have q : decide ((200 : Int) < (s.size : Int)) = true := decide_eq_true (by omega)
    have HF := Mx.hid (show pathB (bL s) = false by unfold pathB; rw [decide_eq_false (by omega)]; rfl)
    clear hsl h200
    go_enter Tryd.func41, Tryd.ntmps41
    go_wp2_with fail
    go_ret
    exact ⟨by rw [HF.out]; rfl, St.refl w⟩
  · have q : decide ((200 : Int) < (s.size : Int)) = false := decide_eq_false (by omega)
    have HG := Mx.hid (fun wx => refCut47 s wx (by omega))
    have HP := Mx.hid (show pathB (bL s) = ((pcs 47 0 (bL s)).all nameB && decide ((pcs 47 0 (bL s)).length ≤ 8)) by unfold pathB; rw [decide_eq_true (by omega)]; rfl)
    have hL : ∀ p ∈ pcs 47 0 (bL s), p.length ≤ 200 := fun p hp => by have := pcs_le hp; omega
    generalize pcs 47 0 (bL s) = L at *
    have HL := Mx.hid hL
    clear hL hsl h200 _hs
    go_enter Tryd.func41, Tryd.ntmps41
    go_wp2_with fail
    refine (HG.out _).mono ?_
    rintro e w1 ⟨v, rfl, hk⟩
    obtain ⟨ao, cap, rfl, l1, l2, _⟩ := id hk.sl0
    unfold maxLen at l2
    replace hk := hk.freeze
    simp only [] at hk
    go_wp2_with fail
    go_loopw [4] (fun y wr => ∃ i : Nat, i ≤ L.length ∧ y = .int .i64 i ∧ Hid ((L.take i).all nameB = true) ∧ St w wr [] [⟨.slice ao L.length cap, 1, L.length, ss (tx L)⟩]) (fun y _ => L.length - (intOf y).toNat)
    case atStart => exact ⟨0, by omega, rfl, by simp [Hid], hk⟩
    case round =>
      clear hk
      obtain ⟨i, hi, rfl, HA, hs⟩ := hrel
      by_cases hlt : i < L.length
      · obtain ⟨blk, off, rfl, c0⟩ := txt_at' hs.q0 i hlt
        have HN := Mx.hid (fun wx => refName_any (str L[i]) wx (by have := HL.out L[i] (List.getElem_mem hlt); rw [str_size]; unfold maxLen; omega))
        rw [bL_str] at HN
        have HS := Mx.hid (lall_snoc' (p := nameB) hlt)
        have HX := Mx.hid (fun h => (show pathB (bL s) = false by rw [HP.out, lall_not' (p := nameB) hlt h]; rfl))
        cases hb : nameB L[i] with
        | false =>
          have HF := Mx.hid (HX.out hb)
          rw [hb] at HN
          clear HX HS hb
          generalize str L[i] = t at *
          go_wp2_with (go_at_call 40; refine (HN.out _).mono ?_; rintro e w2 ⟨rfl, rfl⟩)
          go_ret
          exact ⟨by rw [HF.out]; rfl, hs.noQ⟩
        | true =>
          have HB := Mx.hid hb
          rw [hb] at HN
          clear HX hb
          generalize str L[i] = t at *
          go_wp2_with (go_at_call 40; refine (HN.out _).mono ?_; rintro e w2 ⟨rfl, rfl⟩)
          go_roundw
          case rel => exact ⟨i + 1, by omega, by go_num, by show _ = true; rw [HS.out, HA.out, HB.out]; rfl, hs⟩
          case measure => simp [intOf]; omega
      · have HF := Mx.hid (show pathB (bL s) = decide (L.length ≤ 8) by
          have h1 := HA.out
          rw [List.take_of_length_le (by omega)] at h1
          rw [HP.out, h1]; rfl)
        go_wp2_with fail
        go_ret
        exact ⟨by rw [HF.out, le_dec]; rfl, hs.noQ⟩

theorem refSplit_n (s : ByteArray) (w : World) (hs : s.size ≤ maxLen) :
    Calls Tryd.prog 42 #[.string s] w fun e w' => ∃ v, e = .returned v ∧ St w w' [⟨v, 9, 1, (namesL (bL s)).length, ss (tx (namesL (bL s)))⟩] [] := by
  have HP := Mx.hid (fun wx => refPath_any s wx hs)
  cases hp : pathB (bL s) with
  | false =>
    have HN := Mx.hid (names_not hp)
    rw [hp] at HP
    clear hp
    go_enter Tryd.func42, Tryd.ntmps42
    go_wp2_with fail
    refine (HP.out _).mono ?_
    rintro e w1 ⟨rfl, hk⟩
    go_wp2_with fail
    go_ret
    exact ⟨_, rfl, by rw [HN.out]; exact hk.addNil _ _⟩
  | true =>
    have h200 : s.size ≤ 200 := by
      have h := hp
      unfold pathB at h
      simp only [Bool.and_eq_true, decide_eq_true_eq] at h
      exact h.1
    have HN := Mx.hid (show namesL (bL s) = pcs 47 0 (bL s) by unfold namesL; rw [if_pos hp])
    have HG := Mx.hid (fun wx => refCut47 s wx (by omega))
    rw [hp] at HP
    clear hp
    go_enter Tryd.func42, Tryd.ntmps42
    go_wp2_with fail
    refine (HP.out _).mono ?_
    rintro e w1 ⟨rfl, hk⟩
    go_wp2_with fail
    refine (HG.out _).mono ?_
    rintro e w2 ⟨v, rfl, hk2⟩
    go_wp2_with fail
    go_ret
    exact ⟨_, rfl, by rw [HN.out]; exact hk.call hk2⟩
end Go.Proofs.YtobpojlophhfaaaDoor
