/- Walks of the laws NamesBack, NamesMore, NamesChain: they return true and leave what was there as it was. -/
import Derived.Test.YtobpojlophhfaaaDoorNamF
namespace Go.Mx
open Go Go.RowKit
theorem names_all {s : List UInt8} (h : pathB s = true) {i : Nat} (hi : i < (namesL s).length) : nameB (namesL s)[i] = true := by
  have hg := (join_names h).2
  unfold goodB at hg
  simp only [Bool.and_eq_true] at hg
  exact List.all_eq_true.1 hg.1.2 _ (List.getElem_mem hi)
theorem joinN_names {s : List UInt8} (h : pathB s = true) : joinN (namesL s) = (s, 0) := by
  obtain ⟨h1, h2⟩ := join_names h
  unfold joinN
  rw [if_pos h2, h1]
/-- How many bytes joined texts have. -/
theorem good_sum (L : List (List UInt8)) : goodB L = (decide (1 ≤ L.length) && decide (L.length ≤ 8) && L.all nameB && decide ((L.map List.length).sum + L.length ≤ 201)) := by
  unfold goodB
  by_cases hn : L = []
  · subst hn; rfl
  · have h1 := join_len 47 hn
    have h2 : 1 ≤ L.length := List.length_pos_iff.2 hn
    rw [decide_eq_true h2, Bool.true_and]
    rw [show decide ((joinS 47 L).length ≤ 200) = decide ((L.map List.length).sum + L.length ≤ 201) from decide_eq_decide.2 (by omega)]
    rw [show decide (L ≠ [] ∧ L.length ≤ 8) = decide (L.length ≤ 8) from decide_eq_decide.2 ⟨fun h => h.2, fun h => ⟨hn, h⟩⟩]
theorem sum_snoc {L : List (List UInt8)} {i : Nat} (h : i < L.length) : ((L.take (i + 1)).map List.length).sum = ((L.take i).map List.length).sum + L[i].length := by
  rw [List.take_succ_eq_append_getElem h, List.map_append, List.sum_append]
  show _ + (L[i].length + 0) = _
  rw [Nat.add_zero]
end Go.Mx
namespace Go.Proofs.YtobpojlophhfaaaDoor
open Go.RowKit Go.Mx

set_option maxRecDepth 200000 in
set_option maxHeartbeats 4000000 in
theorem namesBackRow {w : World} (s : ByteArray) (hs : s.size ≤ maxLen) (v : Value) (l : List ByteArray) (hv : Sl w 1 v l.length (ss l)) (_hl : ∀ x ∈ l, x.size ≤ maxLen) (_w : World) :
    Calls Tryd.prog 9 #[.string s, v] w fun e w' => e = .returned (.bool true) ∧ Below w.heap.size w w' := by
  have HV := Mx.hid hv
  obtain ⟨ao, cap, blk, off, rfl, h1, h2, _, hc⟩ := hv.txt
  have HCL := Mx.hid hc
  have HPA := Mx.hid (fun wx => path_any s wx hs)
  have HSP := Mx.hid (fun wx => split_n s wx hs)
  have HNO := Mx.hid (fun h => names_not (s := bL s) h)
  have HNA := Mx.hid (fun h i hi => names_all (s := bL s) h (i := i) hi)
  have HNJ := Mx.hid (fun h => joinN_names (s := bL s) h)
  have HSB := Mx.hid (str_bL s)
  have HL8 := Mx.hid (names_le8 (bL s))
  have HLM := Mx.hid (fun p (h : p ∈ namesL (bL s)) => names_mem_le h)
  generalize namesL (bL s) = L at *
  generalize hss : bL s = sb at *
  have HSS := Mx.hid hss
  clear hv _hl hs hc hss
  go_enter Tryd.func9, Tryd.ntmps9
  go_wp2_with fail
  refine (first_any _).mono ?_
  rintro e w1 ⟨rfl, hk⟩
  by_cases hb : 1000 < s.size
  · have q : decide ((1000 : Int) < (s.size : Int)) = true := decide_eq_true (by omega)
    clear hb
    go_wp2_with (first | ((with_reducible show wpList _ _ _ _ _ _); refine wpl_want rfl ?_) | (go_at_call 19; refine (first_any _).mono ?_; rintro e w9 ⟨rfl, h9⟩; replace hk := hk.call0 h9))
    go_ret
    exact ⟨rfl, hk.below⟩
  have q : decide ((1000 : Int) < (s.size : Int)) = false := decide_eq_false (by omega)
  clear hb
  go_wp2_with (first | ((with_reducible show wpList _ _ _ _ _ _); refine wpl_want rfl ?_))
  refine (few_any _ l _ (hk.old HV.out)).mono ?_
  rintro e w2 ⟨⟨b, rfl, hfew⟩, rfl⟩
  cases b with
  | false =>
    clear hfew
    go_wp2_with (first | ((with_reducible show wpList _ _ _ _ _ _); refine wpl_want rfl ?_) | (go_at_call 19; refine (first_any _).mono ?_; rintro e w9 ⟨rfl, h9⟩; replace hk := hk.call0 h9))
    go_ret
    exact ⟨rfl, hk.below⟩
  | true =>
  obtain ⟨hl100, hl5⟩ := hfew rfl
  have H100 := Mx.hid hl100
  have HL5 := Mx.hid hl5
  clear hfew hl5
  go_wp2_with fail
  refine (HSP.out _).mono ?_
  rintro e w3 ⟨vp, rfl, h3⟩
  obtain ⟨pa, pc, rfl, l1, l2, _⟩ := id h3.sl0
  unfold maxLen at l2
  replace hk := (hk.call1 h3).freeze
  simp only [] at hk
  clear h3
  obtain ⟨G, hG⟩ : ∃ G, G = (decide (1 ≤ l.length) && decide (l.length ≤ 8)) := ⟨_, rfl⟩
  have hgs : (l.length < 1 ∧ G = false) ∨ (1 ≤ l.length ∧ 8 < l.length ∧ G = false) ∨ (1 ≤ l.length ∧ l.length ≤ 8 ∧ G = true) := by
    subst hG
    simp only [decide_eq_true_eq, Bool.and_eq_true, Bool.and_eq_false_iff, decide_eq_false_iff_not]
    omega
  have HG := Mx.hid hG
  clear hG
  have HJ := Mx.hid (fun wx (h : St w wx [] []) => join_n (.slice ao l.length cap) l wx (h.old HV.out) (fun x hx => by have := HL5.out x hx; unfold maxLen; omega))
  have HJT : Hid (∀ h : goodB (l.map bL) = true, joinN (l.map bL) = (joinS 47 (l.map bL), 0)) := fun h => by unfold joinN; rw [if_pos h]
  have HJF : Hid (∀ h : goodB (l.map bL) = false, joinN (l.map bL) = ([], 6)) := fun h => by unfold joinN; rw [if_neg (by simp [h])]
  have HPG := Mx.hid (fun (h : goodB (l.map bL) = true) => (show pathB (joinS 47 (l.map bL)) = true ∧ namesL (joinS 47 (l.map bL)) = l.map bL from ⟨by rw [path_join (good_ne h) (good_no h)]; exact h, names_join h⟩))
  cases hp : pathB sb with
  | false =>
    have hL0 := HNO.out hp
    subst hL0
    rw [hp] at HPA
    clear hp HNO HNA HNJ HL8 HLM HSP
    rcases hgs with ⟨g1, rfl⟩ | ⟨g1, g2, rfl⟩ | ⟨g1, g2, rfl⟩
    · have d1 : decide ((1 : Int) ≤ (l.length : Int)) = false := decide_eq_false (by omega)
      have d2 : decide (1 ≤ l.length) = false := decide_eq_false (by omega)
      clear g1
      go_wp2_with (first | ((with_reducible show wpList _ _ _ _ _ _); refine wpl_want rfl ?_) | (go_at_call 33; refine (HPA.out _).mono ?_; rintro e w9 ⟨rfl, h9⟩; replace hk := hk.call0 h9))
      clear d1 d2
      go_loop [9, 10, 11] (fun x y z => ∃ (i S : Nat) (g : Bool), i ≤ l.length ∧ z = .int .i64 i ∧ x = .int .i64 ((l.length : Int) - 1 + (S : Int)) ∧ y = .bool g ∧ S ≤ i * 5000 ∧ Hid (S = (((l.map bL).take i).map List.length).sum) ∧ Hid (g = (decide (1 ≤ l.length) && decide (l.length ≤ 8) && ((l.map bL).take i).all nameB))) (fun _ _ z => l.length - (intOf z).toNat)
      case atStart => exact ⟨0, 0, _, by omega, rfl, by simp, rfl, by omega, by simp [Hid], by show _ = _; rw [← HG.out]; rfl⟩
      case round =>
        obtain ⟨i, S, g, hi, rfl, rfl, rfl, hS, HS, HGG⟩ := hrel
        have hl100 := H100.out
        by_cases hlt : i < l.length
        · obtain ⟨rfl, c0⟩ := HCL.out i hlt
          replace c0 := hk.keep c0
          have hz := HL5.out l[i] (List.getElem_mem hlt)
          have HN := Mx.hid (fun wx => name_any l[i] wx (by unfold maxLen; omega))
          have hm : i < (l.map bL).length := by rw [List.length_map]; exact hlt
          have HS2 := Mx.hid (show S + l[i].size = (((l.map bL).take (i + 1)).map List.length).sum by rw [sum_snoc hm, ← HS.out, List.getElem_map]; rfl)
          have HG2 := Mx.hid (show (g && nameB (bL l[i])) = (decide (1 ≤ l.length) && decide (l.length ≤ 8) && ((l.map bL).take (i + 1)).all nameB) by rw [lall_snoc' (p := nameB) hm, HGG.out, List.getElem_map, Bool.and_assoc])
          clear hm
          generalize nameB (bL l[i]) = r at *
          generalize l[i] = t at *
          cases g with
          | true =>
            go_wp2_with (first | ((with_reducible show wpList _ _ _ _ _ _); refine wpl_want rfl ?_) | (go_at_call 39; refine (HN.out _).mono ?_; rintro e w9 ⟨rfl, rfl⟩))
            go_round
            case rel => exact ⟨i + 1, S + t.size, r, by omega, by go_num, by congr 1; omega, rfl, by omega, HS2, by rw [Bool.true_and] at HG2; exact HG2⟩
            case measure => simp [intOf]; omega
          | false =>
            go_wp2_with (first | ((with_reducible show wpList _ _ _ _ _ _); refine wpl_want rfl ?_))
            go_round
            case rel => exact ⟨i + 1, S + t.size, false, by omega, by go_num, by congr 1; omega, rfl, by omega, HS2, by rw [Bool.false_and] at HG2; exact HG2⟩
            case measure => simp [intOf]; omega
        · have hil : i = l.length := by omega
          have hf : (l.map bL).take i = l.map bL := List.take_of_length_le (by rw [List.length_map]; omega)
          have HGB := Mx.hid (show goodB (l.map bL) = (g && decide (S + l.length ≤ 201)) by
            rw [good_sum, HGG.out, HS.out, hf, List.length_map])
          have hge : (l.length : Int) ≤ (i : Int) := by omega
          clear hf hlt hil
          cases g with
          | false =>
            have HF := Mx.hid (HGB.out.trans (Bool.false_and _))
            have HJX := HJ
            rw [HJF.out HF.out] at HJX
            simp only [] at HJX
            replace HJX : Hid (∀ wx : World, St w wx [] [] → Calls Tryd.prog 37 #[.slice ao l.length cap] wx fun e w' => e = .returned (.tuple #[.string ⟨#[]⟩, .int .i64 6]) ∧ St wx w' [] []) := HJX
            go_wp2_with (first | ((with_reducible show wpList _ _ _ _ _ _); refine wpl_want rfl ?_) | (go_at_call 37; refine (HJX.out _ hk.bare).mono ?_; rintro e w5 ⟨rfl, h5⟩; replace hk := hk.call0 h5) | (go_at_call 19; refine (first_any _).mono ?_; rintro e w9 ⟨rfl, h9⟩; replace hk := hk.call0 h9))
            go_ret
            exact ⟨rfl, hk.below⟩
          | true =>
            by_cases h201 : S + l.length ≤ 201
            · have q9 : decide ((l.length : Int) - 1 + (S : Int) ≤ 200) = true := decide_eq_true (by omega)
              have hg9 := HGB.out.trans (by rw [decide_eq_true h201]; first | done | rfl)
              have HJX := HJ
              rw [HJT.out hg9] at HJX
              simp only [] at HJX
              obtain ⟨hpt, hnt⟩ := HPG.out hg9
              have hz9 : (str (joinS 47 (l.map bL))).size ≤ 200 := path_200 (by rw [bL_str]; exact hpt)
              have HPT := Mx.hid (fun wx => path_any (str (joinS 47 (l.map bL))) wx (by unfold maxLen; omega))
              have HST := Mx.hid (fun wx => split_n (str (joinS 47 (l.map bL))) wx (by unfold maxLen; omega))
              rw [bL_str, hpt] at HPT
              rw [bL_str, hnt, tx_bL, List.length_map] at HST
              clear hg9 hpt hnt hz9 h201
              generalize str (joinS 47 (l.map bL)) = t at *
              go_wp2_with (first | ((with_reducible show wpList _ _ _ _ _ _); refine wpl_want rfl ?_) | (go_at_call 37; refine (HJX.out _ hk.bare).mono ?_; rintro e w5 ⟨rfl, h5⟩; replace hk := hk.call0 h5) | (go_at_call 19; refine (first_any _).mono ?_; rintro e w9 ⟨rfl, h9⟩; replace hk := hk.call0 h9) | (go_at_call 33; refine (HPT.out _).mono ?_; rintro e w9 ⟨rfl, h9⟩; replace hk := hk.call0 h9) | (go_at_call 34; refine (HST.out _).mono ?_; rintro e w6 ⟨v6, rfl, h6⟩; replace hk := (hk.call1 h6).freeze; simp only [] at hk) | (go_at_call 27; refine (texts_same _ _ l l _ hk.q0 (hk.old HV.out) rfl).mono ?_; rintro e w8 ⟨rfl, h8⟩; replace hk := hk.call0 h8))
              go_ret
              exact ⟨rfl, hk.below⟩
            · have q9 : decide ((l.length : Int) - 1 + (S : Int) ≤ 200) = false := decide_eq_false (by omega)
              have HF := Mx.hid (HGB.out.trans (by rw [decide_eq_false h201]; first | done | rfl))
              have HJX := HJ
              rw [HJF.out HF.out] at HJX
              simp only [] at HJX
              replace HJX : Hid (∀ wx : World, St w wx [] [] → Calls Tryd.prog 37 #[.slice ao l.length cap] wx fun e w' => e = .returned (.tuple #[.string ⟨#[]⟩, .int .i64 6]) ∧ St wx w' [] []) := HJX
              clear h201
              go_wp2_with (first | ((with_reducible show wpList _ _ _ _ _ _); refine wpl_want rfl ?_) | (go_at_call 37; refine (HJX.out _ hk.bare).mono ?_; rintro e w5 ⟨rfl, h5⟩; replace hk := hk.call0 h5) | (go_at_call 19; refine (first_any _).mono ?_; rintro e w9 ⟨rfl, h9⟩; replace hk := hk.call0 h9))
              go_ret
              exact ⟨rfl, hk.below⟩
    · have d1 : decide ((1 : Int) ≤ (l.length : Int)) = true := decide_eq_true (by omega)
      have d2 : decide (1 ≤ l.length) = true := decide_eq_true (by omega)
      have d5 : decide ((l.length : Int) ≤ 8) = false := decide_eq_false (by omega)
      clear g1 g2
      go_wp2_with (first | ((with_reducible show wpList _ _ _ _ _ _); refine wpl_want rfl ?_) | (go_at_call 33; refine (HPA.out _).mono ?_; rintro e w9 ⟨rfl, h9⟩; replace hk := hk.call0 h9))
      clear d1 d2 d5
      go_loop [9, 10, 11] (fun x y z => ∃ (i S : Nat) (g : Bool), i ≤ l.length ∧ z = .int .i64 i ∧ x = .int .i64 ((l.length : Int) - 1 + (S : Int)) ∧ y = .bool g ∧ S ≤ i * 5000 ∧ Hid (S = (((l.map bL).take i).map List.length).sum) ∧ Hid (g = (decide (1 ≤ l.length) && decide (l.length ≤ 8) && ((l.map bL).take i).all nameB))) (fun _ _ z => l.length - (intOf z).toNat)
      case atStart => exact ⟨0, 0, _, by omega, rfl, by simp, rfl, by omega, by simp [Hid], by show _ = _; rw [← HG.out]; rfl⟩
      case round =>
        obtain ⟨i, S, g, hi, rfl, rfl, rfl, hS, HS, HGG⟩ := hrel
        have hl100 := H100.out
        by_cases hlt : i < l.length
        · obtain ⟨rfl, c0⟩ := HCL.out i hlt
          replace c0 := hk.keep c0
          have hz := HL5.out l[i] (List.getElem_mem hlt)
          have HN := Mx.hid (fun wx => name_any l[i] wx (by unfold maxLen; omega))
          have hm : i < (l.map bL).length := by rw [List.length_map]; exact hlt
          have HS2 := Mx.hid (show S + l[i].size = (((l.map bL).take (i + 1)).map List.length).sum by rw [sum_snoc hm, ← HS.out, List.getElem_map]; rfl)
          have HG2 := Mx.hid (show (g && nameB (bL l[i])) = (decide (1 ≤ l.length) && decide (l.length ≤ 8) && ((l.map bL).take (i + 1)).all nameB) by rw [lall_snoc' (p := nameB) hm, HGG.out, List.getElem_map, Bool.and_assoc])
          clear hm
          generalize nameB (bL l[i]) = r at *
          generalize l[i] = t at *
          cases g with
          | true =>
            go_wp2_with (first | ((with_reducible show wpList _ _ _ _ _ _); refine wpl_want rfl ?_) | (go_at_call 39; refine (HN.out _).mono ?_; rintro e w9 ⟨rfl, rfl⟩))
            go_round
            case rel => exact ⟨i + 1, S + t.size, r, by omega, by go_num, by congr 1; omega, rfl, by omega, HS2, by rw [Bool.true_and] at HG2; exact HG2⟩
            case measure => simp [intOf]; omega
          | false =>
            go_wp2_with (first | ((with_reducible show wpList _ _ _ _ _ _); refine wpl_want rfl ?_))
            go_round
            case rel => exact ⟨i + 1, S + t.size, false, by omega, by go_num, by congr 1; omega, rfl, by omega, HS2, by rw [Bool.false_and] at HG2; exact HG2⟩
            case measure => simp [intOf]; omega
        · have hil : i = l.length := by omega
          have hf : (l.map bL).take i = l.map bL := List.take_of_length_le (by rw [List.length_map]; omega)
          have HGB := Mx.hid (show goodB (l.map bL) = (g && decide (S + l.length ≤ 201)) by
            rw [good_sum, HGG.out, HS.out, hf, List.length_map])
          have hge : (l.length : Int) ≤ (i : Int) := by omega
          clear hf hlt hil
          cases g with
          | false =>
            have HF := Mx.hid (HGB.out.trans (Bool.false_and _))
            have HJX := HJ
            rw [HJF.out HF.out] at HJX
            simp only [] at HJX
            replace HJX : Hid (∀ wx : World, St w wx [] [] → Calls Tryd.prog 37 #[.slice ao l.length cap] wx fun e w' => e = .returned (.tuple #[.string ⟨#[]⟩, .int .i64 6]) ∧ St wx w' [] []) := HJX
            go_wp2_with (first | ((with_reducible show wpList _ _ _ _ _ _); refine wpl_want rfl ?_) | (go_at_call 37; refine (HJX.out _ hk.bare).mono ?_; rintro e w5 ⟨rfl, h5⟩; replace hk := hk.call0 h5) | (go_at_call 19; refine (first_any _).mono ?_; rintro e w9 ⟨rfl, h9⟩; replace hk := hk.call0 h9))
            go_ret
            exact ⟨rfl, hk.below⟩
          | true =>
            by_cases h201 : S + l.length ≤ 201
            · have q9 : decide ((l.length : Int) - 1 + (S : Int) ≤ 200) = true := decide_eq_true (by omega)
              have hg9 := HGB.out.trans (by rw [decide_eq_true h201]; first | done | rfl)
              have HJX := HJ
              rw [HJT.out hg9] at HJX
              simp only [] at HJX
              obtain ⟨hpt, hnt⟩ := HPG.out hg9
              have hz9 : (str (joinS 47 (l.map bL))).size ≤ 200 := path_200 (by rw [bL_str]; exact hpt)
              have HPT := Mx.hid (fun wx => path_any (str (joinS 47 (l.map bL))) wx (by unfold maxLen; omega))
              have HST := Mx.hid (fun wx => split_n (str (joinS 47 (l.map bL))) wx (by unfold maxLen; omega))
              rw [bL_str, hpt] at HPT
              rw [bL_str, hnt, tx_bL, List.length_map] at HST
              clear hg9 hpt hnt hz9 h201
              generalize str (joinS 47 (l.map bL)) = t at *
              go_wp2_with (first | ((with_reducible show wpList _ _ _ _ _ _); refine wpl_want rfl ?_) | (go_at_call 37; refine (HJX.out _ hk.bare).mono ?_; rintro e w5 ⟨rfl, h5⟩; replace hk := hk.call0 h5) | (go_at_call 19; refine (first_any _).mono ?_; rintro e w9 ⟨rfl, h9⟩; replace hk := hk.call0 h9) | (go_at_call 33; refine (HPT.out _).mono ?_; rintro e w9 ⟨rfl, h9⟩; replace hk := hk.call0 h9) | (go_at_call 34; refine (HST.out _).mono ?_; rintro e w6 ⟨v6, rfl, h6⟩; replace hk := (hk.call1 h6).freeze; simp only [] at hk) | (go_at_call 27; refine (texts_same _ _ l l _ hk.q0 (hk.old HV.out) rfl).mono ?_; rintro e w8 ⟨rfl, h8⟩; replace hk := hk.call0 h8))
              go_ret
              exact ⟨rfl, hk.below⟩
            · have q9 : decide ((l.length : Int) - 1 + (S : Int) ≤ 200) = false := decide_eq_false (by omega)
              have HF := Mx.hid (HGB.out.trans (by rw [decide_eq_false h201]; first | done | rfl))
              have HJX := HJ
              rw [HJF.out HF.out] at HJX
              simp only [] at HJX
              replace HJX : Hid (∀ wx : World, St w wx [] [] → Calls Tryd.prog 37 #[.slice ao l.length cap] wx fun e w' => e = .returned (.tuple #[.string ⟨#[]⟩, .int .i64 6]) ∧ St wx w' [] []) := HJX
              clear h201
              go_wp2_with (first | ((with_reducible show wpList _ _ _ _ _ _); refine wpl_want rfl ?_) | (go_at_call 37; refine (HJX.out _ hk.bare).mono ?_; rintro e w5 ⟨rfl, h5⟩; replace hk := hk.call0 h5) | (go_at_call 19; refine (first_any _).mono ?_; rintro e w9 ⟨rfl, h9⟩; replace hk := hk.call0 h9))
              go_ret
              exact ⟨rfl, hk.below⟩
    · have d1 : decide ((1 : Int) ≤ (l.length : Int)) = true := decide_eq_true (by omega)
      have d2 : decide (1 ≤ l.length) = true := decide_eq_true (by omega)
      have d5 : decide ((l.length : Int) ≤ 8) = true := decide_eq_true (by omega)
      clear g1 g2
      go_wp2_with (first | ((with_reducible show wpList _ _ _ _ _ _); refine wpl_want rfl ?_) | (go_at_call 33; refine (HPA.out _).mono ?_; rintro e w9 ⟨rfl, h9⟩; replace hk := hk.call0 h9))
      clear d1 d2 d5
      go_loop [9, 10, 11] (fun x y z => ∃ (i S : Nat) (g : Bool), i ≤ l.length ∧ z = .int .i64 i ∧ x = .int .i64 ((l.length : Int) - 1 + (S : Int)) ∧ y = .bool g ∧ S ≤ i * 5000 ∧ Hid (S = (((l.map bL).take i).map List.length).sum) ∧ Hid (g = (decide (1 ≤ l.length) && decide (l.length ≤ 8) && ((l.map bL).take i).all nameB))) (fun _ _ z => l.length - (intOf z).toNat)
      case atStart => exact ⟨0, 0, _, by omega, rfl, by simp, rfl, by omega, by simp [Hid], by show _ = _; rw [← HG.out]; rfl⟩
      case round =>
        obtain ⟨i, S, g, hi, rfl, rfl, rfl, hS, HS, HGG⟩ := hrel
        have hl100 := H100.out
        by_cases hlt : i < l.length
        · obtain ⟨rfl, c0⟩ := HCL.out i hlt
          replace c0 := hk.keep c0
          have hz := HL5.out l[i] (List.getElem_mem hlt)
          have HN := Mx.hid (fun wx => name_any l[i] wx (by unfold maxLen; omega))
          have hm : i < (l.map bL).length := by rw [List.length_map]; exact hlt
          have HS2 := Mx.hid (show S + l[i].size = (((l.map bL).take (i + 1)).map List.length).sum by rw [sum_snoc hm, ← HS.out, List.getElem_map]; rfl)
          have HG2 := Mx.hid (show (g && nameB (bL l[i])) = (decide (1 ≤ l.length) && decide (l.length ≤ 8) && ((l.map bL).take (i + 1)).all nameB) by rw [lall_snoc' (p := nameB) hm, HGG.out, List.getElem_map, Bool.and_assoc])
          clear hm
          generalize nameB (bL l[i]) = r at *
          generalize l[i] = t at *
          cases g with
          | true =>
            go_wp2_with (first | ((with_reducible show wpList _ _ _ _ _ _); refine wpl_want rfl ?_) | (go_at_call 39; refine (HN.out _).mono ?_; rintro e w9 ⟨rfl, rfl⟩))
            go_round
            case rel => exact ⟨i + 1, S + t.size, r, by omega, by go_num, by congr 1; omega, rfl, by omega, HS2, by rw [Bool.true_and] at HG2; exact HG2⟩
            case measure => simp [intOf]; omega
          | false =>
            go_wp2_with (first | ((with_reducible show wpList _ _ _ _ _ _); refine wpl_want rfl ?_))
            go_round
            case rel => exact ⟨i + 1, S + t.size, false, by omega, by go_num, by congr 1; omega, rfl, by omega, HS2, by rw [Bool.false_and] at HG2; exact HG2⟩
            case measure => simp [intOf]; omega
        · have hil : i = l.length := by omega
          have hf : (l.map bL).take i = l.map bL := List.take_of_length_le (by rw [List.length_map]; omega)
          have HGB := Mx.hid (show goodB (l.map bL) = (g && decide (S + l.length ≤ 201)) by
            rw [good_sum, HGG.out, HS.out, hf, List.length_map])
          have hge : (l.length : Int) ≤ (i : Int) := by omega
          clear hf hlt hil
          cases g with
          | false =>
            have HF := Mx.hid (HGB.out.trans (Bool.false_and _))
            have HJX := HJ
            rw [HJF.out HF.out] at HJX
            simp only [] at HJX
            replace HJX : Hid (∀ wx : World, St w wx [] [] → Calls Tryd.prog 37 #[.slice ao l.length cap] wx fun e w' => e = .returned (.tuple #[.string ⟨#[]⟩, .int .i64 6]) ∧ St wx w' [] []) := HJX
            go_wp2_with (first | ((with_reducible show wpList _ _ _ _ _ _); refine wpl_want rfl ?_) | (go_at_call 37; refine (HJX.out _ hk.bare).mono ?_; rintro e w5 ⟨rfl, h5⟩; replace hk := hk.call0 h5) | (go_at_call 19; refine (first_any _).mono ?_; rintro e w9 ⟨rfl, h9⟩; replace hk := hk.call0 h9))
            go_ret
            exact ⟨rfl, hk.below⟩
          | true =>
            by_cases h201 : S + l.length ≤ 201
            · have q9 : decide ((l.length : Int) - 1 + (S : Int) ≤ 200) = true := decide_eq_true (by omega)
              have hg9 := HGB.out.trans (by rw [decide_eq_true h201]; first | done | rfl)
              have HJX := HJ
              rw [HJT.out hg9] at HJX
              simp only [] at HJX
              obtain ⟨hpt, hnt⟩ := HPG.out hg9
              have hz9 : (str (joinS 47 (l.map bL))).size ≤ 200 := path_200 (by rw [bL_str]; exact hpt)
              have HPT := Mx.hid (fun wx => path_any (str (joinS 47 (l.map bL))) wx (by unfold maxLen; omega))
              have HST := Mx.hid (fun wx => split_n (str (joinS 47 (l.map bL))) wx (by unfold maxLen; omega))
              rw [bL_str, hpt] at HPT
              rw [bL_str, hnt, tx_bL, List.length_map] at HST
              clear hg9 hpt hnt hz9 h201
              generalize str (joinS 47 (l.map bL)) = t at *
              go_wp2_with (first | ((with_reducible show wpList _ _ _ _ _ _); refine wpl_want rfl ?_) | (go_at_call 37; refine (HJX.out _ hk.bare).mono ?_; rintro e w5 ⟨rfl, h5⟩; replace hk := hk.call0 h5) | (go_at_call 19; refine (first_any _).mono ?_; rintro e w9 ⟨rfl, h9⟩; replace hk := hk.call0 h9) | (go_at_call 33; refine (HPT.out _).mono ?_; rintro e w9 ⟨rfl, h9⟩; replace hk := hk.call0 h9) | (go_at_call 34; refine (HST.out _).mono ?_; rintro e w6 ⟨v6, rfl, h6⟩; replace hk := (hk.call1 h6).freeze; simp only [] at hk) | (go_at_call 27; refine (texts_same _ _ l l _ hk.q0 (hk.old HV.out) rfl).mono ?_; rintro e w8 ⟨rfl, h8⟩; replace hk := hk.call0 h8))
              go_ret
              exact ⟨rfl, hk.below⟩
            · have q9 : decide ((l.length : Int) - 1 + (S : Int) ≤ 200) = false := decide_eq_false (by omega)
              have HF := Mx.hid (HGB.out.trans (by rw [decide_eq_false h201]; first | done | rfl))
              have HJX := HJ
              rw [HJF.out HF.out] at HJX
              simp only [] at HJX
              replace HJX : Hid (∀ wx : World, St w wx [] [] → Calls Tryd.prog 37 #[.slice ao l.length cap] wx fun e w' => e = .returned (.tuple #[.string ⟨#[]⟩, .int .i64 6]) ∧ St wx w' [] []) := HJX
              clear h201
              go_wp2_with (first | ((with_reducible show wpList _ _ _ _ _ _); refine wpl_want rfl ?_) | (go_at_call 37; refine (HJX.out _ hk.bare).mono ?_; rintro e w5 ⟨rfl, h5⟩; replace hk := hk.call0 h5) | (go_at_call 19; refine (first_any _).mono ?_; rintro e w9 ⟨rfl, h9⟩; replace hk := hk.call0 h9))
              go_ret
              exact ⟨rfl, hk.below⟩
  | true =>
    have HJ1 := Mx.hid (fun wx (h : Sl wx 1 (.slice pa L.length pc) L.length (ss (tx L))) => join_n (.slice pa L.length pc) (tx L) wx (by rw [tx_len]; exact h) (fun x hx => by
      obtain ⟨y, hy, rfl⟩ := List.mem_map.1 hx
      have := HLM.out y hy
      rw [str_size]; unfold maxLen; omega))
    rw [tx_map, HNJ.out hp] at HJ1
    simp only [HSB.out] at HJ1
    have HNA2 := Mx.hid (fun i hi => HNA.out hp i hi)
    rw [hp] at HPA
    clear hp HNO HNA HNJ HSP
    have hl8 := HL8.out
    go_wp2_with (first | ((with_reducible show wpList _ _ _ _ _ _); refine wpl_want rfl ?_) | (go_at_call 33; refine (HPA.out _).mono ?_; rintro e w9 ⟨rfl, h9⟩; replace hk := hk.call0 h9) | (go_at_call 37; refine (HJ1.out _ hk.q0).mono ?_; rintro e w4 ⟨rfl, h4⟩; replace hk := hk.call0 h4))
    go_loop [8] (fun y => ∃ i : Nat, i ≤ L.length ∧ y = .int .i64 i) (fun y => L.length - (intOf y).toNat)
    case atStart => exact ⟨0, by omega, rfl⟩
    case round =>
      obtain ⟨i, hi, rfl⟩ := hrel
      by_cases hlt : i < L.length
      · obtain ⟨b2, o2, rfl, c0⟩ := txt_at' hk.q0 i hlt
        have HN := Mx.hid (fun wx => name_any (str L[i]) wx (by have := HLM.out L[i] (List.getElem_mem hlt); rw [str_size]; unfold maxLen; omega))
        rw [bL_str, HNA2.out i hlt] at HN
        generalize str L[i] = t at *
        go_wp2_with (first | ((with_reducible show wpList _ _ _ _ _ _); refine wpl_want rfl ?_) | (go_at_call 39; refine (HN.out _).mono ?_; rintro e w9 ⟨rfl, rfl⟩))
        go_round
        case rel => exact ⟨i + 1, by omega, by go_num⟩
        case measure => simp [intOf]; omega
      · have hgl : (L.length : Int) ≤ (i : Int) := by omega
        clear hlt hi
        rcases hgs with ⟨g1, rfl⟩ | ⟨g1, g2, rfl⟩ | ⟨g1, g2, rfl⟩
        · have d1 : decide ((1 : Int) ≤ (l.length : Int)) = false := decide_eq_false (by omega)
          have d2 : decide (1 ≤ l.length) = false := decide_eq_false (by omega)
          clear g1
          go_wp2_with (first | ((with_reducible show wpList _ _ _ _ _ _); refine wpl_want rfl ?_))
          clear d1 d2
          go_loop [9, 10, 11] (fun x y z => ∃ (i S : Nat) (g : Bool), i ≤ l.length ∧ z = .int .i64 i ∧ x = .int .i64 ((l.length : Int) - 1 + (S : Int)) ∧ y = .bool g ∧ S ≤ i * 5000 ∧ Hid (S = (((l.map bL).take i).map List.length).sum) ∧ Hid (g = (decide (1 ≤ l.length) && decide (l.length ≤ 8) && ((l.map bL).take i).all nameB))) (fun _ _ z => l.length - (intOf z).toNat)
          case atStart => exact ⟨0, 0, _, by omega, rfl, by simp, rfl, by omega, by simp [Hid], by show _ = _; rw [← HG.out]; rfl⟩
          case round =>
            obtain ⟨i, S, g, hi, rfl, rfl, rfl, hS, HS, HGG⟩ := hrel
            have hl100 := H100.out
            by_cases hlt : i < l.length
            · obtain ⟨rfl, c0⟩ := HCL.out i hlt
              replace c0 := hk.keep c0
              have hz := HL5.out l[i] (List.getElem_mem hlt)
              have HN := Mx.hid (fun wx => name_any l[i] wx (by unfold maxLen; omega))
              have hm : i < (l.map bL).length := by rw [List.length_map]; exact hlt
              have HS2 := Mx.hid (show S + l[i].size = (((l.map bL).take (i + 1)).map List.length).sum by rw [sum_snoc hm, ← HS.out, List.getElem_map]; rfl)
              have HG2 := Mx.hid (show (g && nameB (bL l[i])) = (decide (1 ≤ l.length) && decide (l.length ≤ 8) && ((l.map bL).take (i + 1)).all nameB) by rw [lall_snoc' (p := nameB) hm, HGG.out, List.getElem_map, Bool.and_assoc])
              clear hm
              generalize nameB (bL l[i]) = r at *
              generalize l[i] = t at *
              cases g with
              | true =>
                go_wp2_with (first | ((with_reducible show wpList _ _ _ _ _ _); refine wpl_want rfl ?_) | (go_at_call 39; refine (HN.out _).mono ?_; rintro e w9 ⟨rfl, rfl⟩))
                go_round
                case rel => exact ⟨i + 1, S + t.size, r, by omega, by go_num, by congr 1; omega, rfl, by omega, HS2, by rw [Bool.true_and] at HG2; exact HG2⟩
                case measure => simp [intOf]; omega
              | false =>
                go_wp2_with (first | ((with_reducible show wpList _ _ _ _ _ _); refine wpl_want rfl ?_))
                go_round
                case rel => exact ⟨i + 1, S + t.size, false, by omega, by go_num, by congr 1; omega, rfl, by omega, HS2, by rw [Bool.false_and] at HG2; exact HG2⟩
                case measure => simp [intOf]; omega
            · have hil : i = l.length := by omega
              have hf : (l.map bL).take i = l.map bL := List.take_of_length_le (by rw [List.length_map]; omega)
              have HGB := Mx.hid (show goodB (l.map bL) = (g && decide (S + l.length ≤ 201)) by
                rw [good_sum, HGG.out, HS.out, hf, List.length_map])
              have hge : (l.length : Int) ≤ (i : Int) := by omega
              clear hf hlt hil
              cases g with
              | false =>
                have HF := Mx.hid (HGB.out.trans (Bool.false_and _))
                have HJX := HJ
                rw [HJF.out HF.out] at HJX
                simp only [] at HJX
                replace HJX : Hid (∀ wx : World, St w wx [] [] → Calls Tryd.prog 37 #[.slice ao l.length cap] wx fun e w' => e = .returned (.tuple #[.string ⟨#[]⟩, .int .i64 6]) ∧ St wx w' [] []) := HJX
                go_wp2_with (first | ((with_reducible show wpList _ _ _ _ _ _); refine wpl_want rfl ?_) | (go_at_call 37; refine (HJX.out _ hk.bare).mono ?_; rintro e w5 ⟨rfl, h5⟩; replace hk := hk.call0 h5) | (go_at_call 19; refine (first_any _).mono ?_; rintro e w9 ⟨rfl, h9⟩; replace hk := hk.call0 h9))
                go_ret
                exact ⟨rfl, hk.below⟩
              | true =>
                by_cases h201 : S + l.length ≤ 201
                · have q9 : decide ((l.length : Int) - 1 + (S : Int) ≤ 200) = true := decide_eq_true (by omega)
                  have hg9 := HGB.out.trans (by rw [decide_eq_true h201]; first | done | rfl)
                  have HJX := HJ
                  rw [HJT.out hg9] at HJX
                  simp only [] at HJX
                  obtain ⟨hpt, hnt⟩ := HPG.out hg9
                  have hz9 : (str (joinS 47 (l.map bL))).size ≤ 200 := path_200 (by rw [bL_str]; exact hpt)
                  have HPT := Mx.hid (fun wx => path_any (str (joinS 47 (l.map bL))) wx (by unfold maxLen; omega))
                  have HST := Mx.hid (fun wx => split_n (str (joinS 47 (l.map bL))) wx (by unfold maxLen; omega))
                  rw [bL_str, hpt] at HPT
                  rw [bL_str, hnt, tx_bL, List.length_map] at HST
                  clear hg9 hpt hnt hz9 h201
                  generalize str (joinS 47 (l.map bL)) = t at *
                  go_wp2_with (first | ((with_reducible show wpList _ _ _ _ _ _); refine wpl_want rfl ?_) | (go_at_call 37; refine (HJX.out _ hk.bare).mono ?_; rintro e w5 ⟨rfl, h5⟩; replace hk := hk.call0 h5) | (go_at_call 19; refine (first_any _).mono ?_; rintro e w9 ⟨rfl, h9⟩; replace hk := hk.call0 h9) | (go_at_call 33; refine (HPT.out _).mono ?_; rintro e w9 ⟨rfl, h9⟩; replace hk := hk.call0 h9) | (go_at_call 34; refine (HST.out _).mono ?_; rintro e w6 ⟨v6, rfl, h6⟩; replace hk := (hk.call1 h6).freeze; simp only [] at hk) | (go_at_call 27; refine (texts_same _ _ l l _ hk.q0 (hk.old HV.out) rfl).mono ?_; rintro e w8 ⟨rfl, h8⟩; replace hk := hk.call0 h8))
                  go_ret
                  exact ⟨rfl, hk.below⟩
                · have q9 : decide ((l.length : Int) - 1 + (S : Int) ≤ 200) = false := decide_eq_false (by omega)
                  have HF := Mx.hid (HGB.out.trans (by rw [decide_eq_false h201]; first | done | rfl))
                  have HJX := HJ
                  rw [HJF.out HF.out] at HJX
                  simp only [] at HJX
                  replace HJX : Hid (∀ wx : World, St w wx [] [] → Calls Tryd.prog 37 #[.slice ao l.length cap] wx fun e w' => e = .returned (.tuple #[.string ⟨#[]⟩, .int .i64 6]) ∧ St wx w' [] []) := HJX
                  clear h201
                  go_wp2_with (first | ((with_reducible show wpList _ _ _ _ _ _); refine wpl_want rfl ?_) | (go_at_call 37; refine (HJX.out _ hk.bare).mono ?_; rintro e w5 ⟨rfl, h5⟩; replace hk := hk.call0 h5) | (go_at_call 19; refine (first_any _).mono ?_; rintro e w9 ⟨rfl, h9⟩; replace hk := hk.call0 h9))
                  go_ret
                  exact ⟨rfl, hk.below⟩
        · have d1 : decide ((1 : Int) ≤ (l.length : Int)) = true := decide_eq_true (by omega)
          have d2 : decide (1 ≤ l.length) = true := decide_eq_true (by omega)
          have d5 : decide ((l.length : Int) ≤ 8) = false := decide_eq_false (by omega)
          clear g1 g2
          go_wp2_with (first | ((with_reducible show wpList _ _ _ _ _ _); refine wpl_want rfl ?_))
          clear d1 d2 d5
          go_loop [9, 10, 11] (fun x y z => ∃ (i S : Nat) (g : Bool), i ≤ l.length ∧ z = .int .i64 i ∧ x = .int .i64 ((l.length : Int) - 1 + (S : Int)) ∧ y = .bool g ∧ S ≤ i * 5000 ∧ Hid (S = (((l.map bL).take i).map List.length).sum) ∧ Hid (g = (decide (1 ≤ l.length) && decide (l.length ≤ 8) && ((l.map bL).take i).all nameB))) (fun _ _ z => l.length - (intOf z).toNat)
          case atStart => exact ⟨0, 0, _, by omega, rfl, by simp, rfl, by omega, by simp [Hid], by show _ = _; rw [← HG.out]; rfl⟩
          case round =>
            obtain ⟨i, S, g, hi, rfl, rfl, rfl, hS, HS, HGG⟩ := hrel
            have hl100 := H100.out
            by_cases hlt : i < l.length
            · obtain ⟨rfl, c0⟩ := HCL.out i hlt
              replace c0 := hk.keep c0
              have hz := HL5.out l[i] (List.getElem_mem hlt)
              have HN := Mx.hid (fun wx => name_any l[i] wx (by unfold maxLen; omega))
              have hm : i < (l.map bL).length := by rw [List.length_map]; exact hlt
              have HS2 := Mx.hid (show S + l[i].size = (((l.map bL).take (i + 1)).map List.length).sum by rw [sum_snoc hm, ← HS.out, List.getElem_map]; rfl)
              have HG2 := Mx.hid (show (g && nameB (bL l[i])) = (decide (1 ≤ l.length) && decide (l.length ≤ 8) && ((l.map bL).take (i + 1)).all nameB) by rw [lall_snoc' (p := nameB) hm, HGG.out, List.getElem_map, Bool.and_assoc])
              clear hm
              generalize nameB (bL l[i]) = r at *
              generalize l[i] = t at *
              cases g with
              | true =>
                go_wp2_with (first | ((with_reducible show wpList _ _ _ _ _ _); refine wpl_want rfl ?_) | (go_at_call 39; refine (HN.out _).mono ?_; rintro e w9 ⟨rfl, rfl⟩))
                go_round
                case rel => exact ⟨i + 1, S + t.size, r, by omega, by go_num, by congr 1; omega, rfl, by omega, HS2, by rw [Bool.true_and] at HG2; exact HG2⟩
                case measure => simp [intOf]; omega
              | false =>
                go_wp2_with (first | ((with_reducible show wpList _ _ _ _ _ _); refine wpl_want rfl ?_))
                go_round
                case rel => exact ⟨i + 1, S + t.size, false, by omega, by go_num, by congr 1; omega, rfl, by omega, HS2, by rw [Bool.false_and] at HG2; exact HG2⟩
                case measure => simp [intOf]; omega
            · have hil : i = l.length := by omega
              have hf : (l.map bL).take i = l.map bL := List.take_of_length_le (by rw [List.length_map]; omega)
              have HGB := Mx.hid (show goodB (l.map bL) = (g && decide (S + l.length ≤ 201)) by
                rw [good_sum, HGG.out, HS.out, hf, List.length_map])
              have hge : (l.length : Int) ≤ (i : Int) := by omega
              clear hf hlt hil
              cases g with
              | false =>
                have HF := Mx.hid (HGB.out.trans (Bool.false_and _))
                have HJX := HJ
                rw [HJF.out HF.out] at HJX
                simp only [] at HJX
                replace HJX : Hid (∀ wx : World, St w wx [] [] → Calls Tryd.prog 37 #[.slice ao l.length cap] wx fun e w' => e = .returned (.tuple #[.string ⟨#[]⟩, .int .i64 6]) ∧ St wx w' [] []) := HJX
                go_wp2_with (first | ((with_reducible show wpList _ _ _ _ _ _); refine wpl_want rfl ?_) | (go_at_call 37; refine (HJX.out _ hk.bare).mono ?_; rintro e w5 ⟨rfl, h5⟩; replace hk := hk.call0 h5) | (go_at_call 19; refine (first_any _).mono ?_; rintro e w9 ⟨rfl, h9⟩; replace hk := hk.call0 h9))
                go_ret
                exact ⟨rfl, hk.below⟩
              | true =>
                by_cases h201 : S + l.length ≤ 201
                · have q9 : decide ((l.length : Int) - 1 + (S : Int) ≤ 200) = true := decide_eq_true (by omega)
                  have hg9 := HGB.out.trans (by rw [decide_eq_true h201]; first | done | rfl)
                  have HJX := HJ
                  rw [HJT.out hg9] at HJX
                  simp only [] at HJX
                  obtain ⟨hpt, hnt⟩ := HPG.out hg9
                  have hz9 : (str (joinS 47 (l.map bL))).size ≤ 200 := path_200 (by rw [bL_str]; exact hpt)
                  have HPT := Mx.hid (fun wx => path_any (str (joinS 47 (l.map bL))) wx (by unfold maxLen; omega))
                  have HST := Mx.hid (fun wx => split_n (str (joinS 47 (l.map bL))) wx (by unfold maxLen; omega))
                  rw [bL_str, hpt] at HPT
                  rw [bL_str, hnt, tx_bL, List.length_map] at HST
                  clear hg9 hpt hnt hz9 h201
                  generalize str (joinS 47 (l.map bL)) = t at *
                  go_wp2_with (first | ((with_reducible show wpList _ _ _ _ _ _); refine wpl_want rfl ?_) | (go_at_call 37; refine (HJX.out _ hk.bare).mono ?_; rintro e w5 ⟨rfl, h5⟩; replace hk := hk.call0 h5) | (go_at_call 19; refine (first_any _).mono ?_; rintro e w9 ⟨rfl, h9⟩; replace hk := hk.call0 h9) | (go_at_call 33; refine (HPT.out _).mono ?_; rintro e w9 ⟨rfl, h9⟩; replace hk := hk.call0 h9) | (go_at_call 34; refine (HST.out _).mono ?_; rintro e w6 ⟨v6, rfl, h6⟩; replace hk := (hk.call1 h6).freeze; simp only [] at hk) | (go_at_call 27; refine (texts_same _ _ l l _ hk.q0 (hk.old HV.out) rfl).mono ?_; rintro e w8 ⟨rfl, h8⟩; replace hk := hk.call0 h8))
                  go_ret
                  exact ⟨rfl, hk.below⟩
                · have q9 : decide ((l.length : Int) - 1 + (S : Int) ≤ 200) = false := decide_eq_false (by omega)
                  have HF := Mx.hid (HGB.out.trans (by rw [decide_eq_false h201]; first | done | rfl))
                  have HJX := HJ
                  rw [HJF.out HF.out] at HJX
                  simp only [] at HJX
                  replace HJX : Hid (∀ wx : World, St w wx [] [] → Calls Tryd.prog 37 #[.slice ao l.length cap] wx fun e w' => e = .returned (.tuple #[.string ⟨#[]⟩, .int .i64 6]) ∧ St wx w' [] []) := HJX
                  clear h201
                  go_wp2_with (first | ((with_reducible show wpList _ _ _ _ _ _); refine wpl_want rfl ?_) | (go_at_call 37; refine (HJX.out _ hk.bare).mono ?_; rintro e w5 ⟨rfl, h5⟩; replace hk := hk.call0 h5) | (go_at_call 19; refine (first_any _).mono ?_; rintro e w9 ⟨rfl, h9⟩; replace hk := hk.call0 h9))
                  go_ret
                  exact ⟨rfl, hk.below⟩
        · have d1 : decide ((1 : Int) ≤ (l.length : Int)) = true := decide_eq_true (by omega)
          have d2 : decide (1 ≤ l.length) = true := decide_eq_true (by omega)
          have d5 : decide ((l.length : Int) ≤ 8) = true := decide_eq_true (by omega)
          clear g1 g2
          go_wp2_with (first | ((with_reducible show wpList _ _ _ _ _ _); refine wpl_want rfl ?_))
          clear d1 d2 d5
          go_loop [9, 10, 11] (fun x y z => ∃ (i S : Nat) (g : Bool), i ≤ l.length ∧ z = .int .i64 i ∧ x = .int .i64 ((l.length : Int) - 1 + (S : Int)) ∧ y = .bool g ∧ S ≤ i * 5000 ∧ Hid (S = (((l.map bL).take i).map List.length).sum) ∧ Hid (g = (decide (1 ≤ l.length) && decide (l.length ≤ 8) && ((l.map bL).take i).all nameB))) (fun _ _ z => l.length - (intOf z).toNat)
          case atStart => exact ⟨0, 0, _, by omega, rfl, by simp, rfl, by omega, by simp [Hid], by show _ = _; rw [← HG.out]; rfl⟩
          case round =>
            obtain ⟨i, S, g, hi, rfl, rfl, rfl, hS, HS, HGG⟩ := hrel
            have hl100 := H100.out
            by_cases hlt : i < l.length
            · obtain ⟨rfl, c0⟩ := HCL.out i hlt
              replace c0 := hk.keep c0
              have hz := HL5.out l[i] (List.getElem_mem hlt)
              have HN := Mx.hid (fun wx => name_any l[i] wx (by unfold maxLen; omega))
              have hm : i < (l.map bL).length := by rw [List.length_map]; exact hlt
              have HS2 := Mx.hid (show S + l[i].size = (((l.map bL).take (i + 1)).map List.length).sum by rw [sum_snoc hm, ← HS.out, List.getElem_map]; rfl)
              have HG2 := Mx.hid (show (g && nameB (bL l[i])) = (decide (1 ≤ l.length) && decide (l.length ≤ 8) && ((l.map bL).take (i + 1)).all nameB) by rw [lall_snoc' (p := nameB) hm, HGG.out, List.getElem_map, Bool.and_assoc])
              clear hm
              generalize nameB (bL l[i]) = r at *
              generalize l[i] = t at *
              cases g with
              | true =>
                go_wp2_with (first | ((with_reducible show wpList _ _ _ _ _ _); refine wpl_want rfl ?_) | (go_at_call 39; refine (HN.out _).mono ?_; rintro e w9 ⟨rfl, rfl⟩))
                go_round
                case rel => exact ⟨i + 1, S + t.size, r, by omega, by go_num, by congr 1; omega, rfl, by omega, HS2, by rw [Bool.true_and] at HG2; exact HG2⟩
                case measure => simp [intOf]; omega
              | false =>
                go_wp2_with (first | ((with_reducible show wpList _ _ _ _ _ _); refine wpl_want rfl ?_))
                go_round
                case rel => exact ⟨i + 1, S + t.size, false, by omega, by go_num, by congr 1; omega, rfl, by omega, HS2, by rw [Bool.false_and] at HG2; exact HG2⟩
                case measure => simp [intOf]; omega
            · have hil : i = l.length := by omega
              have hf : (l.map bL).take i = l.map bL := List.take_of_length_le (by rw [List.length_map]; omega)
              have HGB := Mx.hid (show goodB (l.map bL) = (g && decide (S + l.length ≤ 201)) by
                rw [good_sum, HGG.out, HS.out, hf, List.length_map])
              have hge : (l.length : Int) ≤ (i : Int) := by omega
              clear hf hlt hil
              cases g with
              | false =>
                have HF := Mx.hid (HGB.out.trans (Bool.false_and _))
                have HJX := HJ
                rw [HJF.out HF.out] at HJX
                simp only [] at HJX
                replace HJX : Hid (∀ wx : World, St w wx [] [] → Calls Tryd.prog 37 #[.slice ao l.length cap] wx fun e w' => e = .returned (.tuple #[.string ⟨#[]⟩, .int .i64 6]) ∧ St wx w' [] []) := HJX
                go_wp2_with (first | ((with_reducible show wpList _ _ _ _ _ _); refine wpl_want rfl ?_) | (go_at_call 37; refine (HJX.out _ hk.bare).mono ?_; rintro e w5 ⟨rfl, h5⟩; replace hk := hk.call0 h5) | (go_at_call 19; refine (first_any _).mono ?_; rintro e w9 ⟨rfl, h9⟩; replace hk := hk.call0 h9))
                go_ret
                exact ⟨rfl, hk.below⟩
              | true =>
                by_cases h201 : S + l.length ≤ 201
                · have q9 : decide ((l.length : Int) - 1 + (S : Int) ≤ 200) = true := decide_eq_true (by omega)
                  have hg9 := HGB.out.trans (by rw [decide_eq_true h201]; first | done | rfl)
                  have HJX := HJ
                  rw [HJT.out hg9] at HJX
                  simp only [] at HJX
                  obtain ⟨hpt, hnt⟩ := HPG.out hg9
                  have hz9 : (str (joinS 47 (l.map bL))).size ≤ 200 := path_200 (by rw [bL_str]; exact hpt)
                  have HPT := Mx.hid (fun wx => path_any (str (joinS 47 (l.map bL))) wx (by unfold maxLen; omega))
                  have HST := Mx.hid (fun wx => split_n (str (joinS 47 (l.map bL))) wx (by unfold maxLen; omega))
                  rw [bL_str, hpt] at HPT
                  rw [bL_str, hnt, tx_bL, List.length_map] at HST
                  clear hg9 hpt hnt hz9 h201
                  generalize str (joinS 47 (l.map bL)) = t at *
                  go_wp2_with (first | ((with_reducible show wpList _ _ _ _ _ _); refine wpl_want rfl ?_) | (go_at_call 37; refine (HJX.out _ hk.bare).mono ?_; rintro e w5 ⟨rfl, h5⟩; replace hk := hk.call0 h5) | (go_at_call 19; refine (first_any _).mono ?_; rintro e w9 ⟨rfl, h9⟩; replace hk := hk.call0 h9) | (go_at_call 33; refine (HPT.out _).mono ?_; rintro e w9 ⟨rfl, h9⟩; replace hk := hk.call0 h9) | (go_at_call 34; refine (HST.out _).mono ?_; rintro e w6 ⟨v6, rfl, h6⟩; replace hk := (hk.call1 h6).freeze; simp only [] at hk) | (go_at_call 27; refine (texts_same _ _ l l _ hk.q0 (hk.old HV.out) rfl).mono ?_; rintro e w8 ⟨rfl, h8⟩; replace hk := hk.call0 h8))
                  go_ret
                  exact ⟨rfl, hk.below⟩
                · have q9 : decide ((l.length : Int) - 1 + (S : Int) ≤ 200) = false := decide_eq_false (by omega)
                  have HF := Mx.hid (HGB.out.trans (by rw [decide_eq_false h201]; first | done | rfl))
                  have HJX := HJ
                  rw [HJF.out HF.out] at HJX
                  simp only [] at HJX
                  replace HJX : Hid (∀ wx : World, St w wx [] [] → Calls Tryd.prog 37 #[.slice ao l.length cap] wx fun e w' => e = .returned (.tuple #[.string ⟨#[]⟩, .int .i64 6]) ∧ St wx w' [] []) := HJX
                  clear h201
                  go_wp2_with (first | ((with_reducible show wpList _ _ _ _ _ _); refine wpl_want rfl ?_) | (go_at_call 37; refine (HJX.out _ hk.bare).mono ?_; rintro e w5 ⟨rfl, h5⟩; replace hk := hk.call0 h5) | (go_at_call 19; refine (first_any _).mono ?_; rintro e w9 ⟨rfl, h9⟩; replace hk := hk.call0 h9))
                  go_ret
                  exact ⟨rfl, hk.below⟩
end Go.Proofs.YtobpojlophhfaaaDoor
