/- Walks of names.Join, Under, Parents. -/
import Derived.Test.YtobpojlophhfaaaDoorNamW
namespace Go.Mx
open Go Go.RowKit
theorem join_tail (c : UInt8) : ∀ (r : List (List UInt8)) (x : List UInt8), joinS c (x :: r) = x ++ Lib.joinTail [c] r
  | [], x => by simp [joinS, Lib.joinTail]
  | y :: r, x => by rw [joinS, join_tail c r y]; simp [Lib.joinTail]
theorem lib_join47 (l : List ByteArray) : Lib.join (l.map (·.data.toList)) [47] = joinS 47 (l.map bL) := by
  cases l with
  | nil => rfl
  | cons x r => rw [List.map_cons, Lib.join_cons, List.map_cons, join_tail]; rfl
theorem join_sum (c : UInt8) (L : List (List UInt8)) : (joinS c L).length ≤ (L.map List.length).sum + L.length := by
  by_cases h : L = []
  · subst h; simp [joinS]
  · have := join_len c h; omega
theorem names_sum : ∀ {L : List (List UInt8)}, L.all nameB = true → (L.map List.length).sum ≤ L.length * 64
  | [], _ => by simp
  | n :: L, h => by
    rw [List.all_cons, Bool.and_eq_true] at h
    have h1 := name_le h.1
    have h2 := names_sum h.2
    rw [List.map_cons, List.sum_cons, List.length_cons, Nat.succ_mul]
    omega
end Go.Mx
namespace Go.Proofs.YtobpojlophhfaaaDoor
open Go.RowKit Go.Mx

theorem sjoin_any (v : Value) (l : List ByteArray) (w : World) (hv : Sl w 1 v l.length (ss l)) (hl : l.length ≤ 8796093022208) (hj : (joinS 47 (l.map bL)).length ≤ 140737488355328) :
    Calls Tryd.prog 63 #[v, .string ⟨#[47]⟩] w fun e w' => e = .returned (.string (str (joinS 47 (l.map bL)))) ∧ St w w' [] [] := by
  obtain ⟨ao, cap, blk, off, rfl, h1, h2, _, hc⟩ := hv.txt
  by_cases hnil : l = []
  · subst hnil
    exact (Go.Proofs.Tryd.strings_Join_none ao cap ⟨#[47]⟩ w).mono fun e w' ⟨h1, h2⟩ => ⟨h1, h2 ▸ St.refl w⟩
  · have hpos : 0 < l.length := List.length_pos_iff.2 hnil
    obtain ⟨rfl, c0⟩ := hc 0 hpos
    have := Go.Proofs.Tryd.strings_Join blk off cap l ⟨#[47]⟩ w (fun j x hx => by
      obtain ⟨hj, rfl⟩ := List.getElem?_eq_some_iff.1 hx
      exact (hc j hj).2) (World.block_lt_of_cell? w _ c0) (by omega) h1 (by rw [show (⟨#[47]⟩ : ByteArray).data.toList = [47] from rfl, lib_join47]; exact hj)
    refine this.mono fun e w' ⟨h1, h2⟩ => ⟨?_, ⟨h2, by simp, by simp, by simp, by simp⟩⟩
    rw [h1, show (⟨#[47]⟩ : ByteArray).data.toList = [47] from rfl, lib_join47]
    rfl

set_option maxRecDepth 100000 in
set_option maxHeartbeats 1000000 in
theorem join_n (v : Value) (l : List ByteArray) (w : World) (hv : Sl w 1 v l.length (ss l)) (hz : ∀ s ∈ l, s.size ≤ maxLen) :
    Calls Tryd.prog 37 #[v] w fun e w' => e = .returned (.tuple #[.string (str (joinN (l.map bL)).1), .int .i64 (joinN (l.map bL)).2]) ∧ St w w' [] [] := by
  obtain ⟨ao, cap, blk, off, rfl, h1, h2, _, hc⟩ := hv.txt
  have HJ0 := Mx.hid hv
  have HC := Mx.hid hc
  have HZ := Mx.hid (fun (i : Nat) (hi : i < l.length) => hz l[i] (List.getElem_mem hi))
  have HB : Hid (∀ (h : goodB (l.map bL) = false), joinN (l.map bL) = ([], 6)) := fun h => by unfold joinN; rw [if_neg (by simp [h])]
  have HG : Hid (∀ (h : goodB (l.map bL) = true), joinN (l.map bL) = (joinS 47 (l.map bL), 0)) := fun h => by unfold joinN; rw [if_pos h]
  have HGD : Hid (goodB (l.map bL) = (decide (l.map bL ≠ [] ∧ (l.map bL).length ≤ 8) && (l.map bL).all nameB && decide ((joinS 47 (l.map bL)).length ≤ 200))) := rfl
  clear hv hc hz
  by_cases h0 : l.length = 0
  · have HF := Mx.hid (HB.out (by rw [HGD.out]; have : l = [] := List.eq_nil_of_length_eq_zero h0; subst this; rfl))
    have q1 : ((l.length : Int) == 0) = true := by simp [h0]
    clear h0
    go_enter Tryd.func37, Tryd.ntmps37
    go_wp2_with (first | ((with_reducible show wpList _ _ _ _ _ _); refine wpl_want rfl ?_))
    go_ret2
    exact ⟨by rw [HF.out]; rfl, St.refl w⟩
  have q1 : ((l.length : Int) == 0) = false := by rw [beq_eq_false_iff_ne]; omega
  by_cases h8 : 8 < l.length
  · have HF := Mx.hid (HB.out (by rw [HGD.out, decide_eq_false (fun h => by have := h.2; rw [List.length_map] at this; omega)]; rfl))
    have q2 : decide ((8 : Int) < (l.length : Int)) = true := decide_eq_true (by omega)
    clear h0 h8
    go_enter Tryd.func37, Tryd.ntmps37
    go_wp2_with (first | ((with_reducible show wpList _ _ _ _ _ _); refine wpl_want rfl ?_))
    go_ret2
    exact ⟨by rw [HF.out]; rfl, St.refl w⟩
  have q2 : decide ((8 : Int) < (l.length : Int)) = false := decide_eq_false (by omega)
  have H8 := Mx.hid (show 0 < l.length ∧ l.length ≤ 8 by omega)
  clear h0 h8
  go_enter Tryd.func37, Tryd.ntmps37
  go_wp2_with (first | ((with_reducible show wpList _ _ _ _ _ _); refine wpl_want rfl ?_))
  go_loopw [17] (fun y wr => ∃ i : Nat, i ≤ l.length ∧ y = .int .i64 i ∧ Hid (((l.map bL).take i).all nameB = true) ∧ St w wr [] []) (fun y _ => l.length - (intOf y).toNat)
  case atStart => exact ⟨0, by omega, rfl, by simp [Hid], St.refl w⟩
  case round =>
    obtain ⟨i, hi, rfl, HA, hs⟩ := hrel
    by_cases hlt : i < l.length
    · obtain ⟨rfl, c0⟩ := HC.out i hlt
      have c1 := hs.keep c0
      have HN := Mx.hid (fun wx => name_any l[i] wx (HZ.out i hlt))
      have hm : i < (l.map bL).length := by rw [List.length_map]; exact hlt
      have HS := Mx.hid (lall_snoc' (p := nameB) hm)
      have HX := Mx.hid (fun (h : nameB (l.map bL)[i] = false) => HB.out (by rw [HGD.out, lall_not' (p := nameB) hm h]; simp))
      rw [List.getElem_map] at HS HX
      clear c0
      cases hb : nameB (bL l[i]) with
      | false =>
        have HF := Mx.hid (HX.out hb)
        rw [hb] at HN
        clear HX HS hb hm
        generalize l[i] = t at *
        go_wp2_with (go_at_call 39; refine (HN.out _).mono ?_; rintro e w2 ⟨rfl, rfl⟩)
        go_ret2
        exact ⟨by rw [HF.out]; rfl, hs⟩
      | true =>
        have HT := Mx.hid hb
        rw [hb] at HN
        clear HX hb
        replace HS : Hid (((l.map bL).take (i + 1)).all nameB = (((l.map bL).take i).all nameB && nameB (bL l[i]))) := HS
        clear hm
        generalize l[i] = t at *
        go_wp2_with (go_at_call 39; refine (HN.out _).mono ?_; rintro e w2 ⟨rfl, rfl⟩)
        go_roundw
        case rel => exact ⟨i + 1, by omega, by go_num, by show _ = true; rw [HS.out, HA.out, HT.out]; rfl, hs⟩
        case measure => simp [intOf]; omega
    · have hall : (l.map bL).all nameB = true := by
        have h1 := HA.out
        rwa [List.take_of_length_le (by rw [List.length_map]; omega)] at h1
      have hjl : (joinS 47 (l.map bL)).length ≤ 1000 := by
        have h1 := join_sum 47 (l.map bL)
        have h2 := names_sum hall
        rw [List.length_map] at h1 h2
        have := H8.out
        omega
      have HJ := Mx.hid (fun wx (h : St w wx [] []) => sjoin_any _ l wx (h.old HJ0.out) (by have := H8.out; omega) (by omega))
      have HGE := Mx.hid (show goodB (l.map bL) = decide ((joinS 47 (l.map bL)).length ≤ 200) by
        rw [HGD.out, hall, decide_eq_true (show l.map bL ≠ [] ∧ (l.map bL).length ≤ 8 by
          have := H8.out
          exact ⟨fun h => by have := congrArg List.length h; simp at this; subst this; simp at *, by rw [List.length_map]; omega⟩)]
        rfl)
      clear hall
      have hss : (str (joinS 47 (l.map bL))).size = (joinS 47 (l.map bL)).length := str_size _
      by_cases h200 : 200 < (joinS 47 (l.map bL)).length
      · have HF := Mx.hid (HB.out (by rw [HGE.out]; exact decide_eq_false (by omega)))
        have q3 : decide ((200 : Int) < ((joinS 47 (l.map bL)).length : Int)) = true := decide_eq_true (by omega)
        generalize joinS 47 (l.map bL) = J at *
        rw [← hss] at q3
        have HS2 := Mx.hid hss
        generalize hst : str J = t at *
        have HST := Mx.hid hst
        clear h200 hjl hss hst
        go_wp2_with (go_at_call 63; refine (HJ.out _ hs).mono ?_; rintro e w2 ⟨rfl, hk2⟩; have hs2 := hs.call0 hk2)
        go_ret2
        exact ⟨by rw [HF.out]; rfl, hs2⟩
      · have HF := Mx.hid (HG.out (by rw [HGE.out]; exact decide_eq_true (by omega)))
        have q3 : decide ((200 : Int) < ((joinS 47 (l.map bL)).length : Int)) = false := decide_eq_false (by omega)
        generalize joinS 47 (l.map bL) = J at *
        rw [← hss] at q3
        have HS2 := Mx.hid hss
        generalize hst : str J = t at *
        have HST := Mx.hid hst
        clear h200 hjl hss hst
        go_wp2_with (go_at_call 63; refine (HJ.out _ hs).mono ?_; rintro e w2 ⟨rfl, hk2⟩; have hs2 := hs.call0 hk2)
        go_ret2
        exact ⟨by rw [HF.out, ← HST.out]; rfl, hs2⟩

theorem path_200 {s : ByteArray} (h : pathB (bL s) = true) : s.size ≤ 200 := by
  unfold pathB at h
  simp only [Bool.and_eq_true, decide_eq_true_eq] at h
  exact h.1
theorem bL_app (a b : ByteArray) : bL (a ++ b) = bL a ++ bL b := by simp [bL]

theorem under_any (d s : ByteArray) (w : World) (hd : d.size ≤ maxLen) (hs : s.size ≤ maxLen) :
    Calls Tryd.prog 25 #[.string d, .string s] w fun e w' => e = .returned (.bool (underB (bL d) (bL s))) ∧ St w w' [] [] := by
  have HPD := Mx.hid (fun wx => path_any d wx hd)
  have HPS := Mx.hid (fun wx => path_any s wx hs)
  have HU : Hid (underB (bL d) (bL s) = (pathB (bL d) && pathB (bL s) && (bL d ++ [47]).isPrefixOf (bL s))) := rfl
  cases h1 : pathB (bL d) with
  | false =>
    rw [h1] at HPD HU
    clear h1
    go_enter Tryd.func25, Tryd.ntmps25
    go_wp2_with (first | ((with_reducible show wpList _ _ _ _ _ _); refine wpl_want rfl ?_) | (go_at_call 33; (with_reducible show Calls _ _ #[Value.string d] _ _); refine (HPD.out _).mono ?_; rintro e w1 ⟨rfl, hk⟩))
    go_ret
    exact ⟨by rw [HU.out]; rfl, hk⟩
  | true =>
    have h200 := path_200 h1
    rw [h1] at HPD HU
    clear h1
    cases h2 : pathB (bL s) with
    | false =>
      rw [h2] at HPS HU
      clear h2
      go_enter Tryd.func25, Tryd.ntmps25
      go_wp2_with (first | ((with_reducible show wpList _ _ _ _ _ _); refine wpl_want rfl ?_) | (go_at_call 33; (with_reducible show Calls _ _ #[Value.string d] _ _); refine (HPD.out _).mono ?_; rintro e w1 ⟨rfl, hk⟩) | (go_at_call 33; (with_reducible show Calls _ _ #[Value.string s] _ _); refine (HPS.out _).mono ?_; rintro e w2 ⟨rfl, hk2⟩))
      go_ret
      exact ⟨by rw [HU.out]; rfl, hk.call0 hk2⟩
    | true =>
      rw [h2] at HPS HU
      clear h2
      have HX := Mx.hid (fun wx => (Go.Proofs.Tryd.strings_HasPrefix s (d ++ ⟨#[47]⟩) wx).mono fun e w' h => (show e = .returned (.bool ((bL d ++ [47]).isPrefixOf (bL s))) ∧ wx = w' from ⟨by
        have e1 : (d ++ (⟨#[47]⟩ : ByteArray)).data.toList = bL d ++ [47] := bL_app d ⟨#[47]⟩
        rw [h.1, e1]; rfl, h.2.symm⟩))
      go_enter Tryd.func25, Tryd.ntmps25
      go_wp2_with (first | ((with_reducible show wpList _ _ _ _ _ _); refine wpl_want rfl ?_) | (go_at_call 33; (with_reducible show Calls _ _ #[Value.string d] _ _); refine (HPD.out _).mono ?_; rintro e w1 ⟨rfl, hk⟩) | (go_at_call 33; (with_reducible show Calls _ _ #[Value.string s] _ _); refine (HPS.out _).mono ?_; rintro e w2 ⟨rfl, hk2⟩) | (go_at_call 62; refine (HX.out _).mono ?_; rintro e w3 ⟨rfl, rfl⟩))
      go_ret
      exact ⟨by rw [HU.out]; rfl, hk.call0 hk2⟩
end Go.Proofs.YtobpojlophhfaaaDoor
