/- Walks of marref1.Join, pattern, Pattern. -/
import Derived.Test.YtobpojlophhfaaaDoorNamB
namespace Go.Mx
open Go Go.RowKit
theorem bytes_app_size (a b : ByteArray) : (a ++ b).size = a.size + b.size := ByteArray.size_append
theorem bl_cat (a b : ByteArray) : bL (a ++ b) = bL a ++ bL b := by simp [bL]
theorem join_grow {l : List ByteArray} {t : ByteArray} {i : Nat} (hi : i < l.length) (ht : bL t = joinS 47 ((l.map bL).take i)) :
    (i = 0 → bL (t ++ l[i]) = joinS 47 ((l.map bL).take (i + 1))) ∧ (0 < i → bL (t ++ ⟨#[47]⟩ ++ l[i]) = joinS 47 ((l.map bL).take (i + 1))) := by
  have hm : i < (l.map bL).length := by rw [List.length_map]; exact hi
  have hg : (l.map bL)[i] = bL l[i] := by rw [List.getElem_map]
  constructor
  · rintro rfl
    rw [bl_cat, ht, join_one 47 hm, hg]
    rfl
  · intro h0
    rw [bl_cat, bl_cat, ht, join_snoc 47 h0 hm, hg]
    simp [bL]
theorem parts_one {p : List UInt8} (hn : nameB p = true) (h : (pcs 42 0 p).length = 1) : partsB p = some (p, false, []) := by
  unfold partsB
  rw [if_pos hn]
  match hp : pcs 42 0 p with
  | [] => rw [hp] at h; simp at h
  | [_] => rfl
  | _ :: _ :: _ => rw [hp] at h; simp at h
theorem parts_many {p : List UInt8} (h : 2 < (pcs 42 0 p).length) : partsB p = none := by
  unfold partsB
  split
  · match hp : pcs 42 0 p with
    | [] => rfl
    | [_] => rw [hp] at h; simp at h
    | [_, _] => rw [hp] at h; simp at h
    | _ :: _ :: _ :: _ => rfl
  · rfl
theorem parts_two {p a b : List UInt8} (hn : nameB p = true) (h : pcs 42 0 p = [a, b]) : partsB p = if a ≠ [] ∧ b ≠ [] ∨ a ++ b = [] then none else some (a, true, b) := by
  unfold partsB
  rw [if_pos hn, h]
theorem two_of {α : Type} {L : List α} (h : L.length = 2) : ∃ a b, L = [a, b] := by
  match L, h with
  | [a, b], _ => exact ⟨a, b, rfl⟩
theorem results_tmp5 {fn : Func} {t u v x y : Tmp} (h : fn.results = #[.tmp t, .tmp u, .tmp v, .tmp x, .tmp y]) (tmps : Array Value) (P : Program) (w : World) :
    (results fn tmps).run P w = .ok (.tuple #[tmps.getD t undef, tmps.getD u undef, tmps.getD v undef, tmps.getD x undef, tmps.getD y undef]) w := by
  simp [results, h, go_sem]
theorem parts_bad {p : List UInt8} (hn : nameB p = false) : partsB p = none := by
  unfold partsB
  rw [if_neg (by simp [hn])]
theorem str_emp (l : List UInt8) : (str l).toList.isEmpty = decide (l = []) := by
  rw [str_toL, Bool.eq_iff_iff, List.isEmpty_iff, decide_eq_true_iff]
theorem str_cat (a b : List UInt8) : str a ++ str b = str (a ++ b) := by
  apply ByteArray.ext
  simp [str]
end Go.Mx
namespace Go.Proofs.YtobpojlophhfaaaDoor
open Go.RowKit Go.Mx

theorem refCut42 (s : ByteArray) (w : World) (hl : s.size ≤ 4294967296) :
    Calls Tryd.prog 36 #[.string s, .int .u8 42] w fun e w' => ∃ v', e = .returned v' ∧ St w w' [⟨v', 9, 1, (pcs 42 0 (bL s)).length, ss (tx (pcs 42 0 (bL s)))⟩] [] := refCut_any s 42 w hl

set_option maxRecDepth 100000 in
set_option maxHeartbeats 1000000 in
theorem refJoin_any (v : Value) (l : List ByteArray) (w : World) (hv : Sl w 1 v l.length (ss l)) (hz : ∀ s ∈ l, s.size ≤ 5001) :
    Calls Tryd.prog 38 #[v] w fun e w' => e = .returned (.tuple #[.string (str (joinN (l.map bL)).1), .int .i64 (joinN (l.map bL)).2]) ∧ St w w' [] [] := by
  obtain ⟨ao, cap, blk, off, rfl, h1, h2, _, hc⟩ := hv.txt
  have HC := Mx.hid hc
  have HZ := Mx.hid (fun (i : Nat) (hi : i < l.length) => hz l[i] (List.getElem_mem hi))
  have HB : Hid (∀ (h : goodB (l.map bL) = false), joinN (l.map bL) = ([], 6)) := fun h => by unfold joinN; rw [if_neg (by simp [h])]
  have HG : Hid (∀ (h : goodB (l.map bL) = true), joinN (l.map bL) = (joinS 47 (l.map bL), 0)) := fun h => by unfold joinN; rw [if_pos h]
  have HL : Hid (∀ i, 200 < (joinS 47 ((l.map bL).take i)).length → joinN (l.map bL) = ([], 6)) := fun i h => HB.out (by
    have := join_take_le 47 (l.map bL) i
    unfold goodB
    rw [decide_eq_false (show ¬ (joinS 47 (l.map bL)).length ≤ 200 by omega), Bool.and_false])
  have HR : Hid (l.length ≠ 0 → goodB (l.map bL) = (decide ((pcs 47 0 (joinS 47 (l.map bL))).length = (l.map bL).length) && pathB (joinS 47 (l.map bL)))) := fun h => join_ref (by intro he; have := congrArg List.length he; simp at this; subst this; simp at h)
  have HE : Hid (l.length = 0 → joinN (l.map bL) = ([], 6)) := fun h => HB.out (by have : l = [] := List.eq_nil_of_length_eq_zero h; subst this; rfl)
  clear hv hc hz
  go_enter Tryd.func38, Tryd.ntmps38
  go_wp2_with (first | ((with_reducible show wpList _ _ _ _ _ _); refine wpl_want rfl ?_))
  go_loop [4, 5] (fun x y => ∃ (t : ByteArray) (i : Nat), i ≤ l.length ∧ x = .string t ∧ y = .int .i64 i ∧ t.size ≤ 200 ∧ Hid (bL t = joinS 47 ((l.map bL).take i))) (fun _ y => l.length - (intOf y).toNat)
  case atStart => exact ⟨⟨#[]⟩, 0, by omega, rfl, rfl, by decide, by simp [Hid, joinS, bL]⟩
  case round =>
    obtain ⟨t, i, hi, rfl, rfl, ht, HT⟩ := hrel
    by_cases hlt : i < l.length
    · obtain ⟨rfl, c0⟩ := HC.out i hlt
      have hx := HZ.out i hlt
      have HJ := Mx.hid (join_grow hlt HT.out)
      by_cases h0 : i = 0
      · have q0 : decide ((0 : Int) < (i : Int)) = false := decide_eq_false (by omega)
        have q0n : decide (0 < i) = false := decide_eq_false (by omega)
        have HJ1 := Mx.hid (HJ.out.1 h0)
        clear HJ h0
        generalize l[i] = x at *
        by_cases hb : 200 < t.size + x.size
        · have q1 : decide ((200 : Int) < (t.size : Int) + (x.size : Int)) = true := decide_eq_true (by omega)
          have HF := Mx.hid (HL.out (i + 1) (by rw [← HJ1.out]; show 200 < (t ++ x).size; rw [bytes_app_size]; exact hb))
          go_wp2_with (first | ((with_reducible show wpList _ _ _ _ _ _); refine wpl_want rfl ?_))
          go_ret2
          exact ⟨by rw [HF.out]; rfl, St.refl w⟩
        · have q1 : decide ((200 : Int) < (t.size : Int) + (x.size : Int)) = false := decide_eq_false (by omega)
          have hs2 : (t ++ x).size ≤ 200 := by rw [bytes_app_size]; omega
          have HS2 := Mx.hid hs2
          clear hs2
          go_wp2_with (first | ((with_reducible show wpList _ _ _ _ _ _); refine wpl_want rfl ?_))
          go_round
          case rel => exact ⟨t ++ x, i + 1, by omega, rfl, by go_num, HS2.out, HJ1⟩
          case measure => simp [intOf]; omega
      · have q0 : decide ((0 : Int) < (i : Int)) = true := decide_eq_true (by omega)
        have q0n : decide (0 < i) = true := decide_eq_true (by omega)
        have HJ1 := Mx.hid (HJ.out.2 (by omega))
        clear HJ h0
        generalize l[i] = x at *
        by_cases hb : 200 < t.size + 1 + x.size
        · have q1 : decide ((200 : Int) < (t.size : Int) + 1 + (x.size : Int)) = true := decide_eq_true (by omega)
          have HF := Mx.hid (HL.out (i + 1) (by rw [← HJ1.out]; show 200 < (t ++ ⟨#[47]⟩ ++ x).size; rw [bytes_app_size, bytes_app_size]; exact hb))
          go_wp2_with (first | ((with_reducible show wpList _ _ _ _ _ _); refine wpl_want rfl ?_))
          go_ret2
          exact ⟨by rw [HF.out]; rfl, St.refl w⟩
        · have q1 : decide ((200 : Int) < (t.size : Int) + 1 + (x.size : Int)) = false := decide_eq_false (by omega)
          have hs2 : (t ++ ⟨#[47]⟩ ++ x).size ≤ 200 := by rw [bytes_app_size, bytes_app_size]; show t.size + 1 + x.size ≤ 200; omega
          have HS2 := Mx.hid hs2
          clear hs2
          go_wp2_with (first | ((with_reducible show wpList _ _ _ _ _ _); refine wpl_want rfl ?_))
          go_round
          case rel => exact ⟨t ++ ⟨#[47]⟩ ++ x, i + 1, by omega, rfl, by go_num, HS2.out, HJ1⟩
          case measure => simp [intOf]; omega
    · have HT2 := Mx.hid (show bL t = joinS 47 (l.map bL) by have := HT.out; rwa [List.take_of_length_le (by rw [List.length_map]; omega)] at this)
      have HK := Mx.hid (fun wx => refCut47 t wx (by omega))
      have HPT := Mx.hid (fun wx => refPath_any t wx (by unfold maxLen; omega))
      rw [← HT2.out] at HR HG
      have hlm : (l.map bL).length = l.length := List.length_map ..
      rw [hlm] at HR
      clear hlm
      have hkl : (pcs 47 0 (bL t)).length ≤ 201 := by
        rw [pcs_len]
        have h1 : (bL t).count 47 ≤ (bL t).length := List.count_le_length
        have h2 : (bL t).length = t.size := rfl
        omega
      have HKL := Mx.hid hkl
      clear hkl
      generalize pcs 47 0 (bL t) = K at *
      by_cases h0 : l.length = 0
      · have q0 : ((l.length : Int) == 0) = true := by rw [beq_iff_eq]; omega
        have HF := Mx.hid (HE.out h0)
        clear h0
        go_wp2_with (first | ((with_reducible show wpList _ _ _ _ _ _); refine wpl_want rfl ?_) | (go_at_call 36; refine (HK.out _).mono ?_; rintro e w2 ⟨vk, rfl, hk2⟩; obtain ⟨ka, kc, rfl, _⟩ := id hk2.sl0))
        go_ret2
        exact ⟨by rw [HF.out]; rfl, hk2.bare⟩
      have q0 : ((l.length : Int) == 0) = false := by rw [beq_eq_false_iff_ne]; omega
      have HR2 := Mx.hid (HR.out h0)
      by_cases hk : K.length = l.length
      · have qk : ((K.length : Int) != (l.length : Int)) = false := by rw [hk]; simp
        have qk2 : ((l.length : Int) != (l.length : Int)) = false := by simp
        have HD := Mx.hid hk
        rw [hk] at HR2 HK
        clear hk h0
        cases hp : pathB (bL t) with
        | false =>
          have HF := Mx.hid (HB.out (by rw [HR2.out, hp, Bool.and_false]))
          rw [hp] at HPT
          clear hp
          go_wp2_with (first | ((with_reducible show wpList _ _ _ _ _ _); refine wpl_want rfl ?_) | (go_at_call 36; refine (HK.out _).mono ?_; rintro e w2 ⟨vk, rfl, hk2⟩; obtain ⟨ka, kc, rfl, _⟩ := id hk2.sl0) | (go_at_call 41; refine (HPT.out _).mono ?_; rintro e w3 ⟨rfl, hk3⟩))
          go_ret2
          exact ⟨by rw [HF.out]; rfl, hk2.bare.call0 hk3⟩
        | true =>
          have HF := Mx.hid (HG.out (by rw [HR2.out, hp]; simp))
          rw [hp] at HPT
          clear hp
          go_wp2_with (first | ((with_reducible show wpList _ _ _ _ _ _); refine wpl_want rfl ?_) | (go_at_call 36; refine (HK.out _).mono ?_; rintro e w2 ⟨vk, rfl, hk2⟩; obtain ⟨ka, kc, rfl, _⟩ := id hk2.sl0) | (go_at_call 41; refine (HPT.out _).mono ?_; rintro e w3 ⟨rfl, hk3⟩))
          go_ret2
          exact ⟨by rw [HF.out]; simp only [str_bL]; rfl, hk2.bare.call0 hk3⟩
      · have qk : ((K.length : Int) != (l.length : Int)) = true := by simp; omega
        have HF := Mx.hid (HB.out (by rw [HR2.out, decide_eq_false hk]; rfl))
        clear hk h0
        go_wp2_with (first | ((with_reducible show wpList _ _ _ _ _ _); refine wpl_want rfl ?_) | (go_at_call 36; refine (HK.out _).mono ?_; rintro e w2 ⟨vk, rfl, hk2⟩; obtain ⟨ka, kc, rfl, _⟩ := id hk2.sl0))
        go_ret2
        exact ⟨by rw [HF.out]; rfl, hk2.bare⟩

theorem pcs_le201 (l : List UInt8) (h : l.length ≤ 100000) : (pcs 42 0 l).length ≤ 100001 := by
  rw [pcs_len]
  have h1 : l.count 42 ≤ l.length := List.count_le_length
  omega
theorem pat_none {p : List UInt8} (h : partsB (trimS p) = none) : patV p = .tuple #[.string (str []), .bool false, .string (str []), .bool false, .bool false] := by
  unfold patV; rw [h]
theorem pat_some {p : List UInt8} {d : Bool} (hd : decide (p.getLast? = some 47) = d) (f b : List UInt8) (s : Bool) (h : partsB (trimS p) = some (f, s, b)) : patV p = .tuple #[.string (str f), .bool s, .string (str b), .bool d, .bool true] := by
  unfold patV; rw [h, ← hd]

set_option maxRecDepth 100000 in
set_option maxHeartbeats 2000000 in
theorem refPattern_any (p : ByteArray) (w : World) (hp : p.size ≤ 100000) :
    Calls Tryd.prog 58 #[.string p] w fun e w' => e = .returned (patV (bL p)) ∧ St w w' [] [] := by
  have HPN := Mx.hid (fun h => pat_none (p := bL p) h)
  have HPS := Mx.hid (fun d hd f b s h => pat_some (p := bL p) (d := d) hd f b s h)
  generalize patV (bL p) = V at *
  by_cases h0 : p.size = 0
  · have hnil : bL p = [] := List.eq_nil_of_length_eq_zero h0
    have ht : trimS (bL p) = bL p := by rw [hnil]; rfl
    have hd : decide ((bL p).getLast? = some 47) = false := by rw [hnil]; rfl
    have HN0 := Mx.hid (fun (h : partsB (bL p) = none) => HPN.out (by rw [ht]; exact h))
    have HF := Mx.hid (HN0.out (parts_bad (by rw [hnil]; rfl)))
    have HN := Mx.hid (fun wx => refName_any p wx (by unfold maxLen; omega))
    rw [show nameB (bL p) = false by rw [hnil]; rfl] at HN
    have q0 : decide ((0 : Int) < (p.size : Int)) = false := decide_eq_false (by omega)
    have q0n : decide (0 < p.size) = false := decide_eq_false (by omega)
    clear HPN HPS HN0 hd ht hnil h0
    go_enter Tryd.func58, Tryd.ntmps58
    go_wp2_with (first | ((with_reducible show wpList _ _ _ _ _ _); refine wpl_want rfl ?_) | (go_at_call 40; refine (HN.out _).mono ?_; rintro e w1 ⟨rfl, rfl⟩))
    (try simp only [Exit.inBlock, Exit.then])
    refine bodyPost_ret (results_tmp5 rfl _ _ _) rfl ?_
    exact ⟨by rw [HF.out]; rfl, St.refl w⟩
  have h0' : 0 < p.size := by omega
  have hl := last_get h0'
  have q0 : decide ((0 : Int) < (p.size : Int)) = true := decide_eq_true (by omega)
  have q0n : decide (0 < p.size) = true := decide_eq_true (by omega)
  have e1 : ((p.size : Int) - 1).toNat = p.size - 1 := by omega
  have e2 : p.size - 1 < p.size := by omega
  have hq : (((p[p.size - 1]'e2).toNat : Int) == 47) = decide ((bL p).getLast? = some 47) := by rw [hl]; exact u8_eqb _ 47 (by omega)
  cases hd : decide ((bL p).getLast? = some 47) with
  | false =>
    have ht : trimS (bL p) = bL p := by unfold trimS; rw [if_neg (of_decide_eq_false hd)]
    have HN0 := Mx.hid (fun (h : partsB (bL p) = none) => HPN.out (by rw [ht]; exact h))
    have HN1 := Mx.hid (fun f b s (h : partsB (bL p) = some (f, s, b)) => HPS.out _ hd f b s (by rw [ht]; exact h))
    have HN := Mx.hid (fun wx => refName_any p wx (by unfold maxLen; omega))
    have HK := Mx.hid (fun wx => refCut42 p wx (by omega))
    have HTS := Mx.hid (show (bL p).length ≤ 100000 from hp)
    rw [hd] at hq
    clear HPN HPS
    clear hd ht hl h0 h0'
    cases hn : nameB (bL p) with
    | false =>
      have HF := Mx.hid (HN0.out (parts_bad hn))
      rw [hn] at HN
      clear hn HN0 HN1 HK
      go_enter Tryd.func58, Tryd.ntmps58
      go_wp2_with (first | ((with_reducible show wpList _ _ _ _ _ _); refine wpl_want rfl ?_) | (go_at_call 40; refine (HN.out _).mono ?_; rintro e w1 ⟨rfl, rfl⟩))
      (try simp only [Exit.inBlock, Exit.then])
      refine bodyPost_ret (results_tmp5 rfl _ _ _) rfl ?_
      exact ⟨by rw [HF.out]; rfl, St.refl w⟩
    | true =>
      rw [hn] at HN
      by_cases h1 : (pcs 42 0 (bL p)).length = 1
      · have HF := Mx.hid (HN1.out _ _ _ (parts_one hn h1))
        rw [str_bL] at HF
        rw [h1] at HK
        clear hn HN0 HN1 h1
        generalize pcs 42 0 (bL p) = K at *
        go_enter Tryd.func58, Tryd.ntmps58
        go_wp2_with (first | ((with_reducible show wpList _ _ _ _ _ _); refine wpl_want rfl ?_) | (go_at_call 40; refine (HN.out _).mono ?_; rintro e w1 ⟨rfl, rfl⟩) | (go_at_call 36; refine (HK.out _).mono ?_; rintro e w2 ⟨vk, rfl, hk2⟩; obtain ⟨ka, kc, rfl, kl1, kl2, _⟩ := id hk2.sl0; unfold maxLen at kl2))
        (try simp only [Exit.inBlock, Exit.then])
        refine bodyPost_ret (results_tmp5 rfl _ _ _) rfl ?_
        exact ⟨by rw [HF.out]; rfl, hk2.bare⟩
      · by_cases h2 : 2 < (pcs 42 0 (bL p)).length
        · have HF := Mx.hid (HN0.out (parts_many h2))
          have hkl := pcs_le201 (bL p) HTS.out
          clear hn HN0 HN1 h1
          generalize pcs 42 0 (bL p) = K at *
          have q1 : ((K.length : Int) == 1) = false := by rw [beq_eq_false_iff_ne]; omega
          have q2 : decide ((2 : Int) < (K.length : Int)) = true := decide_eq_true (by omega)
          have q2n : decide (2 < K.length) = true := decide_eq_true (by omega)
          clear h2
          go_enter Tryd.func58, Tryd.ntmps58
          go_wp2_with (first | ((with_reducible show wpList _ _ _ _ _ _); refine wpl_want rfl ?_) | (go_at_call 40; refine (HN.out _).mono ?_; rintro e w1 ⟨rfl, rfl⟩) | (go_at_call 36; refine (HK.out _).mono ?_; rintro e w2 ⟨vk, rfl, hk2⟩; obtain ⟨ka, kc, rfl, kl1, kl2, _⟩ := id hk2.sl0; unfold maxLen at kl2))
          go_quiet (fail)
          go_wp2_with (first | ((with_reducible show wpList _ _ _ _ _ _); refine wpl_want rfl ?_))
          (try simp only [Exit.inBlock, Exit.then])
          refine bodyPost_ret (results_tmp5 rfl _ _ _) rfl ?_
          exact ⟨by rw [HF.out]; rfl, (hk2.drewN _).bare⟩
        · obtain ⟨a, b, hab⟩ := two_of (show (pcs 42 0 (bL p)).length = 2 by have := List.length_pos_iff.2 (pcs_ne 42 0 (bL p)); omega)
          have HP2 := Mx.hid (parts_two hn hab)
          rw [hab] at HK
          have za : (str a).size ≤ 100000 := by rw [str_size]; exact Nat.le_trans (pcs_le (c := 42) (l := bL p) (by rw [hab]; simp)) HTS.out
          have zb : (str b).size ≤ 100000 := by rw [str_size]; exact Nat.le_trans (pcs_le (c := 42) (l := bL p) (by rw [hab]; simp)) HTS.out
          clear hn h1 h2 hab
          replace HK : Hid (∀ wx : World, Calls Tryd.prog 36 #[.string p, .int .u8 42] wx fun e w' => ∃ v', e = .returned v' ∧ St wx w' [⟨v', 9, 1, 2, [.string (str a), .string (str b)]⟩] []) := HK
          have HA := Mx.hid (str_emp a)
          have HB := Mx.hid (str_emp b)
          have HC := Mx.hid (str_emp (a ++ b))
          rw [← str_cat] at HC
          by_cases ha : a = []
          · by_cases hb : b = []
            · have HF := Mx.hid (HN0.out (HP2.out.trans (if_pos (.inr (by rw [ha, hb]; rfl)))))
              have qa : (str a).toList.isEmpty = true := HA.out.trans (decide_eq_true ha)
              have qc : (str a ++ str b).toList.isEmpty = true := HC.out.trans (decide_eq_true (by rw [ha, hb]; rfl))
              clear ha hb HN0 HN1
              generalize str a = sa at *
              generalize str b = sb at *
              go_enter Tryd.func58, Tryd.ntmps58
              go_wp2_with (first | ((with_reducible show wpList _ _ _ _ _ _); refine wpl_want rfl ?_) | (go_at_call 40; refine (HN.out _).mono ?_; rintro e w1 ⟨rfl, rfl⟩) | (go_at_call 36; refine (HK.out _).mono ?_; rintro e w2 ⟨vk, rfl, hk2⟩; obtain ⟨ka, kc, rfl, kl1, kl2, _⟩ := id hk2.sl0; unfold maxLen at kl2))
              obtain ⟨g, cp, hvv, _, _, _, _⟩ := hk2.form0 (by omega)
              cases hvv
              have c0 := hk2.cell (j := 0) rfl
              have c1 := hk2.cell (j := 1) rfl
              go_quiet (fail)
              go_wp2_with (first | ((with_reducible show wpList _ _ _ _ _ _); refine wpl_want rfl ?_))
              (try simp only [Exit.inBlock, Exit.then])
              refine bodyPost_ret (results_tmp5 rfl _ _ _) rfl ?_
              exact ⟨by rw [HF.out]; rfl, (hk2.drewN _).bare⟩
            · have HF := Mx.hid (HN1.out _ _ _ (HP2.out.trans (if_neg (by rintro (h | h); exact h.1 ha; exact hb (List.append_eq_nil_iff.1 h).2))))
              have qa : (str a).toList.isEmpty = true := HA.out.trans (decide_eq_true ha)
              have qc : (str a ++ str b).toList.isEmpty = false := HC.out.trans (decide_eq_false (fun h => hb (List.append_eq_nil_iff.1 h).2))
              clear ha hb HN0 HN1
              generalize str a = sa at *
              generalize str b = sb at *
              go_enter Tryd.func58, Tryd.ntmps58
              go_wp2_with (first | ((with_reducible show wpList _ _ _ _ _ _); refine wpl_want rfl ?_) | (go_at_call 40; refine (HN.out _).mono ?_; rintro e w1 ⟨rfl, rfl⟩) | (go_at_call 36; refine (HK.out _).mono ?_; rintro e w2 ⟨vk, rfl, hk2⟩; obtain ⟨ka, kc, rfl, kl1, kl2, _⟩ := id hk2.sl0; unfold maxLen at kl2))
              obtain ⟨g, cp, hvv, _, _, _, _⟩ := hk2.form0 (by omega)
              cases hvv
              have c0 := hk2.cell (j := 0) rfl
              have c1 := hk2.cell (j := 1) rfl
              go_quiet (fail)
              go_wp2_with (first | ((with_reducible show wpList _ _ _ _ _ _); refine wpl_want rfl ?_))
              replace hk2 := hk2.drewN nq
              have c0 := hk2.cell (j := 0) rfl
              have c1 := hk2.cell (j := 1) rfl
              generalize w2.drewN nq = w2' at *
              go_quiet (fail)
              go_wp2_with (first | ((with_reducible show wpList _ _ _ _ _ _); refine wpl_want rfl ?_))
              (try simp only [Exit.inBlock, Exit.then])
              refine bodyPost_ret (results_tmp5 rfl _ _ _) rfl ?_
              exact ⟨by rw [HF.out]; rfl, (hk2.drewN _).bare⟩
          · by_cases hb : b = []
            · have HF := Mx.hid (HN1.out _ _ _ (HP2.out.trans (if_neg (by rintro (h | h); exact h.2 hb; exact ha (List.append_eq_nil_iff.1 h).1))))
              have qa : (str a).toList.isEmpty = false := HA.out.trans (decide_eq_false ha)
              have qb : (str b).toList.isEmpty = true := HB.out.trans (decide_eq_true hb)
              have qc : (str a ++ str b).toList.isEmpty = false := HC.out.trans (decide_eq_false (fun h => ha (List.append_eq_nil_iff.1 h).1))
              clear ha hb HN0 HN1
              generalize str a = sa at *
              generalize str b = sb at *
              go_enter Tryd.func58, Tryd.ntmps58
              go_wp2_with (first | ((with_reducible show wpList _ _ _ _ _ _); refine wpl_want rfl ?_) | (go_at_call 40; refine (HN.out _).mono ?_; rintro e w1 ⟨rfl, rfl⟩) | (go_at_call 36; refine (HK.out _).mono ?_; rintro e w2 ⟨vk, rfl, hk2⟩; obtain ⟨ka, kc, rfl, kl1, kl2, _⟩ := id hk2.sl0; unfold maxLen at kl2))
              obtain ⟨g, cp, hvv, _, _, _, _⟩ := hk2.form0 (by omega)
              cases hvv
              have c0 := hk2.cell (j := 0) rfl
              have c1 := hk2.cell (j := 1) rfl
              go_quiet (fail)
              go_wp2_with (first | ((with_reducible show wpList _ _ _ _ _ _); refine wpl_want rfl ?_))
              replace hk2 := hk2.drewN nq
              have c0 := hk2.cell (j := 0) rfl
              have c1 := hk2.cell (j := 1) rfl
              generalize w2.drewN nq = w2' at *
              go_quiet (fail)
              go_wp2_with (first | ((with_reducible show wpList _ _ _ _ _ _); refine wpl_want rfl ?_))
              (try simp only [Exit.inBlock, Exit.then])
              refine bodyPost_ret (results_tmp5 rfl _ _ _) rfl ?_
              exact ⟨by rw [HF.out]; rfl, (hk2.drewN _).bare⟩
            · have HF := Mx.hid (HN0.out (HP2.out.trans (if_pos (.inl ⟨ha, hb⟩))))
              have qa : (str a).toList.isEmpty = false := HA.out.trans (decide_eq_false ha)
              have qb : (str b).toList.isEmpty = false := HB.out.trans (decide_eq_false hb)
              clear ha hb HN0 HN1
              generalize str a = sa at *
              generalize str b = sb at *
              go_enter Tryd.func58, Tryd.ntmps58
              go_wp2_with (first | ((with_reducible show wpList _ _ _ _ _ _); refine wpl_want rfl ?_) | (go_at_call 40; refine (HN.out _).mono ?_; rintro e w1 ⟨rfl, rfl⟩) | (go_at_call 36; refine (HK.out _).mono ?_; rintro e w2 ⟨vk, rfl, hk2⟩; obtain ⟨ka, kc, rfl, kl1, kl2, _⟩ := id hk2.sl0; unfold maxLen at kl2))
              obtain ⟨g, cp, hvv, _, _, _, _⟩ := hk2.form0 (by omega)
              cases hvv
              have c0 := hk2.cell (j := 0) rfl
              have c1 := hk2.cell (j := 1) rfl
              go_quiet (fail)
              go_wp2_with (first | ((with_reducible show wpList _ _ _ _ _ _); refine wpl_want rfl ?_))
              (try simp only [Exit.inBlock, Exit.then])
              refine bodyPost_ret (results_tmp5 rfl _ _ _) rfl ?_
              exact ⟨by rw [HF.out]; rfl, (hk2.drewN _).bare⟩
  | true =>
    have he : bL (p.extract 0 (p.size - 1)) = (bL p).dropLast := by rw [ext_take, List.dropLast_eq_take]; rfl
    have ht : trimS (bL p) = bL (p.extract 0 (p.size - 1)) := by unfold trimS; rw [if_pos (of_decide_eq_true hd), he]
    have hz : (p.extract 0 (p.size - 1)).size ≤ 100000 := by
      have h2 : (bL (p.extract 0 (p.size - 1))).length = (p.extract 0 (p.size - 1)).size := rfl
      have h3 : (bL p).length = p.size := rfl
      rw [he, List.length_dropLast] at h2
      omega
    have HN0 := Mx.hid (fun (h : partsB (bL (p.extract 0 (p.size - 1))) = none) => HPN.out (by rw [ht]; exact h))
    have HN1 := Mx.hid (fun f b s (h : partsB (bL (p.extract 0 (p.size - 1))) = some (f, s, b)) => HPS.out _ hd f b s (by rw [ht]; exact h))
    have HN := Mx.hid (fun wx => refName_any (p.extract 0 (p.size - 1)) wx (by unfold maxLen; omega))
    have HK := Mx.hid (fun wx => refCut42 (p.extract 0 (p.size - 1)) wx (by omega))
    have HTS := Mx.hid (show (bL (p.extract 0 (p.size - 1))).length ≤ 100000 from hz)
    rw [hd] at hq
    clear HPN HPS
    clear hd ht hl h0 h0' he
    cases hn : nameB (bL (p.extract 0 (p.size - 1))) with
    | false =>
      have HF := Mx.hid (HN0.out (parts_bad hn))
      rw [hn] at HN
      clear hn HN0 HN1 HK
      go_enter Tryd.func58, Tryd.ntmps58
      go_wp2_with (first | ((with_reducible show wpList _ _ _ _ _ _); refine wpl_want rfl ?_) | (go_at_call 40; refine (HN.out _).mono ?_; rintro e w1 ⟨rfl, rfl⟩))
      (try simp only [Exit.inBlock, Exit.then])
      refine bodyPost_ret (results_tmp5 rfl _ _ _) rfl ?_
      exact ⟨by rw [HF.out]; rfl, St.refl w⟩
    | true =>
      rw [hn] at HN
      by_cases h1 : (pcs 42 0 (bL (p.extract 0 (p.size - 1)))).length = 1
      · have HF := Mx.hid (HN1.out _ _ _ (parts_one hn h1))
        rw [str_bL] at HF
        rw [h1] at HK
        clear hn HN0 HN1 h1
        generalize pcs 42 0 (bL (p.extract 0 (p.size - 1))) = K at *
        go_enter Tryd.func58, Tryd.ntmps58
        go_wp2_with (first | ((with_reducible show wpList _ _ _ _ _ _); refine wpl_want rfl ?_) | (go_at_call 40; refine (HN.out _).mono ?_; rintro e w1 ⟨rfl, rfl⟩) | (go_at_call 36; refine (HK.out _).mono ?_; rintro e w2 ⟨vk, rfl, hk2⟩; obtain ⟨ka, kc, rfl, kl1, kl2, _⟩ := id hk2.sl0; unfold maxLen at kl2))
        (try simp only [Exit.inBlock, Exit.then])
        refine bodyPost_ret (results_tmp5 rfl _ _ _) rfl ?_
        exact ⟨by rw [HF.out]; rfl, hk2.bare⟩
      · by_cases h2 : 2 < (pcs 42 0 (bL (p.extract 0 (p.size - 1)))).length
        · have HF := Mx.hid (HN0.out (parts_many h2))
          have hkl := pcs_le201 (bL (p.extract 0 (p.size - 1))) HTS.out
          clear hn HN0 HN1 h1
          generalize pcs 42 0 (bL (p.extract 0 (p.size - 1))) = K at *
          have q1 : ((K.length : Int) == 1) = false := by rw [beq_eq_false_iff_ne]; omega
          have q2 : decide ((2 : Int) < (K.length : Int)) = true := decide_eq_true (by omega)
          have q2n : decide (2 < K.length) = true := decide_eq_true (by omega)
          clear h2
          go_enter Tryd.func58, Tryd.ntmps58
          go_wp2_with (first | ((with_reducible show wpList _ _ _ _ _ _); refine wpl_want rfl ?_) | (go_at_call 40; refine (HN.out _).mono ?_; rintro e w1 ⟨rfl, rfl⟩) | (go_at_call 36; refine (HK.out _).mono ?_; rintro e w2 ⟨vk, rfl, hk2⟩; obtain ⟨ka, kc, rfl, kl1, kl2, _⟩ := id hk2.sl0; unfold maxLen at kl2))
          go_quiet (fail)
          go_wp2_with (first | ((with_reducible show wpList _ _ _ _ _ _); refine wpl_want rfl ?_))
          (try simp only [Exit.inBlock, Exit.then])
          refine bodyPost_ret (results_tmp5 rfl _ _ _) rfl ?_
          exact ⟨by rw [HF.out]; rfl, (hk2.drewN _).bare⟩
        · obtain ⟨a, b, hab⟩ := two_of (show (pcs 42 0 (bL (p.extract 0 (p.size - 1)))).length = 2 by have := List.length_pos_iff.2 (pcs_ne 42 0 (bL (p.extract 0 (p.size - 1)))); omega)
          have HP2 := Mx.hid (parts_two hn hab)
          rw [hab] at HK
          have za : (str a).size ≤ 100000 := by rw [str_size]; exact Nat.le_trans (pcs_le (c := 42) (l := bL (p.extract 0 (p.size - 1))) (by rw [hab]; simp)) HTS.out
          have zb : (str b).size ≤ 100000 := by rw [str_size]; exact Nat.le_trans (pcs_le (c := 42) (l := bL (p.extract 0 (p.size - 1))) (by rw [hab]; simp)) HTS.out
          clear hn h1 h2 hab
          replace HK : Hid (∀ wx : World, Calls Tryd.prog 36 #[.string (p.extract 0 (p.size - 1)), .int .u8 42] wx fun e w' => ∃ v', e = .returned v' ∧ St wx w' [⟨v', 9, 1, 2, [.string (str a), .string (str b)]⟩] []) := HK
          have HA := Mx.hid (str_emp a)
          have HB := Mx.hid (str_emp b)
          have HC := Mx.hid (str_emp (a ++ b))
          rw [← str_cat] at HC
          by_cases ha : a = []
          · by_cases hb : b = []
            · have HF := Mx.hid (HN0.out (HP2.out.trans (if_pos (.inr (by rw [ha, hb]; rfl)))))
              have qa : (str a).toList.isEmpty = true := HA.out.trans (decide_eq_true ha)
              have qc : (str a ++ str b).toList.isEmpty = true := HC.out.trans (decide_eq_true (by rw [ha, hb]; rfl))
              clear ha hb HN0 HN1
              generalize str a = sa at *
              generalize str b = sb at *
              go_enter Tryd.func58, Tryd.ntmps58
              go_wp2_with (first | ((with_reducible show wpList _ _ _ _ _ _); refine wpl_want rfl ?_) | (go_at_call 40; refine (HN.out _).mono ?_; rintro e w1 ⟨rfl, rfl⟩) | (go_at_call 36; refine (HK.out _).mono ?_; rintro e w2 ⟨vk, rfl, hk2⟩; obtain ⟨ka, kc, rfl, kl1, kl2, _⟩ := id hk2.sl0; unfold maxLen at kl2))
              obtain ⟨g, cp, hvv, _, _, _, _⟩ := hk2.form0 (by omega)
              cases hvv
              have c0 := hk2.cell (j := 0) rfl
              have c1 := hk2.cell (j := 1) rfl
              go_quiet (fail)
              go_wp2_with (first | ((with_reducible show wpList _ _ _ _ _ _); refine wpl_want rfl ?_))
              (try simp only [Exit.inBlock, Exit.then])
              refine bodyPost_ret (results_tmp5 rfl _ _ _) rfl ?_
              exact ⟨by rw [HF.out]; rfl, (hk2.drewN _).bare⟩
            · have HF := Mx.hid (HN1.out _ _ _ (HP2.out.trans (if_neg (by rintro (h | h); exact h.1 ha; exact hb (List.append_eq_nil_iff.1 h).2))))
              have qa : (str a).toList.isEmpty = true := HA.out.trans (decide_eq_true ha)
              have qc : (str a ++ str b).toList.isEmpty = false := HC.out.trans (decide_eq_false (fun h => hb (List.append_eq_nil_iff.1 h).2))
              clear ha hb HN0 HN1
              generalize str a = sa at *
              generalize str b = sb at *
              go_enter Tryd.func58, Tryd.ntmps58
              go_wp2_with (first | ((with_reducible show wpList _ _ _ _ _ _); refine wpl_want rfl ?_) | (go_at_call 40; refine (HN.out _).mono ?_; rintro e w1 ⟨rfl, rfl⟩) | (go_at_call 36; refine (HK.out _).mono ?_; rintro e w2 ⟨vk, rfl, hk2⟩; obtain ⟨ka, kc, rfl, kl1, kl2, _⟩ := id hk2.sl0; unfold maxLen at kl2))
              obtain ⟨g, cp, hvv, _, _, _, _⟩ := hk2.form0 (by omega)
              cases hvv
              have c0 := hk2.cell (j := 0) rfl
              have c1 := hk2.cell (j := 1) rfl
              go_quiet (fail)
              go_wp2_with (first | ((with_reducible show wpList _ _ _ _ _ _); refine wpl_want rfl ?_))
              replace hk2 := hk2.drewN nq
              have c0 := hk2.cell (j := 0) rfl
              have c1 := hk2.cell (j := 1) rfl
              generalize w2.drewN nq = w2' at *
              go_quiet (fail)
              go_wp2_with (first | ((with_reducible show wpList _ _ _ _ _ _); refine wpl_want rfl ?_))
              (try simp only [Exit.inBlock, Exit.then])
              refine bodyPost_ret (results_tmp5 rfl _ _ _) rfl ?_
              exact ⟨by rw [HF.out]; rfl, (hk2.drewN _).bare⟩
          · by_cases hb : b = []
            · have HF := Mx.hid (HN1.out _ _ _ (HP2.out.trans (if_neg (by rintro (h | h); exact h.2 hb; exact ha (List.append_eq_nil_iff.1 h).1))))
              have qa : (str a).toList.isEmpty = false := HA.out.trans (decide_eq_false ha)
              have qb : (str b).toList.isEmpty = true := HB.out.trans (decide_eq_true hb)
              have qc : (str a ++ str b).toList.isEmpty = false := HC.out.trans (decide_eq_false (fun h => ha (List.append_eq_nil_iff.1 h).1))
              clear ha hb HN0 HN1
              generalize str a = sa at *
              generalize str b = sb at *
              go_enter Tryd.func58, Tryd.ntmps58
              go_wp2_with (first | ((with_reducible show wpList _ _ _ _ _ _); refine wpl_want rfl ?_) | (go_at_call 40; refine (HN.out _).mono ?_; rintro e w1 ⟨rfl, rfl⟩) | (go_at_call 36; refine (HK.out _).mono ?_; rintro e w2 ⟨vk, rfl, hk2⟩; obtain ⟨ka, kc, rfl, kl1, kl2, _⟩ := id hk2.sl0; unfold maxLen at kl2))
              obtain ⟨g, cp, hvv, _, _, _, _⟩ := hk2.form0 (by omega)
              cases hvv
              have c0 := hk2.cell (j := 0) rfl
              have c1 := hk2.cell (j := 1) rfl
              go_quiet (fail)
              go_wp2_with (first | ((with_reducible show wpList _ _ _ _ _ _); refine wpl_want rfl ?_))
              replace hk2 := hk2.drewN nq
              have c0 := hk2.cell (j := 0) rfl
              have c1 := hk2.cell (j := 1) rfl
              generalize w2.drewN nq = w2' at *
              go_quiet (fail)
              go_wp2_with (first | ((with_reducible show wpList _ _ _ _ _ _); refine wpl_want rfl ?_))
              (try simp only [Exit.inBlock, Exit.then])
              refine bodyPost_ret (results_tmp5 rfl _ _ _) rfl ?_
              exact ⟨by rw [HF.out]; rfl, (hk2.drewN _).bare⟩
            · have HF := Mx.hid (HN0.out (HP2.out.trans (if_pos (.inl ⟨ha, hb⟩))))
              have qa : (str a).toList.isEmpty = false := HA.out.trans (decide_eq_false ha)
              have qb : (str b).toList.isEmpty = false := HB.out.trans (decide_eq_false hb)
              clear ha hb HN0 HN1
              generalize str a = sa at *
              generalize str b = sb at *
              go_enter Tryd.func58, Tryd.ntmps58
              go_wp2_with (first | ((with_reducible show wpList _ _ _ _ _ _); refine wpl_want rfl ?_) | (go_at_call 40; refine (HN.out _).mono ?_; rintro e w1 ⟨rfl, rfl⟩) | (go_at_call 36; refine (HK.out _).mono ?_; rintro e w2 ⟨vk, rfl, hk2⟩; obtain ⟨ka, kc, rfl, kl1, kl2, _⟩ := id hk2.sl0; unfold maxLen at kl2))
              obtain ⟨g, cp, hvv, _, _, _, _⟩ := hk2.form0 (by omega)
              cases hvv
              have c0 := hk2.cell (j := 0) rfl
              have c1 := hk2.cell (j := 1) rfl
              go_quiet (fail)
              go_wp2_with (first | ((with_reducible show wpList _ _ _ _ _ _); refine wpl_want rfl ?_))
              (try simp only [Exit.inBlock, Exit.then])
              refine bodyPost_ret (results_tmp5 rfl _ _ _) rfl ?_
              exact ⟨by rw [HF.out]; rfl, (hk2.drewN _).bare⟩
end Go.Proofs.YtobpojlophhfaaaDoor
