/- The walk of PackSmall. -/
import Derived.Test.YtlfdnlomlbbicaaDoorPkX
import Derived.Test.YtlfdnlomlbbicaaDoorJ16ShaH
namespace Go.Mx
open Go Go.RowKit
theorem mayE_nil : mayE [] = 0 := mayE_0 (by simp)
theorem mayE_rep {l : List (List UInt8)} {x : List UInt8} (h : mayE l = 0) (hx : x ∈ l) (n : Nat) : mayE (List.replicate n x) = 0 := by
  refine mayE_0 fun y hy => ?_
  rw [List.eq_of_mem_replicate hy]
  by_cases hd : (decO x).2 = 0
  · exact hd
  · rw [mayE_4 hx hd] at h; cases h
theorem packL_nil : packL [] = [77, 80, 49, 0] ++ sha [77, 80, 49, 0] := by
  have h : pkB [] = [77, 80, 49, 0] := by
    have h1 : putL 0 = [0] := by rw [putL, dif_pos (by omega)]; rfl
    have h2 : (pkAll []).1 = [] := rfl
    unfold pkB
    rw [h2, List.length_nil, h1]
    rfl
  unfold packL
  rw [h]
theorem LL.rep {w : World} {v u : Value} {x : List UInt8} {n : Nat} (hv : Sl w 1 v n (List.replicate n u)) (hu : Sl w 1 u x.length (bs x)) : LL w v (List.replicate n x) := by
  have h : ∀ n, rds (List.replicate n u) (List.replicate n x) = List.replicate n ⟨u, 1, x.length, bs x⟩ := by
    intro n
    induction n with
    | zero => rfl
    | succ n ih => rw [List.replicate_succ, List.replicate_succ, List.replicate_succ, ← ih]; rfl
  refine ⟨List.replicate n u, by simp, by rw [List.length_replicate]; exact hv, fun q hq => ?_⟩
  rw [h] at hq
  rw [List.eq_of_mem_replicate hq]
  exact hu
end Go.Mx
namespace Go.Proofs.YtlfdnlomlbbicaaDoor
open Go.RowKit Go.Mx
set_option maxRecDepth 100000 in
theorem first10_any (w : World) (hL : Laid w) (hI : IndexOk w) : Calls Tryd.prog 5 #[] w fun e w' => e = .returned (.bool true) ∧ St w w' [] [] := by
  go_enter Tryd.func5, Tryd.ntmps5
  go_wp2_with fail
  refine (pwrite_any _ [] w (LL.nil w) (by simp) (by simp) hL hI).mono ?_
  unfold PkwPost
  rintro e w1 (⟨_, v, rfl, hs⟩ | ⟨h, _⟩)
  · rw [packL_nil] at hs
    have hsl := sha_len [77, 80, 49, 0]
    have hlen : ([77, 80, 49, 0] ++ sha [77, 80, 49, 0]).length = 36 := by rw [List.length_append, hsl]; rfl
    have htk : ([77, 80, 49, 0] ++ sha [77, 80, 49, 0]).take 4 = [77, 80, 49, 0] := List.take_left' rfl
    generalize [77, 80, 49, 0] ++ sha [77, 80, 49, 0] = B at *
    have hs0 := hs.sl0
    obtain ⟨x, p1, q1⟩ := hs0.cutRun Tryd.elU8 none (some (.int .i64 4)) 0 4 (.inl ⟨rfl, rfl⟩) (.inr ⟨.i64, rfl⟩) (by omega) (by omega)
    have hx := Sl.cutB (q1 _ hs0) (by omega) (Nat.zero_le _)
    rw [htk, List.drop_zero] at hx
    obtain ⟨bo, bc, rfl, _⟩ := id hs0
    have ht : ((str [77, 80, 49, 0]).toList == [77, 80, 49, 0]) = true := by rw [str_toL]; rfl
    have hbare := Mx.hid hs.bare
    clear q1 hs0 hs htk
    rw [hlen] at p1 ⊢
    go_wp2_with (first | ((with_reducible show wpList _ _ _ _ _ _); refine wpl_want rfl ?_) | ((with_reducible show wpList _ _ _ _ _ _); refine wpl_b2s rfl 25 9 5 _ rfl Tryd.underlying25 Tryd.underlying5 Tryd.underlying9 (by exact hx) ?_))
    go_ret
    exact ⟨rfl, hbare.out⟩
  · rw [mayE_nil] at h
    cases h
set_option maxRecDepth 100000 in
set_option maxHeartbeats 4000000 in
theorem packSmallRow (v : Value) (l : List (List UInt8)) {w : World} (hv : LL w v l) (hz : ∀ x ∈ l, x.length ≤ reachBytes) (n : Int) (wn : (Lit.int .i64 n).wf = true) (_w : World) (hLd : Laid w) (hId : IndexOk w) :
    Calls Tryd.prog 3 #[v, .int .i64 n] w fun e w' => e = .returned (.bool true) ∧ Below w.heap.size w w' := by
  have HL := Mx.hid (fun w' (h : St w w' [] []) => hLd.keep h)
  have HI := Mx.hid (fun w' (h : St w w' [] []) => hId.keep h)
  have HV := Mx.hid hv
  have HZ := Mx.hid hz
  obtain ⟨ao, cap, blk, off, us, rfl, h1, h2, hc, hs⟩ := hv.at
  have HC := Mx.hid (fun k hk => (⟨(hc k hk).1, (hc k hk).2⟩ : ao = some ⟨blk, off, none⟩ ∧ w.cell? ⟨blk, off + k, none⟩ = some (us k)))
  have HS := Mx.hid hs
  clear hv hz hc hs hLd hId
  go_enter Tryd.func3, Tryd.ntmps3
  go_wp2_with fail
  refine (first10_any _ (HL.out _ (St.refl w)) (HI.out _ (St.refl w))).mono ?_
  rintro e w1 ⟨rfl, hk⟩
  go_wp2_with (first | ((with_reducible show wpList _ _ _ _ _ _); refine wpl_want rfl ?_))
  refine (few10_any _ l _ (LL.old hk HV.out) (fun x hx => by have := HZ.out x hx; unfold reachBytes at this; omega)).mono ?_
  rintro e w2 ⟨b1, rfl, hk2, hb1⟩
  replace hk := hk.call0 hk2
  clear hk2
  cases b1 with
  | false =>
    go_wp2_with (first | ((with_reducible show wpList _ _ _ _ _ _); refine wpl_want rfl ?_) | (go_at_call 5; refine (first10_any _ (HL.out _ hk.bare) (HI.out _ hk.bare)).mono ?_; rintro e wf ⟨rfl, hkf⟩; replace hk := hk.call0 hkf))
    go_ret
    exact ⟨rfl, hk.below⟩
  | true =>
  obtain ⟨hl40, hl15, hl60⟩ := hb1 rfl
  clear hb1
  by_cases hn1 : n < 1
  · have d1 : decide (n < 1) = true := decide_eq_true hn1
    go_wp2_with (first | ((with_reducible show wpList _ _ _ _ _ _); refine wpl_want rfl ?_) | (go_at_call 5; refine (first10_any _ (HL.out _ hk.bare) (HI.out _ hk.bare)).mono ?_; rintro e wf ⟨rfl, hkf⟩; replace hk := hk.call0 hkf))
    go_ret
    exact ⟨rfl, hk.below⟩
  by_cases hn2 : 20 < n
  · have d1 : decide (n < 1) = false := decide_eq_false hn1
    have d2 : decide (20 < n) = true := decide_eq_true hn2
    go_wp2_with (first | ((with_reducible show wpList _ _ _ _ _ _); refine wpl_want rfl ?_) | (go_at_call 5; refine (first10_any _ (HL.out _ hk.bare) (HI.out _ hk.bare)).mono ?_; rintro e wf ⟨rfl, hkf⟩; replace hk := hk.call0 hkf))
    go_ret
    exact ⟨rfl, hk.below⟩
  have d1 : decide (n < 1) = false := decide_eq_false hn1
  have d2 : decide (20 < n) = false := decide_eq_false hn2
  obtain ⟨k, rfl⟩ : ∃ k : Nat, n = (k : Int) := ⟨n.toNat, by omega⟩
  have hk20 : k ≤ 20 := by omega
  have hk1 : 1 ≤ k := by omega
  clear wn hn1 hn2
  have HW := Mx.hid (pwrite_any _ l w2 (LL.old hk HV.out) (by omega) (fun x hx => by have := hl15 x hx; omega) (HL.out _ hk.bare) (HI.out _ hk.bare))
  have HPS := Mx.hid (pack_size (l := l) (fun x hx => by have := hl15 x hx; omega) (by omega))
  have H15 := Mx.hid hl15
  clear hl15 hl60
  go_wp2_with (first | ((with_reducible show wpList _ _ _ _ _ _); refine wpl_want rfl ?_))
  clear d1 d2
  refine HW.out.mono ?_
  unfold PkwPost
  rintro e w3 (⟨hme, vb, rfl, hkb⟩ | ⟨_, rfl, hkb⟩)
  case inr =>
    replace hk := hk.call0 hkb
    go_wp2_with (first | ((with_reducible show wpList _ _ _ _ _ _); refine wpl_want rfl ?_) | (go_at_call 5; refine (first10_any _ (HL.out _ hk.bare) (HI.out _ hk.bare)).mono ?_; rintro e wf ⟨rfl, hkf⟩; replace hk := hk.call0 hkf))
    go_ret
    exact ⟨rfl, hk.below⟩
  have HME := Mx.hid hme
  replace hk := hk.call1 hkb
  obtain ⟨bo, bc, rfl, _⟩ := id hkb.sl0
  clear hkb hme HW
  generalize packL l = B at *
  go_wp2_with fail
  go_loopw [7, 8] (fun x y wr => ∃ (i : Nat) (T : Int), x = .int .i64 T ∧ y = .int .i64 i ∧ i ≤ l.length ∧ 0 ≤ T ∧ T ≤ 200 + 1500 * (i : Int) ∧ Hid (T = 37 + 4 * l.length + (((l.take i).map List.length).sum : Nat)) ∧ w3 = wr) (fun _ y _ => l.length - (intOf y).toNat)
  case atStart => exact ⟨0, _, rfl, rfl, by omega, by omega, by omega, Mx.hid (by simp), rfl⟩
  case round =>
    obtain ⟨i, T, rfl, rfl, hi, hT0, hT1, HT, rfl⟩ := hrel
    by_cases hlt : i < l.length
    · obtain ⟨rfl, a0⟩ := HC.out i hlt
      have hx := HS.out i hlt
      have hz := H15.out _ (List.getElem_mem hlt)
      obtain ⟨xo, xc, hu, _⟩ := hx.form
      rw [hu] at a0
      replace a0 := hk.keep a0
      have HTS := Mx.hid (show ((l.take (i + 1)).map List.length).sum = ((l.take i).map List.length).sum + l[i].length by rw [List.take_succ_eq_append_getElem hlt, List.map_append, List.sum_append]; simp)
      clear hx hu
      generalize l[i].length = z at *
      go_wp2_with fail
      exact ⟨⟨i + 1, _, rfl, by go_num, by omega, by omega, by omega, Mx.hid (by have h1 := HT.out; rw [HTS.out]; omega), by trivial⟩, by simp [intOf]; omega⟩
    · obtain rfl : i = l.length := by omega
      have hB : (B.length : Int) ≤ T := by
        have h1 := HT.out
        have h2 := HPS.out
        rw [List.take_length] at h1
        omega
      have d3 : decide (T < (B.length : Int)) = false := decide_eq_false (by omega)
      clear HT HPS hB hlt hi hT0 hT1
      cases l with
      | nil =>
        go_wp2_with (first | ((with_reducible show wpList _ _ _ _ _ _); refine wpl_want rfl ?_) | (go_at_call 5; refine (first10_any _ (HL.out _ hk.bare) (HI.out _ hk.bare)).mono ?_; rintro e wf ⟨rfl, hkf⟩; replace hk := hk.call0 hkf))
        go_ret
        exact ⟨rfl, hk.below⟩
      | cons x0 l' =>
      obtain ⟨rfl, a0⟩ := HC.out 0 (by simp)
      have hx := HS.out 0 (by simp)
      rw [List.getElem_cons_zero] at hx
      obtain ⟨xo, xc, hu, _⟩ := hx.form
      rw [hu, Nat.add_zero] at a0
      rw [hu] at hx
      have hxz : x0.length ≤ 1500 := H15.out x0 (List.mem_cons_self ..)
      have a1 := hk.keep a0
      have HX := Mx.hid hx
      have HA := Mx.hid a0
      have hl1 : ((x0 :: l').length : Int) = (l'.length : Int) + 1 := by simp
      have hl2 : ¬ ((x0 :: l').length = 0) := by simp
      have hl0 : (0 : Int) < ((x0 :: l').length : Int) := by omega
      have hl3 : (((x0 :: l').length : Int) == 0) = false := by rw [hl1]; simp; omega
      clear hl1 hl2 hu hx a0 HS HV HC H15 h1 h2
      generalize (x0 :: l').length = ll at *
      by_cases h20 : x0.length < 20
      · have e1 : decide ((x0.length : Int) < 20) = true := decide_eq_true (by omega)
        go_wp2_with (first | ((with_reducible show wpList _ _ _ _ _ _); refine wpl_want rfl ?_) | (go_at_call 5; refine (first10_any _ (HL.out _ hk.bare) (HI.out _ hk.bare)).mono ?_; rintro e wf ⟨rfl, hkf⟩; replace hk := hk.call0 hkf))
        go_ret
        exact ⟨rfl, hk.below⟩
      · have e1 : decide ((x0.length : Int) < 20) = false := decide_eq_false (by omega)
        have hk0 := hk.addNil 25 1
        go_wp2_with (first | ((with_reducible show wpList _ _ _ _ _ _); refine wpl_want rfl ?_))
        go_loopw [9, 10] (fun x y wr => ∃ i : Nat, y = .int .i64 i ∧ i ≤ k ∧ St w wr [⟨x, 25, 1, i, List.replicate i (.slice xo x0.length xc)⟩, pbr (.slice bo B.length bc) B] []) (fun _ y _ => k - (intOf y).toNat)
        case atStart => exact ⟨0, rfl, by omega, hk0⟩
        case round =>
          clear hk0 a1 hk
          obtain ⟨i, rfl, hi, hk⟩ := hrel
          have a1 := hk.keep HA.out
          by_cases hlt : i < k
          · have hik : (i : Int) < (k : Int) := by omega
            go_wp2_with (at_builtin; refine wpl_app rfl _ _ 22 rfl Tryd.elBs (hk.alloc _) rfl (by exact Sl.one _ _ _) (by intro u hu; simp at hu; subst hu; rfl) (by omega) ?_; intro v6 w6 hs6 _)
            go_roundw
            case rel => exact ⟨i + 1, by go_num, by omega, hs6.cast rfl (by rw [List.replicate_succ'])⟩
            case measure => simp [intOf]; omega
          · obtain rfl : i = k := by omega
            have hLL : LL wr _ (List.replicate i x0) := LL.rep hk.sl0 (hk.old HX.out)
            have HW := Mx.hid (pwrite_any _ (List.replicate i x0) wr hLL (by simp; omega) (fun x hx => by rw [List.eq_of_mem_replicate hx]; omega) (HL.out _ hk.bare) (HI.out _ hk.bare))
            have HPS := Mx.hid (pack_same (x := x0) (by omega) (by omega) hk1 (n := i) (by omega))
            have HM2 := Mx.hid (mayE_rep HME.out (List.mem_cons_self ..) i)
            clear hLL a1
            go_wp2_with (first | ((with_reducible show wpList _ _ _ _ _ _); refine wpl_want rfl ?_))
            refine HW.out.mono ?_
            unfold PkwPost
            rintro e w4 (⟨_, vc, rfl, hkc⟩ | ⟨h4, _⟩)
            case inr => rw [HM2.out] at h4; cases h4
            replace hk := hk.call1 hkc
            obtain ⟨co, cc, rfl, _⟩ := id hkc.sl0
            clear hkc HW
            generalize packL (List.replicate i x0) = C at *
            obtain ⟨q, hq⟩ : ∃ q, (i + 8) / 9 = q := ⟨_, rfl⟩
            have hq3 : q ≤ 3 := by omega
            obtain ⟨M, hM⟩ : ∃ M, (x0.length + 4) * q = M := ⟨_, rfl⟩
            have hM5 : M ≤ 4512 := by rw [← hM]; have := Nat.mul_le_mul (show x0.length + 4 ≤ 1504 by omega) hq3; omega
            have hle := HPS.out
            rw [hq, hM] at hle
            have t1 : ((i : Int) + 8) / 9 = (q : Int) := by omega
            have t1' : ((i : Int) + 8).tdiv 9 = (q : Int) := by rw [Int.tdiv_eq_ediv_of_nonneg (by omega)]; exact t1
            have t2 : ((x0.length : Int) + 4) * (q : Int) = (M : Int) := by rw [← hM]; push_cast; rfl
            have t3 : decide ((C.length : Int) ≤ 37 + (M : Int) + 12 * (i : Int)) = true := decide_eq_true (by omega)
            have a1 := hk.keep HA.out
            have HK := Mx.hid hk
            clear HPS hM hq hle hk
            generalize x0.length = z at *
            generalize C.length = c at *
            go_wp2_with (first | ((with_reducible show wpList _ _ _ _ _ _); refine wpl_want rfl ?_) | ((go_at_call 5; refine (first10_any _ (HL.out _ HK.out.bare) (HI.out _ HK.out.bare)).mono ?_; rintro e wf ⟨rfl, hkf⟩; replace a1 := hkf.keep a1)))
            go_ret
            exact ⟨rfl, (HK.out.call0 hkf).below⟩
end Go.Proofs.YtlfdnlomlbbicaaDoor
