/- marlaw1.ShaLike. -/
import Derived.Test.YtdcleibbldmnaaaDoorShaU
import Derived.Test.YtdcleibbldmnaaaDoorShaY
namespace Go.Proofs.YtdcleibbldmnaaaDoor
open Go.RowKit Go.Mx

/-- x[i:j] of a slice that reads as bytes. -/
theorem cutM {w : World} {v : Value} {l : List UInt8} (h : Sl w 1 v l.length (bs l)) {i j : Nat} (hi : i ≤ j) (hj : j ≤ l.length) :
    ∃ x, (∀ w', (Instr.sliceAt 22 v (some (.int .i64 (i : Int))) (some (.int .i64 (j : Int))) none).run Tryd.prog w' = .ok x w') ∧ ∀ w', Sl w' 1 v l.length (bs l) → Sl w' 1 x ((l.take j).drop i).length (bs ((l.take j).drop i)) := by
  obtain ⟨x, p, q⟩ := h.cutRun Tryd.elU8 (some (.int .i64 (i : Int))) (some (.int .i64 (j : Int))) i j (.inr ⟨.i64, rfl⟩) (.inr ⟨.i64, rfl⟩) hi hj
  exact ⟨x, p, fun w' h' => Sl.cutB (q _ h') hj hi⟩

set_option maxRecDepth 100000 in
set_option maxHeartbeats 2000000 in
theorem shaLikeRow (vb : Value) (b : List UInt8) {w : World} (hb : Sl w 1 vb b.length (bs b)) (n : Int) (hn : (Lit.int .i64 n).wf = true) (_w : World) (hL : Laid w) :
    Calls Tryd.prog 6 #[vb, .int .i64 n] w fun e w' => e = .returned (.bool true) ∧ Below w.heap.size w w' := by
  have HB := Mx.hid hb
  have HL := Mx.hid (fun w' (R : List Row) (Q : List Rd) (h : St w w' R Q) => hL.keep h)
  obtain ⟨bo, bc, rfl, _⟩ := id hb
  clear hb
  go_enter Tryd.func6, Tryd.ntmps6
  go_wp2_with fail
  refine (first_any _ hL).mono ?_
  rintro e w1 ⟨rfl, hs1⟩
  clear hL
  have hend : Calls Tryd.prog 9 #[] w1 fun e w' => e = .returned (.bool true) ∧ St w w' [] [] := (first_any _ (HL.out _ _ _ hs1)).mono fun _ _ h => ⟨h.1, hs1.call0 h.2⟩
  have HE := Mx.hid hend
  clear hend
  have hb0 : (6000 : Int) < (b.length : Int) ∨ ¬ (6000 : Int) < (b.length : Int) := by omega
  have hn0 : n < 1 ∨ ¬ n < 1 := by omega
  have hn1 : (64 : Int) < n ∨ ¬ (64 : Int) < n := by omega
  rcases hb0 with b1 | b1
  · go_wp2_with fail
    refine HE.out.mono ?_
    rintro e w2 ⟨rfl, hs2⟩
    go_wp2_with fail
    go_ret
    exact ⟨rfl, hs2.below⟩
  rcases hn0 with b2 | b2
  · go_wp2_with (first | ((with_reducible show wpList _ _ _ _ _ _); refine wpl_want rfl ?_))
    refine HE.out.mono ?_
    rintro e w2 ⟨rfl, hs2⟩
    go_wp2_with fail
    go_ret
    exact ⟨rfl, hs2.below⟩
  rcases hn1 with b3 | b3
  · go_wp2_with (first | ((with_reducible show wpList _ _ _ _ _ _); refine wpl_want rfl ?_))
    refine HE.out.mono ?_
    rintro e w2 ⟨rfl, hs2⟩
    go_wp2_with fail
    go_ret
    exact ⟨rfl, hs2.below⟩
  obtain ⟨n, rfl⟩ := Int.eq_ofNat_of_zero_le (show 0 ≤ n by omega)
  clear hn
  have hl : b.length ≤ 6000 := by omega
  go_wp2_with (first | ((with_reducible show wpList _ _ _ _ _ _); refine wpl_want rfl ?_))
  refine (newM w w1 [] [] hs1 (fun w' h => HL.out _ _ _ h)).mono ?_
  rintro e w2 ⟨g, gc, v0, rfl, hs2⟩
  have hs3 : St w w2 [HS g gc [] v0] (rst v0 [] :: [rdb (.slice bo b.length bc) b, cq gc]) :=
    (hs2.addQ (q := rdb (.slice bo b.length bc) b) HB.out).sub (List.Sublist.refl _) (fun q hq => by
      simp only [List.mem_cons, List.not_mem_nil, or_false] at hq ⊢
      rcases hq with h | h | h
      · exact .inr (.inl h)
      · exact .inl h
      · exact .inr (.inr h))
  clear hs1 hs2 HE
  go_wp2_with (first | ((with_reducible show wpList _ _ _ _ _ _); refine wpl_want rfl ?_))
  go_loopw [6] (fun z wr => ∃ (i : Nat) (v : Value), i ≤ 6064 ∧ z = .int .i64 i ∧ St w wr [HS g gc (b.take i) v] (rst v (b.take i) :: [rdb (.slice bo b.length bc) b, cq gc])) (fun z _ => b.length - (intOf z).toNat)
  case atStart => exact ⟨0, v0, by omega, rfl, hs3⟩
  case round =>
    obtain ⟨i, v, hi, rfl, hs⟩ := hrel
    by_cases hlt : i < b.length
    · have hii : (i : Int) < (b.length : Int) := by omega
      have HC := Mx.hid (hs.old HB.out)
      obtain ⟨j, hj, hj1, hj2, hj3⟩ : ∃ j : Nat, Hid (j = min (i + n) b.length) ∧ i ≤ j ∧ j ≤ b.length ∧ min ((i : Int) + (n : Int)) (b.length : Int) = (j : Int) := ⟨min (i + n) b.length, rfl, by omega, by omega, by omega⟩
      obtain ⟨x, hx, hx2⟩ := cutM HC.out hj1 hj2
      have Hx2 := Mx.hid hx2
      have hjn : j = min (i + n) b.length := hj.out
      have htk : b.take i ++ (b.take j).drop i = b.take j := by
        have e1 : b.take i = (b.take j).take i := by rw [List.take_take, Nat.min_eq_left hj1]
        rw [e1, List.take_append_drop]
      have htn : b.take (i + n) = b.take j := by
        rcases Nat.le_total (i + n) b.length with h | h
        · rw [hjn, Nat.min_eq_left h]
        · rw [hjn, Nat.min_eq_right h, List.take_of_length_le h, List.take_of_length_le (Nat.le_refl _)]
      have Htk := Mx.hid htk
      have Htn := Mx.hid htn
      have hsW : St w wr [HS g gc (b.take i) v] (rst v (b.take i) :: [rdb x ((b.take j).drop i), rdb (.slice bo b.length bc) b, cq gc]) :=
        (hs.addQ (q := rdb x ((b.take j).drop i)) (Hx2.out _ HB.out)).sub (List.Sublist.refl _) (fun q hq => by
          simp only [List.mem_cons, List.not_mem_nil, or_false] at hq ⊢
          rcases hq with h | h | h | h
          · exact .inr (.inl h)
          · exact .inl h
          · exact .inr (.inr (.inl h))
          · exact .inr (.inr (.inr h)))
      have HW := Mx.hid hsW
      have Hl1 := Mx.hid (show (b.take i).length ≤ 1000000000 by rw [List.length_take]; omega)
      have Hl2 := Mx.hid (show ((b.take j).drop i).length ≤ 1000000000 by rw [List.length_drop, List.length_take]; omega)
      have Hl3 := Mx.hid (show (b.take j).length ≤ 1000000000 by rw [List.length_take]; omega)
      have Hj := Mx.hid hjn
      clear hsW htk htn hjn hs hx2 hj
      go_wp2_with (first | ((with_reducible show wpList _ _ _ _ _ _); refine wpl_want rfl ?_))
      refine (writeM w wr [] _ g gc v x (b.take i) ((b.take j).drop i) HW.out (by simp) (by simp) Hl1.out Hl2.out).mono ?_
      rintro e w3 ⟨v1, rfl, hs4⟩
      rw [Htk.out] at hs4
      have hs5 : St w w3 [HS g gc (b.take (i + n)) v1] (rst v1 (b.take (i + n)) :: [rdb (.slice bo b.length bc) b, cq gc]) := by
        rw [Htn.out]
        exact hs4.sub (List.Sublist.refl _) (fun q hq => by
          simp only [List.mem_cons, List.not_mem_nil, or_false] at hq ⊢
          rcases hq with h | h | h
          · exact .inl h
          · exact .inr (.inr (.inl h))
          · exact .inr (.inr (.inr h)))
      clear hs4
      have n8 : ¬ (8 * (n : Int) = 0) := by omega
      have hm : (i : Int) % (8 * (n : Int)) = 0 ∨ ¬ (i : Int) % (8 * (n : Int)) = 0 := by omega
      rcases hm with hm | hm
      · have Hl4 := Mx.hid (show (b.take (i + n)).length ≤ 1000000000 by rw [List.length_take]; omega)
        go_wp2_with (first | ((with_reducible show wpList _ _ _ _ _ _); refine wpl_want rfl ?_))
        refine (sumM w w3 [] _ g gc v1 (b.take (i + n)) hs5 (by simp) Hl4.out).mono ?_
        rintro e w4 ⟨x4, rfl, hs6⟩
        have hs7 := hs6.sub (List.sublist_cons_self _ _) (fun q hq => hq)
        clear hs5 hs6
        go_wp2_with (first | ((with_reducible show wpList _ _ _ _ _ _); refine wpl_want rfl ?_))
        go_roundw
        case rel => exact ⟨i + n, v1, by omega, by go_num, hs7⟩
        case measure => simp [intOf]; omega
      · go_wp2_with (first | ((with_reducible show wpList _ _ _ _ _ _); refine wpl_want rfl ?_))
        go_roundw
        case rel => exact ⟨i + n, v1, by omega, by go_num, hs5⟩
        case measure => simp [intOf]; omega
    · have hii : ¬ (i : Int) < (b.length : Int) := by omega
      rw [List.take_of_length_le (show b.length ≤ i by omega)] at hs
      clear hs3
      go_wp2_with (first | ((with_reducible show wpList _ _ _ _ _ _); refine wpl_want rfl ?_))
      refine (sumM w wr [] _ g gc v b hs (by simp) (by omega)).mono ?_
      rintro e w3 ⟨s, rfl, hs4⟩
      have HIDs := Mx.hid (fun w' h => id_any (.slice bo b.length bc) b w' h (show b.length ≤ 1000000000 by omega))
      have HCB := Mx.hid (fun w' h => copyBytes_any (.slice bo b.length bc) b w' h (show b.length ≤ 140737488355328 by omega))
      have HSM := Mx.hid (fun w' v' h => sum_any w' v' b h (show b.length ≤ 1000000000 by omega))
      have hd := sha_len b
      generalize hdd : sha b = d at *
      have HDD := Mx.hid hdd
      clear hdd hs
      have HI := Mx.hid (show (str (hexL d)).data.toList = hexL d by simp [str])
      have HIs : (str (hexL d)).size = 64 := by
        have e1 : (str (hexL d)).size = (hexL d).length := rfl
        rw [e1, hexL_len, hd]
      have HH := Mx.hid (fun w' v' h => shex_any v' d w' h (show d.length ≤ 1000000000 by omega))
      generalize str (hexL d) = t at *
      go_wp2_with (first | ((with_reducible show wpList _ _ _ _ _ _); refine wpl_want rfl ?_))
      refine (HIDs.out w3 (hs4.old HB.out) (fun w' h => HL.out _ _ _ (hs4.call0 h))).mono ?_
      rintro e w4 ⟨rfl, hk4⟩
      have hs5 := hs4.call0 hk4
      clear hs4 hk4
      go_wp2_with (first | ((with_reducible show wpList _ _ _ _ _ _); refine wpl_want rfl ?_))
      refine (sunhex_any t w4 (by omega)).mono ?_
      rintro e w5 ⟨u, rfl, hk5⟩
      rw [HI.out, unhexL_hexL] at hk5
      rw [HI.out, unhexL_hexL]
      have hk5 : St w4 w5 [byr u d] [] := hk5
      have hs6 := hs5.call1 hk5
      clear hs5 hk5
      go_wp2_with (first | ((with_reducible show wpList _ _ _ _ _ _); refine wpl_want rfl ?_))
      refine (first_any _ (HL.out _ _ _ hs6)).mono ?_
      rintro e w6 ⟨rfl, hk6⟩
      have hs7 := hs6.call0 hk6
      clear hs6 hk6
      go_wp2_with (first | ((with_reducible show wpList _ _ _ _ _ _); refine wpl_want rfl ?_))
      refine (HCB.out w6 (hs7.old HB.out)).mono ?_
      rintro e w7 ⟨c, rfl, hk7⟩
      have hs8 := hs7.call1 hk7
      clear hs7 hk7
      go_wp2_with (first | ((with_reducible show wpList _ _ _ _ _ _); refine wpl_want rfl ?_))
      refine (HSM.out w7 c hs8.sl0 (fun w' h => HL.out _ _ _ (hs8.call0 h))).mono ?_
      rintro e w8 ⟨y, rfl, hk8⟩
      have hk8 : St w7 w8 [byr y d] [] := hk8.cast hd.symm rfl
      have hs9 := hs8.call1 hk8
      clear hs8 hk8
      go_wp2_with (first | ((with_reducible show wpList _ _ _ _ _ _); refine wpl_want rfl ?_))
      refine (bytes_any s y d d w8 (hs9.sl (r := byr s d) (by simp)) (hs9.sl (r := byr y d) (by simp))).mono ?_
      rintro e w' ⟨rfl, rfl⟩
      rw [decide_eq_true rfl]
      go_wp2_with (first | ((with_reducible show wpList _ _ _ _ _ _); refine wpl_want rfl ?_))
      refine (bytes_any u s d d w8 (hs9.sl (r := byr u d) (by simp)) (hs9.sl (r := byr s d) (by simp))).mono ?_
      rintro e w' ⟨rfl, rfl⟩
      rw [decide_eq_true rfl]
      go_wp2_with (first | ((with_reducible show wpList _ _ _ _ _ _); refine wpl_want rfl ?_))
      refine (HH.out w8 s (hs9.sl (r := byr s d) (by simp))).mono ?_
      rintro e w9 ⟨rfl, hk9⟩
      have hsA := hs9.call0 hk9
      clear hs9 hk9
      go_wp2_with (first | ((with_reducible show wpList _ _ _ _ _ _); refine wpl_want rfl ?_))
      refine (HIDs.out w9 (hsA.old HB.out) (fun w' h => HL.out _ _ _ (hsA.call0 h))).mono ?_
      rintro e wA ⟨rfl, hkA⟩
      have hsB := hsA.call0 hkA
      clear hsA hkA
      have hsC := hsB.perm (List.reverse_perm [HS g gc b v, byr s d, byr u d, byr c b, byr y d])
      clear hsB
      go_wp2_with (first | ((with_reducible show wpList _ _ _ _ _ _); refine wpl_want rfl ?_))
      refine (lenM w wA _ _ g gc v b hsC).mono ?_
      rintro e w' ⟨rfl, rfl⟩
      go_wp2_with (first | ((with_reducible show wpList _ _ _ _ _ _); refine wpl_want rfl ?_))
      go_ret
      exact ⟨rfl, hsC.below⟩
end Go.Proofs.YtdcleibbldmnaaaDoor
