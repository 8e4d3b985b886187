/- marlaw1.ShaPieces. -/
import Derived.Test.YtcgdpchekmapfaaDoorRSum
import Derived.Test.YtcgdpchekmapfaaDoorShaLO
namespace Go.Mx
open Go Go.RowKit
/-- What the first i pieces sum to, each counted as at most 6001. -/
def sums (l : List (List UInt8)) : Nat := (l.map fun x => min x.length 6001).sum
theorem sums_snoc {l : List (List UInt8)} {i : Nat} (h : i < l.length) : sums (l.take (i + 1)) = sums (l.take i) + min l[i].length 6001 := by
  unfold sums
  rw [List.take_succ_eq_append_getElem h, List.map_append, List.sum_append]
  simp
theorem sums_le (l : List (List UInt8)) : sums l ≤ 6001 * l.length := by
  unfold sums
  induction l with
  | nil => simp
  | cons x l ih => simp only [List.map_cons, List.sum_cons, List.length_cons]; omega
theorem sums_flat {l : List (List UInt8)} (h : sums l ≤ 6000) : ∀ i, (l.take i).flatten.length ≤ 6000 := by
  intro i
  have key : ∀ m : List (List UInt8), sums m ≤ 6000 → m.flatten.length = sums m := by
    intro m
    unfold sums
    induction m with
    | nil => simp
    | cons x m ih =>
      intro hm
      simp only [List.map_cons, List.sum_cons] at hm ⊢
      rw [List.flatten_cons, List.length_append, ih (by omega)]
      omega
  have hsub : sums (l.take i) ≤ sums l := by
    have e : l = l.take i ++ l.drop i := (List.take_append_drop i l).symm
    have : sums l = sums (l.take i) + sums (l.drop i) := by
      unfold sums
      conv => lhs; rw [e]
      rw [List.map_append, List.sum_append]
    omega
  rw [key _ (by omega)]
  omega
theorem flat_snoc {l : List (List UInt8)} {i : Nat} (h : i < l.length) : (l.take (i + 1)).flatten = (l.take i).flatten ++ l[i] := by
  rw [List.take_succ_eq_append_getElem h, List.flatten_append]
  simp
theorem incs_set {X : List UInt8} {i : Nat} (h : i < X.length) : ((X.take i).map (· + 1) ++ X.drop i).set i (X[i] + 1) = (X.take (i + 1)).map (· + 1) ++ X.drop (i + 1) := by
  rw [List.set_append_right _ _ (by simp; omega), List.take_succ_eq_append_getElem h, List.map_append]
  have e : (i - (List.map (· + 1) (X.take i)).length) = 0 := by simp; omega
  rw [e, List.drop_eq_getElem_cons h, List.set_cons_zero]
  simp
theorem incs_get {X : List UInt8} {i : Nat} (h : i < X.length) : ∃ hl : i < ((X.take i).map (· + 1) ++ X.drop i).length, ((X.take i).map (· + 1) ++ X.drop i)[i] = X[i] := by
  refine ⟨by simp; omega, ?_⟩
  rw [List.getElem_append_right (by simp; omega)]
  simp [Nat.min_eq_left (Nat.le_of_lt h)]
end Go.Mx
namespace Go.Proofs.YtcgdpchekmapfaaDoor
open Go.RowKit Go.Mx

theorem Mx.readsP {w0 w : World} {R : List Row} {Q Q' : List Rd} (h : St w0 w R Q) (hq : ∀ q ∈ Q', q ∈ Q) : St w0 w R Q' := h.sub (List.Sublist.refl _) hq

theorem writeME (w0 w : World) (R : List Row) (Q : List Rd) (g gc : Nat) (m : List UInt8) (v vb : Value) (b : List UInt8) (hs : St w0 w (HS g gc m v :: R) (rst v m :: Q)) (hq : cq gc ∈ Q) (hb : byr vb b ∈ R) (hm : m.length ≤ 140737488351232) (hbl : b.length ≤ 140737488351232) :
    Calls Tryd.prog 17 #[.pointer (some ⟨g, 0, none⟩), vb] w (WriteM w0 R Q g gc (m ++ b)) :=
  (write_anyE w0 w R Q g gc (eatS I8 m) v vb m.length (eatR m) b hs hq (.inr hb) (by have := eatR_lt m; omega) hbl hm).mono fun e w' ⟨v', he, h⟩ => ⟨v', he, by
    have e1 := eatS_app I8 m b
    have e2 := eatR_app m b
    rw [← e1, ← e2, ← List.length_append] at h
    exact h⟩

set_option maxRecDepth 100000 in
set_option maxHeartbeats 4000000 in
theorem shaPiecesRow (vl : Value) (l : List (List UInt8)) {w : World} (hl : LL w vl l) (_w : World) (hL : Laid w) :
    Calls Tryd.prog 4 #[vl] w fun e w' => e = .returned (.bool true) ∧ Below w.heap.size w w' := by
  obtain ⟨lo, lc, blk, off, us, rfl, _, hlc, hcc, hss⟩ := hl.at
  have HL := Mx.hid (fun w' (R : List Row) (Q : List Rd) (h : St w w' R Q) => hL.keep h)
  have HC := Mx.hid hcc
  have HU := Mx.hid hss
  clear hl hcc hss
  go_enter Tryd.func4, Tryd.ntmps4
  go_wp2_with fail
  refine (first_any _ hL).mono ?_
  rintro e w1 ⟨rfl, hs1⟩
  clear hL
  go_wp2_with fail
  refine (newM w w1 [] [] hs1 (fun w' h => HL.out _ _ _ h)).mono ?_
  rintro e w2 ⟨g, gc, v0, rfl, hs2⟩
  clear hs1
  have HS2 := Mx.hid hs2
  go_wp2_with fail
  go_loop [4, 5] (fun x y => ∃ i : Nat, i ≤ l.length ∧ i ≤ 60 ∧ y = .int .i64 i ∧ x = .int .i64 (sums (l.take i) : Nat)) (fun _ y => 60 - (intOf y).toNat)
  case atStart => exact ⟨0, by omega, by omega, rfl, rfl⟩
  case round =>
    obtain ⟨i, hi, hi60, rfl, rfl⟩ := hrel
    have hsle := sums_le (l.take i)
    rw [List.length_take] at hsle
    by_cases hlt : i < l.length ∧ i < 60
    · obtain ⟨hlt, h60⟩ := hlt
      have d1 : decide ((i : Int) < 60) = true := decide_eq_true (by omega)
      obtain ⟨rfl, c0⟩ := HC.out i hlt
      have c1 := hs2.keep c0
      obtain ⟨xo, xc, hx, _⟩ := HU.out i hlt
      rw [hx] at c1
      have HSN := Mx.hid (sums_snoc hlt)
      have hmin : min (l[i].length : Int) 6001 = ((min l[i].length 6001 : Nat) : Int) := by omega
      have hmle : min l[i].length 6001 ≤ 6001 := Nat.min_le_right _ _
      have hb1 : sums (l.take i) ≤ 1000000 := by omega
      generalize min l[i].length 6001 = mm at *
      generalize sums (l.take i) = sm at *
      generalize l[i].length = ll at *
      clear hsle
      go_wp2_with (first | ((with_reducible show wpList _ _ _ _ _ _); refine wpl_want rfl ?_))
      go_round
      case rel => exact ⟨i + 1, by omega, by omega, by go_num, by rw [HSN.out]; go_num⟩
      case measure => simp [intOf]; omega
    · have hend : Calls Tryd.prog 15 #[] w2 fun e w' => e = .returned (.bool true) ∧ St w w' [] [] := (first_any _ (HL.out _ _ _ HS2.out)).mono fun _ _ h => ⟨h.1, HS2.out.bare.call0 h.2⟩
      have HE := Mx.hid hend
      clear hend hs2
      by_cases h60 : 60 < l.length
      · obtain rfl : i = 60 := by omega
        have b1 : (60 : Int) < (l.length : Int) := by omega
        clear hsle hlt
        go_wp2_with (first | ((with_reducible show wpList _ _ _ _ _ _); refine wpl_want rfl ?_))
        refine HE.out.mono ?_
        rintro e w3 ⟨rfl, hs3⟩
        go_wp2_with (first | ((with_reducible show wpList _ _ _ _ _ _); refine wpl_want rfl ?_))
        go_ret
        exact ⟨rfl, hs3.below⟩
      · obtain rfl : i = l.length := by omega
        have b1 : ¬ (60 : Int) < (l.length : Int) := by omega
        rw [List.take_length]
        rw [Nat.min_self, List.take_length] at hsle
        clear hlt
        by_cases hbig : 6000 < sums l
        · have b2 : (6000 : Int) < (sums l : Int) := by omega
          generalize sums l = sm at *
          go_wp2_with (first | ((with_reducible show wpList _ _ _ _ _ _); refine wpl_want rfl ?_))
          refine HE.out.mono ?_
          rintro e w3 ⟨rfl, hs3⟩
          go_wp2_with (first | ((with_reducible show wpList _ _ _ _ _ _); refine wpl_want rfl ?_))
          go_ret
          exact ⟨rfl, hs3.below⟩
        · have b2 : ¬ (6000 : Int) < (sums l : Int) := by omega
          have HFL := Mx.hid (sums_flat (show sums l ≤ 6000 by omega))
          clear hsle
          generalize sums l = sm at *
          have hs3 := Mx.readsP (Q' := [rst v0 [], cq gc]) (HS2.out.addNil 5 1) (by simp)
          have HS3 := Mx.hid hs3
          clear hs3 HS2 HE hbig
          go_wp2_with (first | ((with_reducible show wpList _ _ _ _ _ _); refine wpl_want rfl ?_))
          go_loopw [6, 7] (fun x y wr => ∃ (i : Nat) (v : Value), i ≤ l.length ∧ y = .int .i64 i ∧ St w wr [byr x (l.take i).flatten, HS g gc (l.take i).flatten v] [rst v (l.take i).flatten, cq gc]) (fun _ y _ => l.length - (intOf y).toNat)
          case atStart => exact ⟨0, v0, by omega, rfl, HS3.out⟩
          case round =>
            obtain ⟨i, v, hi, rfl, hs⟩ := hrel
            clear HS3
            have HM := Mx.hid (HFL.out i)
            by_cases hlt : i < l.length
            · obtain ⟨rfl, c0⟩ := HC.out i hlt
              have c1 := hs.keep c0
              have C0 := Mx.hid c0
              have HX := Mx.hid (HU.out i hlt)
              obtain ⟨xo, xc, hx, _⟩ := HX.out
              rw [hx] at c1 C0 HX
              have HM2 := Mx.hid (HFL.out (i + 1))
              have hf := flat_snoc hlt
              have HI := Mx.hid (show i + 1 ≤ l.length by omega)
              have hll : l[i].length ≤ 6000 := by have := HM2.out; rw [hf, List.length_append] at this; omega
              generalize l[i] = li at *
              generalize hfm : (l.take i).flatten = M at *
              generalize hfm2 : (l.take (i + 1)).flatten = M2 at *
              have HF := Mx.hid hf
              have HFM2 := Mx.hid hfm2
              clear hf hfm hfm2 c0 hx
              go_wp2_with fail
              refine (copyBytes_any _ li wr (hs.old HX.out) (by omega)).mono ?_
              rintro e w3 ⟨vi, rfl, hk3⟩
              have hs4 := (hs.call1 hk3).perm (List.perm_append_comm (l₁ := [byr vi li, byr _ M]) (l₂ := [HS g gc M v]))
              clear hs hk3 c1
              obtain ⟨vo, vc, rfl, _⟩ := id (show Sl _ 1 vi li.length (bs li) from hs4.sl (r := byr vi li) (by simp))
              go_wp2_with fail
              refine (writeME w w3 _ [cq gc] g gc M v _ li hs4 (by simp) (by simp) (by have := HM.out; omega) (by omega)).mono ?_
              rintro e w4 ⟨v1, rfl, hs5⟩
              rw [← HF.out] at hs5
              have hs6 := hs5.swap
              clear hs4 hs5
              have HS6 : Hid (St w w4 [⟨.slice vo li.length vc, 5, 1, li.length, bs ((li.take 0).map (· + 1) ++ li.drop 0)⟩, HS g gc M2 v1, _] [rst v1 M2, cq gc]) := Mx.hid hs6
              clear hs6
              go_wp2_with fail
              go_loopw [9] (fun z wx => ∃ k : Nat, k ≤ li.length ∧ z = .int .i64 k ∧ St w wx [⟨.slice vo li.length vc, 5, 1, li.length, bs ((li.take k).map (· + 1) ++ li.drop k)⟩, HS g gc M2 v1, byr _ M] [rst v1 M2, cq gc]) (fun z _ => li.length - (intOf z).toNat)
              case atStart => exact ⟨0, by omega, rfl, HS6.out⟩
              case round =>
                obtain ⟨k, hk, rfl, hs⟩ := hrel
                clear HS6
                by_cases hkl : k < li.length
                · obtain ⟨gi, ci, hv, _, _, hc1, hc2⟩ := hs.form0 (by omega)
                  obtain ⟨rfl, rfl⟩ : vo = some ⟨gi, 0, none⟩ ∧ vc = ci := by simpa using hv
                  obtain ⟨hk2, hke⟩ := incs_get hkl
                  have c2 : wr.cell? ⟨gi, k, none⟩ = some (.int .u8 (li[k].toNat : Int)) := by rw [← hke]; exact hs.cell (bs_get hk2)
                  have HINC := Mx.hid (bs_inc hk2)
                  have HSET := Mx.hid (incs_set hkl)
                  have HK2 := Mx.hid (show k < (bs ((li.take k).map (· + 1) ++ li.drop k)).length by rw [bs_len]; exact hk2)
                  rw [hke] at HINC
                  rw [HSET.out] at HINC
                  generalize li[k] = p at *
                  clear hk2 hke hv HSET
                  go_wp2_with ((with_reducible show wpList _ _ _ _ _ _); refine wpl_store1 rfl 5 _ _ rfl hs (k) rfl (.int .u8 (((p.toNat : Int) + 1) % 256)) rfl rfl (by kernel_rfl) HK2.out rfl ?_; intro w7 ht1)
                  go_roundw
                  case rel => exact ⟨k + 1, by omega, by go_num, ht1.cast rfl HINC.out⟩
                  case measure => simp [intOf]; omega
                · obtain rfl : k = li.length := by omega
                  have hs7 := hs.tail.swap
                  clear hs hkl hk
                  have c1 := hs7.keep C0.out
                  go_wp2_with (at_builtin; refine wpl_app rfl _ _ 22 rfl Tryd.elU8 hs7 rfl (by exact hs7.old HX.out) (bs_one _) (by have := HM.out; omega) ?_; intro v7 w7 hs8 _)
                  clear c1
                  have hs9 : St w w7 [byr v7 M2, HS g gc M2 v1] [rst v1 M2, cq gc] := hs8.cast (by rw [HF.out, List.length_append]) (by rw [HF.out, bs_app])
                  clear hs7 hs8
                  obtain ⟨ao, ac, rfl, _⟩ := id (show Sl _ 1 v7 M2.length (bs M2) from hs9.sl0)
                  refine (lenM w w7 _ _ g gc v1 M2 hs9.swap).mono ?_
                  rintro e w' ⟨rfl, rfl⟩
                  have hm : (i : Int) % 4 = 3 ∨ ¬ (i : Int) % 4 = 3 := by omega
                  rcases hm with hm | hm
                  · go_wp2_with (first | ((with_reducible show wpList _ _ _ _ _ _); refine wpl_want rfl ?_))
                    refine (sumM w w7 _ _ g gc v1 M2 hs9.swap (by simp) (by have := HM2.out; omega)).mono ?_
                    rintro e w8 ⟨y, rfl, hsA⟩
                    have hd := sha_len M2
                    have HRS := Mx.hid (fun w' v' h => rsum_any v' M2 w' h (by have := HM2.out; omega))
                    generalize sha M2 = d at *
                    go_wp2_with (first | ((with_reducible show wpList _ _ _ _ _ _); refine wpl_want rfl ?_))
                    refine (HRS.out w8 _ (hsA.sl2)).mono ?_
                    rintro e w9 ⟨z, rfl, hkB⟩
                    have hkB : St w8 w9 [byr z d] [] := hkB.cast hd.symm rfl
                    have hsB := hsA.call1 hkB
                    go_wp2_with (first | ((with_reducible show wpList _ _ _ _ _ _); refine wpl_want rfl ?_))
                    refine (bytes_any y z d d w9 hsB.sl1 hsB.sl0).mono ?_
                    rintro e w' ⟨rfl, rfl⟩
                    rw [decide_eq_true rfl]
                    have hsC := hsB.tail.tail.swap
                    clear hsA hkB hsB hs9
                    go_wp2_with (first | ((with_reducible show wpList _ _ _ _ _ _); refine wpl_want rfl ?_))
                    go_roundw
                    case rel => exact ⟨i + 1, v1, HI.out, by go_num, by rw [HFM2.out]; exact hsC⟩
                    case measure => simp [intOf]; omega
                  · go_wp2_with (first | ((with_reducible show wpList _ _ _ _ _ _); refine wpl_want rfl ?_))
                    go_roundw
                    case rel => exact ⟨i + 1, v1, HI.out, by go_num, by rw [HFM2.out]; exact hs9⟩
                    case measure => simp [intOf]; omega
            · have hii : ¬ (i : Int) < (l.length : Int) := by omega
              generalize hfm : (l.take i).flatten = M at *
              have HFM := Mx.hid hfm
              clear hfm
              go_wp2_with (first | ((with_reducible show wpList _ _ _ _ _ _); refine wpl_want rfl ?_))
              refine (first_any _ (HL.out _ _ _ hs)).mono ?_
              rintro e w3 ⟨rfl, hk3⟩
              have hs4 := (hs.call0 hk3).swap
              clear hs hk3
              have HIDs := Mx.hid (fun w' v' h => sum_any w' v' M h (by have := HM.out; omega))
              have HRS := Mx.hid (fun w' v' h => rsum_any v' M w' h (by have := HM.out; omega))
              have hd := sha_len M
              go_wp2_with (first | ((with_reducible show wpList _ _ _ _ _ _); refine wpl_want rfl ?_))
              refine (sumM w w3 _ _ g gc v M hs4 (by simp) (by have := HM.out; omega)).mono ?_
              rintro e w4 ⟨y, rfl, hs5⟩
              generalize hdd : sha M = d at *
              have HDD := Mx.hid hdd
              clear hdd hs4
              go_wp2_with (first | ((with_reducible show wpList _ _ _ _ _ _); refine wpl_want rfl ?_))
              refine (HRS.out w4 _ hs5.sl2).mono ?_
              rintro e w5 ⟨z, rfl, hk6⟩
              have hk6 : St w4 w5 [byr z d] [] := hk6.cast hd.symm rfl
              have hs6 := hs5.call1 hk6
              clear hs5 hk6
              go_wp2_with (first | ((with_reducible show wpList _ _ _ _ _ _); refine wpl_want rfl ?_))
              refine (bytes_any y z d d w5 hs6.sl1 hs6.sl0).mono ?_
              rintro e w' ⟨rfl, rfl⟩
              rw [decide_eq_true rfl]
              have hs7 := hs6.tail.tail
              clear hs6
              go_wp2_with (first | ((with_reducible show wpList _ _ _ _ _ _); refine wpl_want rfl ?_))
              refine (sumM w w5 _ _ g gc v M hs7 (by simp) (by have := HM.out; omega)).mono ?_
              rintro e w6 ⟨y2, rfl, hs8⟩
              rw [HDD.out] at hs8
              clear hs7
              go_wp2_with (first | ((with_reducible show wpList _ _ _ _ _ _); refine wpl_want rfl ?_))
              refine (HIDs.out w6 _ hs8.sl2 (fun w' h => HL.out _ _ _ (hs8.call0 h))).mono ?_
              rintro e w7 ⟨z2, rfl, hk9⟩
              have hk9 : St w6 w7 [byr z2 d] [] := hk9.cast hd.symm rfl
              have hs9 := hs8.call1 hk9
              clear hs8 hk9
              go_wp2_with (first | ((with_reducible show wpList _ _ _ _ _ _); refine wpl_want rfl ?_))
              refine (bytes_any y2 z2 d d w7 hs9.sl1 hs9.sl0).mono ?_
              rintro e w' ⟨rfl, rfl⟩
              rw [decide_eq_true rfl]
              go_wp2_with (first | ((with_reducible show wpList _ _ _ _ _ _); refine wpl_want rfl ?_))
              go_ret
              exact ⟨rfl, hs9.below⟩
end Go.Proofs.YtcgdpchekmapfaaDoor
