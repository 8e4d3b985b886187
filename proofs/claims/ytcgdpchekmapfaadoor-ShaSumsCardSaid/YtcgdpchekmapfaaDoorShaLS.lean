/- marlaw1.ShaSums. -/
import Derived.Test.YtcgdpchekmapfaaDoorRID
import Derived.Test.YtcgdpchekmapfaaDoorShaU
import Derived.Test.YtcgdpchekmapfaaDoorShaY
namespace Go.Proofs.YtcgdpchekmapfaaDoor
open Go.RowKit Go.Mx

set_option maxRecDepth 100000 in
set_option maxHeartbeats 2000000 in
theorem shaSumsRow (vb : Value) (b : List UInt8) {w : World} (hb : Sl w 1 vb b.length (bs b)) (s : ByteArray) (_hsz : s.size ≤ maxLen) (_w : World) (hL : Laid w) :
    Calls Tryd.prog 7 #[vb, .string s] w fun e w' => e = .returned (.bool true) ∧ Below w.heap.size w w' := by
  have HB := Mx.hid hb
  have HL := Mx.hid (fun w' (R : List Row) (Q : List Rd) (h : St w w' R Q) => hL.keep h)
  obtain ⟨bo, bc, rfl, _⟩ := id hb
  clear hb
  go_enter Tryd.func7, Tryd.ntmps7
  go_wp2_with fail
  refine (first_any _ hL).mono ?_
  rintro e w1 ⟨rfl, hs1⟩
  clear hL
  have hend : Calls Tryd.prog 15 #[] w1 fun e w' => e = .returned (.bool true) ∧ St w w' [] [] := (first_any _ (HL.out _ _ _ hs1)).mono fun _ _ h => ⟨h.1, hs1.call0 h.2⟩
  have HE := Mx.hid hend
  clear hend
  have g1 : (6000 : Int) < (b.length : Int) ∨ ¬ (6000 : Int) < (b.length : Int) := by omega
  have g2 : (6000 : Int) < (s.size : Int) ∨ ¬ (6000 : Int) < (s.size : Int) := by omega
  rcases g1 with b1 | b1
  · go_wp2_with fail
    refine HE.out.mono ?_
    rintro e w2 ⟨rfl, hs2⟩
    go_wp2_with fail
    go_ret
    exact ⟨rfl, hs2.below⟩
  rcases g2 with b2 | b2
  · go_wp2_with (first | ((with_reducible show wpList _ _ _ _ _ _); refine wpl_want rfl ?_))
    refine HE.out.mono ?_
    rintro e w2 ⟨rfl, hs2⟩
    go_wp2_with fail
    go_ret
    exact ⟨rfl, hs2.below⟩
  have hbl : b.length ≤ 6000 := by omega
  have hsl : s.size ≤ 6000 := by omega
  have HIDs := Mx.hid (fun v w' h => id_any v b w' h (show b.length ≤ 140737488351232 by omega))
  have HRID := Mx.hid (fun v w' h => rid_any v b w' h (show b.length ≤ 140737488351232 by omega))
  have HSM := Mx.hid (fun w' v' h => sum_any w' v' b h (show b.length ≤ 140737488351232 by omega))
  have HRS := Mx.hid (fun w' v' h => rsum_any v' b w' h (show b.length ≤ 140737488351232 by omega))
  have HHX := Mx.hid (fun w' v' h => shex_any v' b w' h (show b.length ≤ 1000000000 by omega))
  have HRH := Mx.hid (fun w' v' h => hex_any v' b w' h (show b.length ≤ 70368744177664 by omega))
  have HV := Mx.hid (fun w => valid_any s w (by omega))
  have HRV := Mx.hid (fun w => rvalid_any s w (by omega))
  have HU := Mx.hid (fun w => sunhex_any s w (by omega))
  have HRU := Mx.hid (fun w => unhex_any s w (by omega))
  have hd := sha_len b
  generalize hdd : sha b = d at *
  clear hdd
  generalize str (hexL d) = dd at *
  generalize str (hexL b) = hbb at *
  generalize (unhexL s.data.toList).any (fun r => decide (r.length = 32)) = vld at *
  generalize (unhexL s.data.toList).isSome = ok at *
  generalize (unhexL s.data.toList).getD [] = r at *
  go_wp2_with (first | ((with_reducible show wpList _ _ _ _ _ _); refine wpl_want rfl ?_))
  refine (copyBytes_any _ b w1 (hs1.old HB.out) (by omega)).mono ?_
  rintro e w2 ⟨vi, rfl, hk2⟩
  have hs2 := hs1.call1 hk2
  clear hs1 hk2 HE
  go_wp2_with (first | ((with_reducible show wpList _ _ _ _ _ _); refine wpl_want rfl ?_))
  refine (HU.out w2).mono ?_
  rintro e w3 ⟨u, rfl, hk3⟩
  have hs3 := hs2.call1 hk3
  clear hs2 hk3
  go_wp2_with (first | ((with_reducible show wpList _ _ _ _ _ _); refine wpl_want rfl ?_))
  refine (HRU.out w3).mono ?_
  rintro e w4 ⟨v, rfl, hk4⟩
  have hs4 := hs3.call1 hk4
  clear hs3 hk4
  go_wp2_with (first | ((with_reducible show wpList _ _ _ _ _ _); refine wpl_want rfl ?_))
  refine (first_any _ (HL.out _ _ _ hs4)).mono ?_
  rintro e w5 ⟨rfl, hk5⟩
  have hs5 := hs4.call0 hk5
  clear hs4 hk5
  go_wp2_with (first | ((with_reducible show wpList _ _ _ _ _ _); refine wpl_want rfl ?_))
  refine (HSM.out w5 vi hs5.sl2 (fun w' h => HL.out _ _ _ (hs5.call0 h))).mono ?_
  rintro e w6 ⟨x1, rfl, hk6⟩
  have hk6 : St w5 w6 [byr x1 d] [] := hk6.cast hd.symm rfl
  have hs6 := hs5.call1 hk6
  clear hs5 hk6
  go_wp2_with (first | ((with_reducible show wpList _ _ _ _ _ _); refine wpl_want rfl ?_))
  refine (HRS.out w6 _ (hs6.old HB.out)).mono ?_
  rintro e w7 ⟨x2, rfl, hk7⟩
  have hk7 : St w6 w7 [byr x2 d] [] := hk7.cast hd.symm rfl
  have hs7 := hs6.call1 hk7
  clear hs6 hk7
  go_wp2_with (first | ((with_reducible show wpList _ _ _ _ _ _); refine wpl_want rfl ?_))
  refine (bytes_any x1 x2 d d w7 hs7.sl1 hs7.sl0).mono ?_
  rintro e w' ⟨rfl, rfl⟩
  rw [decide_eq_true rfl]
  have hs8 : St w w7 [byr v r, byr u r, byr vi b] [] := hs7.tail.tail
  clear hs7
  go_wp2_with (first | ((with_reducible show wpList _ _ _ _ _ _); refine wpl_want rfl ?_))
  refine (HHX.out w7 vi hs8.sl2).mono ?_
  rintro e w8 ⟨rfl, hk9⟩
  have hs9 := hs8.call0 hk9
  clear hs8 hk9
  go_wp2_with (first | ((with_reducible show wpList _ _ _ _ _ _); refine wpl_want rfl ?_))
  refine (HRH.out w8 _ (hs9.old HB.out)).mono ?_
  rintro e w9 ⟨rfl, hkA⟩
  have hsA := hs9.call0 hkA
  clear hs9 hkA
  go_wp2_with (first | ((with_reducible show wpList _ _ _ _ _ _); refine wpl_want rfl ?_))
  refine (HIDs.out vi w9 hsA.sl2 (fun w' h => HL.out _ _ _ (hsA.call0 h))).mono ?_
  rintro e wA ⟨rfl, hkB⟩
  have hsB := hsA.call0 hkB
  clear hsA hkB
  go_wp2_with (first | ((with_reducible show wpList _ _ _ _ _ _); refine wpl_want rfl ?_))
  refine (HRID.out _ wA (hsB.old HB.out)).mono ?_
  rintro e wB ⟨rfl, hkC⟩
  have hsC := hsB.call0 hkC
  clear hsB hkC
  go_wp2_with (first | ((with_reducible show wpList _ _ _ _ _ _); refine wpl_want rfl ?_))
  refine (bytes_any u v r r wB hsC.sl1 hsC.sl0).mono ?_
  rintro e w' ⟨rfl, rfl⟩
  rw [decide_eq_true rfl]
  go_wp2_with (first | ((with_reducible show wpList _ _ _ _ _ _); refine wpl_want rfl ?_))
  refine (HV.out wB).mono ?_
  rintro e wC ⟨rfl, hkD⟩
  have hsD := hsC.call0 hkD
  clear hsC hkD
  go_wp2_with (first | ((with_reducible show wpList _ _ _ _ _ _); refine wpl_want rfl ?_))
  refine (HRV.out wC).mono ?_
  rintro e wD ⟨rfl, hkE⟩
  have hsE := hsD.call0 hkE
  clear hsD hkE
  go_wp2_with (first | ((with_reducible show wpList _ _ _ _ _ _); refine wpl_want rfl ?_))
  refine (bytes_any vi _ b b wD hsE.sl2 (hsE.old HB.out)).mono ?_
  rintro e w' ⟨rfl, rfl⟩
  rw [decide_eq_true rfl]
  go_wp2_with (first | ((with_reducible show wpList _ _ _ _ _ _); refine wpl_want rfl ?_))
  go_ret
  exact ⟨rfl, hsE.below⟩
end Go.Proofs.YtcgdpchekmapfaaDoor
