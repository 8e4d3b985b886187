/- marlaw1.ShaBack. -/
import Derived.Test.YtdcleibbldmnaaaDoorShaU
import Derived.Test.YtdcleibbldmnaaaDoorShaY
namespace Go.Mx
open Go Go.RowKit
theorem dig_hexI (c : UInt8) (h : ¬ hexI c < 0) : dig (hexI c).toNat = c := by
  have q : ∀ n : Nat, n < 256 → ¬ hexI (UInt8.ofNat n) < 0 → dig (hexI (UInt8.ofNat n)).toNat = UInt8.ofNat n := by decide +kernel
  have := q c.toNat c.toNat_lt
  rw [UInt8.ofNat_toNat] at this
  exact this h
theorem hexL_unhexL : ∀ (n : Nat) (l r : List UInt8), l.length = n → unhexL l = some r → hexL r = l
  | 0, [], r, _, h => by simp [unhexL] at h; subst h; rfl
  | 1, [x], r, _, h => by simp [unhexL] at h
  | n + 2, a :: b :: l, r, hl, h => by
    rw [unhexL] at h
    split at h
    · cases h
    · rename_i hc
      obtain ⟨r', hr, rfl⟩ := Option.map_eq_some_iff.1 h
      have ih := hexL_unhexL n l r' (by simpa using hl) hr
      have a1 : ¬ hexI a < 0 := fun h => hc (.inl h)
      have a2 : ¬ hexI b < 0 := fun h => hc (.inr h)
      have b1 := hexI_hi a
      have b2 := hexI_hi b
      have c1 := dig_hexI a a1
      have c2 := dig_hexI b a2
      have e : (UInt8.ofNat (16 * hexI a + hexI b).toNat).toNat = (16 * hexI a + hexI b).toNat := by
        rw [UInt8.toNat_ofNat']; exact Nat.mod_eq_of_lt (by omega)
      rw [hexL, ih, e, show (16 * hexI a + hexI b).toNat / 16 = (hexI a).toNat by omega, show (16 * hexI a + hexI b).toNat % 16 = (hexI b).toNat by omega, c1, c2]
end Go.Mx
namespace Go.Proofs.YtdcleibbldmnaaaDoor
open Go.RowKit Go.Mx

set_option maxRecDepth 100000 in
set_option maxHeartbeats 2000000 in
theorem shaBackRow (vb : Value) (b : List UInt8) {w : World} (hb : Sl w 1 vb b.length (bs b)) (s : ByteArray) (hsz : s.size ≤ maxLen) (_w : World) (hL : Laid w) :
    Calls Tryd.prog 8 #[vb, .string s] w fun e w' => e = .returned (.bool true) ∧ Below w.heap.size w w' := by
  have HB := Mx.hid hb
  have HL := Mx.hid (fun w' (R : List Row) (Q : List Rd) (h : St w w' R Q) => hL.keep h)
  have HZ := Mx.hid hsz
  obtain ⟨bo, bc, rfl, _⟩ := id hb
  clear hb hsz
  go_enter Tryd.func8, Tryd.ntmps8
  go_wp2_with fail
  refine (first_any _ hL).mono ?_
  rintro e w1 ⟨rfl, hs1⟩
  clear hL
  have hz : (s.size : Int) ≤ 6000 ∨ (6000 : Int) < s.size := by omega
  by_cases hl : b.length ≤ 6000
  · have b1 : ¬ ((6000 : Int) < (b.length : Int)) := by omega
    rcases hz with hz | hz
    · have b2 : ¬ ((6000 : Int) < (s.size : Int)) := by omega
      go_wp2_with (first | ((with_reducible show wpList _ _ _ _ _ _); refine wpl_want rfl ?_))
      refine (shex_any _ b w1 (hs1.old HB.out) (by omega)).mono ?_
      rintro e w2 ⟨rfl, hk2⟩
      have hs2 := hs1.call0 hk2
      have HT := Mx.hid (show (str (hexL b)).data.toList = hexL b by simp [str])
      have HTs : (str (hexL b)).size = 2 * b.length := (hexL_len b)
      generalize str (hexL b) = t at *
      go_wp2_with (first | ((with_reducible show wpList _ _ _ _ _ _); refine wpl_want rfl ?_))
      refine (sunhex_any t w2 (by omega)).mono ?_
      rintro e w3 ⟨x, rfl, hk3⟩
      rw [HT.out, unhexL_hexL] at hk3
      rw [HT.out, unhexL_hexL]
      have hk3 : St w2 w3 [byr x b] [] := hk3
      have hs3 := hs2.call1 hk3
      clear hs1 hk2 hs2 hk3
      obtain ⟨xo, xc, rfl, _⟩ := id hs3.sl0
      go_wp2_with (first | ((with_reducible show wpList _ _ _ _ _ _); refine wpl_want rfl ?_))
      refine (bytes_any _ _ b b w3 hs3.sl0 (hs3.old HB.out)).mono ?_
      rintro e w' ⟨rfl, rfl⟩
      rw [decide_eq_true rfl]
      have t2 : (t.size : Int) = 2 * (b.length : Int) := by omega
      go_wp2_with (first | ((with_reducible show wpList _ _ _ _ _ _); refine wpl_want rfl ?_))
      refine (id_any _ b w3 (hs3.old HB.out) (by omega) (fun w' h => HL.out _ _ _ (hs3.call0 h))).mono ?_
      rintro e w4 ⟨rfl, hk4⟩
      have hs4 := hs3.call0 hk4
      have HI := Mx.hid (show (str (hexL (sha b))).data.toList = hexL (sha b) by simp [str])
      have HIs : (str (hexL (sha b))).size = 64 := by
        have e1 : (str (hexL (sha b))).size = (hexL (sha b)).length := rfl
        rw [e1, hexL_len, sha_len]
      have HIv : Hid (((unhexL (hexL (sha b))).any fun r => decide (r.length = 32)) = true) := by
        rw [unhexL_hexL]
        exact decide_eq_true (sha_len b)
      generalize str (hexL (sha b)) = d at *
      go_wp2_with (first | ((with_reducible show wpList _ _ _ _ _ _); refine wpl_want rfl ?_))
      refine (valid_any d w4 (by omega)).mono ?_
      rintro e w5 ⟨rfl, hk5⟩
      have hs5 := hs4.call0 hk5
      rw [HI.out, HIv.out]
      clear hk4 hs4 hk5 HIs HTs t2
      go_wp2_with (first | ((with_reducible show wpList _ _ _ _ _ _); refine wpl_want rfl ?_))
      refine (sunhex_any s w5 (by omega)).mono ?_
      rintro e w6 ⟨y, rfl, hk6⟩
      have HX := Mx.hid (hexL_unhexL s.data.toList.length s.data.toList)
      have HV := Mx.hid (fun w => valid_any s w (by omega))
      have HS := Mx.hid (show str s.data.toList = s by simp [str])
      cases hu : unhexL s.data.toList with
      | none =>
        have hk6 : St w5 w6 [byr y []] [] := by rw [hu] at hk6; exact hk6
        have hs6 := hs5.call1 hk6
        obtain ⟨yo, yc, rfl, _⟩ := id hs6.sl0
        go_wp2_with (first | ((with_reducible show wpList _ _ _ _ _ _); refine wpl_want rfl ?_))
        refine (first_any _ (HL.out _ _ _ hs6)).mono ?_
        rintro e w7 ⟨rfl, hk7⟩
        have hs7 := hs6.call0 hk7
        go_wp2_with (first | ((with_reducible show wpList _ _ _ _ _ _); refine wpl_want rfl ?_))
        refine (HV.out w7).mono ?_
        rintro e w8 ⟨rfl, hk8⟩
        rw [hu]
        have hs8 := hs7.call0 hk8
        go_wp2_with (first | ((with_reducible show wpList _ _ _ _ _ _); refine wpl_want rfl ?_))
        go_ret
        exact ⟨rfl, hs8.below⟩
      | some r =>
        have hk6 : St w5 w6 [byr y r] [] := by rw [hu] at hk6; exact hk6
        have hs6 := hs5.call1 hk6
        have hrl := unhexL_len _ _ _ rfl hu
        have hrs : r.length ≤ 3000 := by
          have e1 : s.data.toList.length = s.size := rfl
          omega
        clear hrl
        obtain ⟨yo, yc, rfl, _⟩ := id hs6.sl0
        go_wp2_with (first | ((with_reducible show wpList _ _ _ _ _ _); refine wpl_want rfl ?_))
        refine (first_any _ (HL.out _ _ _ hs6)).mono ?_
        rintro e w7 ⟨rfl, hk7⟩
        have hs7 := hs6.call0 hk7
        go_wp2_with (first | ((with_reducible show wpList _ _ _ _ _ _); refine wpl_want rfl ?_))
        refine (shex_any _ r w7 hs7.sl0 (by omega)).mono ?_
        rintro e w8 ⟨rfl, hk8⟩
        have hs8 := hs7.call0 hk8
        rw [HX.out r (by trivial) hu, HS.out]
        go_wp2_with (first | ((with_reducible show wpList _ _ _ _ _ _); refine wpl_want rfl ?_))
        refine (HV.out w8).mono ?_
        rintro e w9 ⟨rfl, hk9⟩
        rw [hu]
        have hs9 := hs8.call0 hk9
        have hany : (some r).any (fun r => decide (r.length = 32)) = decide (r.length = 32) := rfl
        rw [hany]
        by_cases h32 : r.length = 32
        · rw [decide_eq_true h32]
          go_wp2_with (first | ((with_reducible show wpList _ _ _ _ _ _); refine wpl_want rfl ?_))
          go_ret
          exact ⟨rfl, hs9.below⟩
        · rw [decide_eq_false h32]
          have h33 : ¬ ((r.length : Int) = 32) := by omega
          go_wp2_with (first | ((with_reducible show wpList _ _ _ _ _ _); refine wpl_want rfl ?_))
          go_ret
          have hb : ((r.length : Int) == 32) = false := by simpa using h33
          exact ⟨by show Ending.returned (.bool (!((r.length : Int) == 32))) = _; rw [hb]; rfl, hs9.below⟩
    · go_wp2_with (first | ((with_reducible show wpList _ _ _ _ _ _); refine wpl_want rfl ?_))
      refine (first_any _ (HL.out _ _ _ hs1)).mono ?_
      rintro e w2 ⟨rfl, hk2⟩
      have hs2 := hs1.call0 hk2
      go_wp2_with fail
      go_ret
      exact ⟨rfl, hs2.below⟩
  · have b1 : (6000 : Int) < (b.length : Int) := by omega
    go_wp2_with fail
    refine (first_any _ (HL.out _ _ _ hs1)).mono ?_
    rintro e w2 ⟨rfl, hk2⟩
    have hs2 := hs1.call0 hk2
    go_wp2_with fail
    go_ret
    exact ⟨rfl, hs2.below⟩
end Go.Proofs.YtdcleibbldmnaaaDoor
