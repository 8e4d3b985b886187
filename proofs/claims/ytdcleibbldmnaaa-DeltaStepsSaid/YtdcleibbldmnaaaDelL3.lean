/- Chapter 9's statements walked: Steps, Wrong. -/
import Derived.Test.YtdcleibbldmnaaaDelL
import Derived.Test.YtdcleibbldmnaaaDelZ
namespace Go.Mx
open Go Go.RowKit
theorem mask_or (n : Nat) (hn : n ≤ 2000) : bits BinOp.or IntKind.i64 (bits BinOp.and IntKind.i64 (n : Int) 127) 128 % 256 = (((n % 128 + 128 : Nat) : Int)) := by
  have e1 : bits BinOp.and IntKind.i64 (n : Int) 127 = ((n % 128 : Nat) : Int) := by
    have := i64_and n 127 (by omega) (by omega)
    rw [nat_mask7] at this
    exact this
  have e2 : bits BinOp.or IntKind.i64 ((n % 128 : Nat) : Int) 128 = ((n % 128 + 128 : Nat) : Int) := by
    have h := i64_or (n % 128) 128 (by omega) (by omega)
    have h2 : n % 128 ||| 128 = n % 128 + 128 := by
      have := Nat.two_pow_add_eq_or_of_lt (i := 7) (b := n % 128) (Nat.mod_lt _ (by decide)) 1
      rw [Nat.or_comm, show (128 : Nat) = 2 ^ 7 * 1 from rfl, ← this]; omega
    rw [h2] at h
    exact h
  rw [e1, e2]
  omega
theorem putL_two {n : Nat} (h : ¬ n < 128) (hn : n ≤ 2000) : putL n = [UInt8.ofNat (n % 128 + 128), UInt8.ofNat (n / 128)] := by
  rw [putL, dif_neg h, putL_1 (by omega)]

/-- An insert, then whatever. -/
theorem wrong_ap (a b r : List UInt8) (ha : a.length ≤ 20000) (hb : b.length ≤ 20000) (h0 : b ≠ []) :
    apR a (putL a.length ++ (putL b.length ++ (2 :: (putL b.length ++ (b ++ r))))) = stepsR a b.length r b := by
  rw [ap_put a b.length _ ha hb, steps_ins a b r [] b.length h0 (by omega) (by simp)]
  rfl
theorem nm_small {x : UInt8} (h : x.toNat < 128) (r : List UInt8) : nmN (x :: r) = x.toNat ∧ (x :: r).drop (nmJ (x :: r)) = r ∧ nmE (x :: r) = 0 := by
  have e : putL x.toNat = [x] := by rw [putL_1 h]; simp
  have h1 := nm_put (n := x.toNat) (by omega) r
  have h2 := nm_drop (n := x.toNat) (by omega) r
  rw [e] at h1 h2
  exact ⟨h1.1, h2, h1.2.2⟩
theorem wrong_0 (a b : List UInt8) (to : Nat) : stepsR a to [3] b = (4, []) := by
  have : stepR a 3 [] = (4, [], []) := rfl
  rw [stepsR_cons', this, if_pos (by simp)]
theorem wrong_1 (a b : List UInt8) (to : Nat) : stepsR a to [1, 0, 0] b = (4, []) := by
  have : stepR a 1 [0, 0] = (4, [], []) := by
    obtain ⟨h1, h2, h3⟩ := nm_small (x := 0) (by decide) [0]
    obtain ⟨g1, g2, g3⟩ := nm_small (x := 0) (by decide) []
    unfold stepR
    rw [if_pos rfl, h2, if_neg (by simp [h3]), if_neg (by simp [g3]), g1, if_pos (by decide)]
  rw [stepsR_cons', this, if_pos (by simp)]
theorem wrong_2 (a b : List UInt8) (to : Nat) (ha : a.length ≤ 100) : stepsR a to [1, UInt8.ofNat a.length, 1] b = (1, []) := by
  have hx : (UInt8.ofNat a.length).toNat = a.length := by rw [UInt8.toNat_ofNat']; omega
  have : stepR a 1 [UInt8.ofNat a.length, 1] = (1, [], []) := by
    obtain ⟨h1, h2, h3⟩ := nm_small (x := UInt8.ofNat a.length) (by omega) [1]
    obtain ⟨g1, g2, g3⟩ := nm_small (x := 1) (by decide) []
    unfold stepR
    rw [if_pos rfl, h2, if_neg (by simp [h3]), if_neg (by simp [g3]), g1, if_neg (by decide), h1, hx, if_pos (by right; simp)]
  rw [stepsR_cons', this, if_pos (by simp)]
theorem wrong_3 (a b : List UInt8) (to : Nat) : stepsR a to [2, 1] b = (2, []) := by
  have : stepR a 2 [1] = (2, [], []) := by
    obtain ⟨g1, g2, g3⟩ := nm_small (x := 1) (by decide) []
    unfold stepR
    rw [if_neg (by decide), if_pos rfl, g2, if_neg (by simp [g3]), g1, if_neg (by decide), if_pos (by decide)]
  rw [stepsR_cons', this, if_pos (by simp)]
theorem wrong_4 (a b : List UInt8) : stepsR a b.length [2, 1, 7] b = (3, []) := by
  have : stepR a 2 [1, 7] = (0, [7], []) := by
    obtain ⟨g1, g2, g3⟩ := nm_small (x := 1) (by decide) [7]
    unfold stepR
    rw [if_neg (by decide), if_pos rfl, g2, if_neg (by simp [g3]), g1, if_neg (by decide), if_neg (by decide)]
    rfl
  rw [stepsR_cons', this, if_neg (by simp), if_pos (by simp)]
theorem steps_d (a b : List UInt8) (ha : a.length ≤ 1000) (hb : b.length ≤ 1000) (h0 : b ≠ []) : apR a (putL a.length ++ putL b.length ++ [2] ++ putL b.length ++ b) = (0, b) := by
  have h := wrong_ap a b [] (by omega) (by omega) h0
  rw [stepsR_nil', if_neg (by omega), List.append_nil] at h
  rw [← h]
  simp
theorem steps_c (a b : List UInt8) (ha : a.length ≤ 1000) (hb : b.length ≤ 1000) (h0 : b ≠ []) (h1 : a ≠ []) : apR a (putL a.length ++ putL (a.length + b.length) ++ [2] ++ putL b.length ++ b ++ [1, 0] ++ putL a.length) = (0, b ++ a) := by
  have e0 : putL 0 = [0] := by rw [putL_1 (by decide)]; rfl
  have hl : a.length ≠ 0 := by simpa using h1
  have h := ap_put a (a.length + b.length) (2 :: (putL b.length ++ (b ++ (1 :: (putL 0 ++ (putL a.length ++ [])))))) (by omega) (by omega)
  rw [steps_ins a b _ [] _ h0 (by omega) (by simp), steps_copy a [] _ 0 a.length _ hl (by omega) (by omega) (by simp; omega), stepsR_nil', if_neg (by simp; omega)] at h
  rw [e0] at h
  simp only [List.nil_append, List.append_nil, Nat.zero_add, List.take_length, List.drop_zero, List.cons_append] at h
  rw [← h]
  simp
end Go.Mx
namespace Go.Proofs.Ytdcleibbldmnaaa
open Go.RowKit Go.Mx

theorem num9_any (n : Nat) (w : World) (hn : n ≤ 2000) :
    Calls Try.prog 15 #[.int .i64 n] w fun e w' => ∃ v, e = .returned v ∧ St w w' [byr v (putL n)] [] := by
  by_cases h : n < 128
  · have h' : (n : Int) < 128 := by omega
    have hp := putL_1 h
    have HP := Mx.hid hp
    have hlt := Mx.hid h
    clear hp h
    go_enter Try.func15, Try.ntmps15
    go_wp2_with fail
    go_ret
    have hs := (St.refl w).made #[.int .u8 (n : Int)] 5 1 1 rfl (by simp [maxLen])
    refine ⟨_, rfl, hs.cast (by rw [HP.out]; rfl) (by rw [HP.out, bs_cons, u8_nat (by have := hlt.out; omega)]; rfl)⟩
  · have h' : ¬ ((n : Int) < 128) := by omega
    have HP := Mx.hid (putL_two h hn)
    have hm := mask_or n hn
    have HM := Mx.hid hm
    clear hm
    go_enter Try.func15, Try.ntmps15
    go_wp2_with fail
    go_ret
    rw [HM.out]
    have hs := (St.refl w).made #[.int .u8 ((n % 128 + 128 : Nat) : Int), .int .u8 ((n : Int) / 128)] 5 1 2 rfl (by simp [maxLen])
    refine ⟨_, rfl, hs.cast (by rw [HP.out]; rfl) (by rw [HP.out, bs_cons, bs_cons, u8_nat (by omega), u8_nat (by omega)]; rfl)⟩


theorem slb {w0 w : World} {R : List Row} {Q : List Rd} (h : St w0 w R Q) (v : Value) (l : List UInt8) (hr : byr v l ∈ R) : Sl w 1 v l.length (bs l) := h.sl hr

theorem Sl.two (w : World) (x y : Value) (e : TypeId) : Sl (w.alloc (.cells #[x, y] e)) 1 (.slice (some ⟨w.heap.size, 0, none⟩) 2 2) 2 [x, y] :=
  ((St.refl w).made #[x, y] e 1 2 rfl (by simp [maxLen])).sl0
theorem Sl.three (w : World) (x y z : Value) (e : TypeId) : Sl (w.alloc (.cells #[x, y, z] e)) 1 (.slice (some ⟨w.heap.size, 0, none⟩) 3 3) 3 [x, y, z] :=
  ((St.refl w).made #[x, y, z] e 1 3 rfl (by simp [maxLen])).sl0


set_option maxHeartbeats 2000000 in
theorem deltaStepsRow (va : Value) (a : List UInt8) {w : World} (ha : Sl w 1 va a.length (bs a)) (vb : Value) (b : List UInt8) (hb : Sl w 1 vb b.length (bs b)) (_w : World) (hI : IndexOk w) :
    Calls Try.prog 4 #[va, vb] w fun e w' => e = .returned (.bool true) ∧ Below w.heap.size w w' := by
  have HA := Mx.hid ha
  have HB := Mx.hid hb
  obtain ⟨ao, ac, rfl, _⟩ := id ha
  obtain ⟨bo, bc, rfl, _⟩ := id hb
  clear ha hb
  go_enter Try.func4, Try.ntmps4
  go_wp2_with fail
  refine (first_any _ hI).mono ?_
  rintro e w1 ⟨rfl, hs1⟩
  by_cases hl : (1 ≤ a.length ∧ a.length ≤ 1000) ∧ 1 ≤ b.length ∧ b.length ≤ 1000
  · obtain ⟨⟨a1, a2⟩, a3, a4⟩ := hl
    have b1 : decide ((a.length : Int) < 1) = false := decide_eq_false (by omega)
    have b2 : decide ((1000 : Int) < (a.length : Int)) = false := decide_eq_false (by omega)
    have b3 : decide ((b.length : Int) < 1) = false := decide_eq_false (by omega)
    have b4 : decide ((1000 : Int) < (b.length : Int)) = false := decide_eq_false (by omega)
    have hD := Mx.hid (steps_d a b a2 a4 (by intro h; rw [h] at a3; simp at a3))
    have hC := Mx.hid (steps_c a b a2 a4 (by intro h; rw [h] at a3; simp at a3) (by intro h; rw [h] at a1; simp at a1))
    go_wp2_with (first | ((with_reducible show wpList _ _ _ _ _ _); refine wpl_want rfl ?_))
    clear b1 b2 b3 b4
    refine (num9_any a.length w1 (by omega)).mono ?_
    rintro e w2 ⟨n, rfl, hn⟩
    go_wp2_with fail
    refine (num9_any b.length w2 (by omega)).mono ?_
    rintro e w3 ⟨m, rfl, hm⟩
    go_wp2_with fail
    have hsum : ((a.length : Int) + (b.length : Int)) = ((a.length + b.length : Nat) : Int) := by push_cast; rfl
    rw [hsum]
    refine (num9_any (a.length + b.length) w3 (by omega)).mono ?_
    rintro e w4 ⟨q, rfl, hq⟩
    clear hsum
    have hs4 := ((hs1.call1 hn).call1 hm).call1 hq
    have l1 := putL_2 (n := a.length) (by omega)
    have l2 := putL_2 (n := b.length) (by omega)
    have l3 := putL_2 (n := a.length + b.length) (by omega)
    have hn0 : Sl w2 1 n (putL a.length).length (bs (putL a.length)) := hn.sl0
    have hm0 : Sl w3 1 m (putL b.length).length (bs (putL b.length)) := hm.sl0
    have hq0 : Sl w4 1 q (putL (a.length + b.length)).length (bs (putL (a.length + b.length))) := hq.sl0
    obtain ⟨no, nc, rfl, _⟩ := hn0
    obtain ⟨mo, mc, rfl, _⟩ := hm0
    obtain ⟨qo, qc, rfl, _⟩ := hq0
    generalize hna : putL a.length = na at *
    generalize hnb : putL b.length = nb at *
    generalize hnq : putL (a.length + b.length) = nq at *
    have hs5 := hs4.made #[] 5 1 0 rfl (by simp)
    go_wp2_with (first | (at_builtin; refine wpl_app rfl _ _ 22 rfl Try.elU8 hs5 rfl (by exact slb hs5 (.slice no na.length nc) na (by simp)) (bs_one _) (by omega) ?_; intro d1 x1 hd1 _) | (at_builtin; refine wpl_app rfl _ _ 22 rfl Try.elU8 hd1 rfl (by exact slb hd1 (.slice mo nb.length mc) nb (by simp)) (bs_one _) (by omega) ?_; intro d2 x2 hd2 _) | (at_builtin; refine wpl_app rfl _ _ 22 rfl Try.elU8 (hd2.alloc _) rfl (by exact Sl.one _ _ _) (by intro u hu; simp at hu; subst hu; rfl) (by omega) ?_; intro d3 x3 hd3 _) | (at_builtin; refine wpl_app rfl _ _ 22 rfl Try.elU8 hd3 rfl (by exact slb hd3 (.slice mo nb.length mc) nb (by simp)) (bs_one _) (by omega) ?_; intro d4 x4 hd4 _) | (at_builtin; refine wpl_app rfl _ _ 22 rfl Try.elU8 hd4 rfl (by exact hd4.old HB.out) (bs_one _) (by omega) ?_; intro d5 x5 hd5 _; have hd6 := hd5.cast (n' := (na ++ nb ++ [2] ++ nb ++ b).length) (xs' := bs (na ++ nb ++ [2] ++ nb ++ b)) (by simp only [List.length_append, List.length_cons, List.length_nil]; omega) (by simp [bs_app, bs_cons]); have hc0 := hd6.made #[] 5 1 0 rfl (by simp)) | (at_builtin; refine wpl_app rfl _ _ 22 rfl Try.elU8 hc0 rfl (by exact slb hc0 (.slice no na.length nc) na (by simp)) (bs_one _) (by omega) ?_; intro c1 y1 hc1 _) | (at_builtin; refine wpl_app rfl _ _ 22 rfl Try.elU8 hc1 rfl (by exact slb hc1 (.slice qo nq.length qc) nq (by simp)) (bs_one _) (by omega) ?_; intro c2 y2 hc2 _) | (at_builtin; refine wpl_app rfl _ _ 22 rfl Try.elU8 (hc2.alloc _) rfl (by exact Sl.one _ _ _) (by intro u hu; simp at hu; subst hu; rfl) (by omega) ?_; intro c3 y3 hc3 _) | (at_builtin; refine wpl_app rfl _ _ 22 rfl Try.elU8 hc3 rfl (by exact slb hc3 (.slice mo nb.length mc) nb (by simp)) (bs_one _) (by omega) ?_; intro c4 y4 hc4 _) | (at_builtin; refine wpl_app rfl _ _ 22 rfl Try.elU8 hc4 rfl (by exact hc4.old HB.out) (bs_one _) (by omega) ?_; intro c5 y5 hc5 _) | (at_builtin; refine wpl_app rfl _ _ 22 rfl Try.elU8 (hc5.alloc _) rfl (by exact Sl.two _ _ _ _) (by intro u hu; simp at hu; rcases hu with rfl | rfl <;> rfl) (by omega) ?_; intro c6 y6 hc6 _) | (at_builtin; refine wpl_app rfl _ _ 22 rfl Try.elU8 hc6 rfl (by exact slb hc6 (.slice no na.length nc) na (by simp)) (bs_one _) (by omega) ?_; intro c7 y7 hc7 _))
    have hc8 := hc7.cast (n' := (na ++ nq ++ [2] ++ nb ++ b ++ [1, 0] ++ na).length) (xs' := bs (na ++ nq ++ [2] ++ nb ++ b ++ [1, 0] ++ na)) (by simp only [List.length_append, List.length_cons, List.length_nil]; omega) (by simp [bs_app, bs_cons])
    generalize hDD : na ++ nb ++ [2] ++ nb ++ b = D at *
    generalize hCC : na ++ nq ++ [2] ++ nb ++ b ++ [1, 0] ++ na = C at *
    have hDl : D.length ≤ 10000 := by rw [← hDD]; simp only [List.length_append, List.length_cons, List.length_nil]; omega
    have hCl : C.length ≤ 10000 := by rw [← hCC]; simp only [List.length_append, List.length_cons, List.length_nil]; omega
    clear hDD hCC hc7 hc6 hc5 hc4 hc3 hc2 hc1 hc0 hd6 hd5 hd4 hd3 hd2 hd1 hs5
    obtain ⟨co, cc, rfl, _⟩ := id hc8.sl0
    obtain ⟨dd, dc, rfl, _⟩ := id hc8.sl1
    refine (apply_any y7 _ _ a D (hc8.old HA.out) hc8.sl1 (by omega) (by omega)).mono ?_
    rintro e w5 ⟨x, he, hx⟩
    rw [hD.out] at he hx
    subst he
    have hs5 := hc8.call1 hx
    go_wp2_with fail
    refine (apply_any w5 _ _ a C (hs5.old HA.out) hs5.sl1 (by omega) (by omega)).mono ?_
    rintro e w6 ⟨y, he, hy⟩
    rw [hC.out] at he hy
    subst he
    have hs6 := hs5.call1 hy
    go_wp2_with fail
    refine (first_any _ (hI.keep hs6)).mono ?_
    rintro e w7 ⟨rfl, hk7⟩
    have hs7 := hs6.call0 hk7
    go_wp2_with (first | ((with_reducible show wpList _ _ _ _ _ _); refine wpl_want rfl ?_))
    refine (bytes_any _ _ b b w7 hs7.sl1 (hs7.old HB.out)).mono ?_
    rintro e w' ⟨rfl, rfl⟩
    rw [decide_eq_true rfl]
    go_wp2_with (first | ((with_reducible show wpList _ _ _ _ _ _); refine wpl_want rfl ?_))
    refine (copyBytes_any _ b w7 (hs7.old HB.out) (by omega)).mono ?_
    rintro e w8 ⟨z, rfl, hz⟩
    have hs8 := hs7.call1 hz
    go_wp2_with (first | ((with_reducible show wpList _ _ _ _ _ _); refine wpl_want rfl ?_) | (at_builtin; refine wpl_app rfl _ _ 22 rfl Try.elU8 hs8 rfl (by exact hs8.old HA.out) (bs_one _) (by omega) ?_; intro z2 w9 hs9 _))
    have hs10 := hs9.cast (n' := (b ++ a).length) (xs' := bs (b ++ a)) (by simp) (by rw [bs_app])
    refine (bytes_any _ _ (b ++ a) (b ++ a) w9 hs10.sl1 hs10.sl0).mono ?_
    rintro e w' ⟨rfl, rfl⟩
    rw [decide_eq_true rfl]
    go_wp2_with (first | ((with_reducible show wpList _ _ _ _ _ _); refine wpl_want rfl ?_))
    go_ret
    exact ⟨rfl, hs10.below⟩
  · have hq : a.length < 1 ∨ (1 ≤ a.length ∧ 1000 < a.length) ∨ ((1 ≤ a.length ∧ a.length ≤ 1000) ∧ b.length < 1) ∨ ((1 ≤ a.length ∧ a.length ≤ 1000) ∧ 1 ≤ b.length ∧ 1000 < b.length) := by omega
    clear hl
    rcases hq with q1 | ⟨q1, q2⟩ | ⟨⟨q1, q2⟩, q3⟩ | ⟨⟨q1, q2⟩, q3, q4⟩
    · have b1 : decide ((a.length : Int) < 1) = true := decide_eq_true (by omega)
      clear q1
      go_wp2_with (first | ((with_reducible show wpList _ _ _ _ _ _); refine wpl_want rfl ?_))
      refine (first_any _ (hI.keep hs1)).mono ?_
      rintro e wz ⟨rfl, hz⟩
      go_wp2_with fail
      go_ret
      exact ⟨rfl, (hs1.call0 hz).below⟩
    · have b1 : decide ((a.length : Int) < 1) = false := decide_eq_false (by omega)
      have b2 : decide ((1000 : Int) < (a.length : Int)) = true := decide_eq_true (by omega)
      clear q1 q2
      go_wp2_with (first | ((with_reducible show wpList _ _ _ _ _ _); refine wpl_want rfl ?_))
      refine (first_any _ (hI.keep hs1)).mono ?_
      rintro e wz ⟨rfl, hz⟩
      go_wp2_with fail
      go_ret
      exact ⟨rfl, (hs1.call0 hz).below⟩
    · have b1 : decide ((a.length : Int) < 1) = false := decide_eq_false (by omega)
      have b2 : decide ((1000 : Int) < (a.length : Int)) = false := decide_eq_false (by omega)
      have b3 : decide ((b.length : Int) < 1) = true := decide_eq_true (by omega)
      clear q1 q2 q3
      go_wp2_with (first | ((with_reducible show wpList _ _ _ _ _ _); refine wpl_want rfl ?_))
      refine (first_any _ (hI.keep hs1)).mono ?_
      rintro e wz ⟨rfl, hz⟩
      go_wp2_with fail
      go_ret
      exact ⟨rfl, (hs1.call0 hz).below⟩
    · have b1 : decide ((a.length : Int) < 1) = false := decide_eq_false (by omega)
      have b2 : decide ((1000 : Int) < (a.length : Int)) = false := decide_eq_false (by omega)
      have b3 : decide ((b.length : Int) < 1) = false := decide_eq_false (by omega)
      have b4 : decide ((1000 : Int) < (b.length : Int)) = true := decide_eq_true (by omega)
      clear q1 q2 q3 q4
      go_wp2_with (first | ((with_reducible show wpList _ _ _ _ _ _); refine wpl_want rfl ?_))
      refine (first_any _ (hI.keep hs1)).mono ?_
      rintro e wz ⟨rfl, hz⟩
      go_wp2_with fail
      go_ret
      exact ⟨rfl, (hs1.call0 hz).below⟩

/-- What is laid ahead of the wrong step. -/
def wrH (a b : List UInt8) : List UInt8 := [UInt8.ofNat a.length, UInt8.ofNat b.length, 2, UInt8.ofNat b.length] ++ b
theorem wrH_ap (a b r : List UInt8) (ha : a.length ≤ 100) (hb : b.length ≤ 100) (h0 : b ≠ []) : apR a (wrH a b ++ r) = stepsR a b.length r b := by
  have h := wrong_ap a b r (by omega) (by omega) h0
  rw [putL_1 (by omega), putL_1 (by omega)] at h
  rw [← h]
  simp [wrH]
theorem wrH_bs (a b : List UInt8) (ha : a.length ≤ 100) (hb : b.length ≤ 100) : [Value.int .u8 (a.length : Int), Value.int .u8 (b.length : Int), Value.int .u8 2, Value.int .u8 (b.length : Int)] ++ bs b = bs (wrH a b) := by
  unfold wrH
  rw [bs_app]
  simp only [bs_cons, bs_nil]
  rw [u8_nat (by omega), u8_nat (by omega)]
  rfl

theorem wrH_len (a b : List UInt8) : 4 + b.length = (wrH a b).length := by
  unfold wrH
  simp only [List.length_append, List.length_cons, List.length_nil]


set_option maxHeartbeats 4000000 in
theorem deltaWrongRow (va : Value) (a : List UInt8) {w : World} (ha : Sl w 1 va a.length (bs a)) (vb : Value) (b : List UInt8) (hb : Sl w 1 vb b.length (bs b)) (which : Int) (_wh : (Lit.int .i64 which).wf = true) (_w : World) (hI : IndexOk w) :
    Calls Try.prog 6 #[va, vb, .int .i64 which] w fun e w' => e = .returned (.bool true) ∧ Below w.heap.size w w' := by
  have HA := Mx.hid ha
  have HB := Mx.hid hb
  obtain ⟨ao, ac, rfl, _⟩ := id ha
  obtain ⟨bo, bc, rfl, _⟩ := id hb
  clear ha hb
  go_enter Try.func6, Try.ntmps6
  go_wp2_with fail
  refine (first_any _ hI).mono ?_
  rintro e w1 ⟨rfl, hs1⟩
  by_cases hl : a.length ≤ 100 ∧ 1 ≤ b.length ∧ b.length ≤ 100
  · obtain ⟨la, lb1, lb2⟩ := hl
    have b1 : decide ((100 : Int) < (a.length : Int)) = false := decide_eq_false (by omega)
    have b2 : decide ((b.length : Int) < 1) = false := decide_eq_false (by omega)
    have b3 : decide ((100 : Int) < (b.length : Int)) = false := decide_eq_false (by omega)
    have hne : b ≠ [] := by intro h; rw [h] at lb1; simp at lb1
    have hs2 := hs1.made #[.int .u8 (a.length : Int), .int .u8 (b.length : Int), .int .u8 2, .int .u8 (b.length : Int)] 5 1 4 rfl (by simp [maxLen])
    have hwl : (wrH a b).length ≤ 200 := by rw [← wrH_len]; omega
    by_cases w0 : which = 0
    · subst w0
      go_wp2_with (first | ((with_reducible show wpList _ _ _ _ _ _); refine wpl_want rfl ?_) | (at_builtin; refine wpl_app rfl _ _ 22 rfl Try.elU8 hs2 rfl (by exact hs2.old HB.out) (bs_one _) (by omega) ?_; intro d1 w2 hd1 _; have hd2 := hd1.cast (n' := (wrH a b).length) (xs' := bs (wrH a b)) (wrH_len a b) (wrH_bs a b la lb2)) | (at_builtin; refine wpl_app rfl _ _ 22 rfl Try.elU8 (hd2.alloc _) rfl (by exact Sl.one _ _ _) (by intro u hu; simp at hu; subst hu; rfl) (by omega) ?_; intro d3 w3 hd3 _; have hd4 := hd3.cast (n' := (wrH a b ++ [3]).length) (xs' := bs (wrH a b ++ [3])) (by simp) (by rw [bs_app]; simp only [bs_cons, bs_nil]; rfl)))
      have hap := wrH_ap a b [3] la lb2 hne
      rw [wrong_0] at hap
      have HAP := Mx.hid hap
      have hDl : (wrH a b ++ [3]).length ≤ 1000 := by rw [List.length_append, ← wrH_len]; simp only [List.length_cons, List.length_nil]; omega
      generalize wrH a b ++ [3] = D at *
      clear hap
      obtain ⟨do_, dc, rfl, _⟩ := id hd4.sl0
      refine (apply_any w3 _ _ a D (hd4.old HA.out) hd4.sl0 (by omega) (by omega)).mono ?_
      rintro e w4 ⟨x, he, hx⟩
      rw [HAP.out] at he hx
      subst he
      have hs4 := hd4.call1 hx
      have hx0 : Sl w4 1 x 0 [] := hx.sl0
      obtain ⟨xo, xc, rfl, _⟩ := hx0
      go_wp2_with (first | ((with_reducible show wpList _ _ _ _ _ _); refine wpl_want rfl ?_))
      refine (first_any _ (hI.keep hs4)).mono ?_
      rintro e wz ⟨rfl, hz⟩
      go_wp2_with (first | ((with_reducible show wpList _ _ _ _ _ _); refine wpl_want rfl ?_))
      go_ret
      exact ⟨rfl, (hs4.call0 hz).below⟩
    · by_cases w1' : which = 1
      · subst w1'
        go_wp2_with (first | ((with_reducible show wpList _ _ _ _ _ _); refine wpl_want rfl ?_) | (at_builtin; refine wpl_app rfl _ _ 22 rfl Try.elU8 hs2 rfl (by exact hs2.old HB.out) (bs_one _) (by omega) ?_; intro d1 w2 hd1 _; have hd2 := hd1.cast (n' := (wrH a b).length) (xs' := bs (wrH a b)) (wrH_len a b) (wrH_bs a b la lb2)) | (at_builtin; refine wpl_app rfl _ _ 22 rfl Try.elU8 (hd2.alloc _) rfl (by exact Sl.three _ _ _ _ _) (by intro u hu; simp at hu; rcases hu with rfl | rfl <;> rfl) (by omega) ?_; intro d3 w3 hd3 _; have hd4 := hd3.cast (n' := (wrH a b ++ [1, 0, 0]).length) (xs' := bs (wrH a b ++ [1, 0, 0])) (by simp) (by rw [bs_app]; simp only [bs_cons, bs_nil]; rfl)))
        have hap := wrH_ap a b [1, 0, 0] la lb2 hne
        rw [wrong_1] at hap
        have HAP := Mx.hid hap
        have hDl : (wrH a b ++ [1, 0, 0]).length ≤ 1000 := by rw [List.length_append, ← wrH_len]; simp only [List.length_cons, List.length_nil]; omega
        generalize wrH a b ++ [1, 0, 0] = D at *
        clear hap
        obtain ⟨do_, dc, rfl, _⟩ := id hd4.sl0
        refine (apply_any w3 _ _ a D (hd4.old HA.out) hd4.sl0 (by omega) (by omega)).mono ?_
        rintro e w4 ⟨x, he, hx⟩
        rw [HAP.out] at he hx
        subst he
        have hs4 := hd4.call1 hx
        have hx0 : Sl w4 1 x 0 [] := hx.sl0
        obtain ⟨xo, xc, rfl, _⟩ := hx0
        go_wp2_with (first | ((with_reducible show wpList _ _ _ _ _ _); refine wpl_want rfl ?_))
        refine (first_any _ (hI.keep hs4)).mono ?_
        rintro e wz ⟨rfl, hz⟩
        go_wp2_with (first | ((with_reducible show wpList _ _ _ _ _ _); refine wpl_want rfl ?_))
        go_ret
        exact ⟨rfl, (hs4.call0 hz).below⟩
      · by_cases w2' : which = 2
        · subst w2'
          go_wp2_with (first | ((with_reducible show wpList _ _ _ _ _ _); refine wpl_want rfl ?_) | (at_builtin; refine wpl_app rfl _ _ 22 rfl Try.elU8 hs2 rfl (by exact hs2.old HB.out) (bs_one _) (by omega) ?_; intro d1 w2 hd1 _; have hd2 := hd1.cast (n' := (wrH a b).length) (xs' := bs (wrH a b)) (wrH_len a b) (wrH_bs a b la lb2)) | (at_builtin; refine wpl_app rfl _ _ 22 rfl Try.elU8 (hd2.alloc _) rfl (by exact Sl.three _ _ _ _ _) (by intro u hu; simp at hu; rcases hu with rfl | rfl | rfl <;> rfl) (by omega) ?_; intro d3 w3 hd3 _; have hd4 := hd3.cast (n' := (wrH a b ++ [1, UInt8.ofNat a.length, 1]).length) (xs' := bs (wrH a b ++ [1, UInt8.ofNat a.length, 1])) (by simp) (by rw [bs_app]; simp only [bs_cons, bs_nil]; rw [u8_nat (by omega)]; rfl)))
          have hap := wrH_ap a b [1, UInt8.ofNat a.length, 1] la lb2 hne
          rw [wrong_2 a b _ la] at hap
          have HAP := Mx.hid hap
          have hDl : (wrH a b ++ [1, UInt8.ofNat a.length, 1]).length ≤ 1000 := by rw [List.length_append, ← wrH_len]; simp only [List.length_cons, List.length_nil]; omega
          generalize wrH a b ++ [1, UInt8.ofNat a.length, 1] = D at *
          clear hap
          obtain ⟨do_, dc, rfl, _⟩ := id hd4.sl0
          refine (apply_any w3 _ _ a D (hd4.old HA.out) hd4.sl0 (by omega) (by omega)).mono ?_
          rintro e w4 ⟨x, he, hx⟩
          rw [HAP.out] at he hx
          subst he
          have hs4 := hd4.call1 hx
          have hx0 : Sl w4 1 x 0 [] := hx.sl0
          obtain ⟨xo, xc, rfl, _⟩ := hx0
          go_wp2_with (first | ((with_reducible show wpList _ _ _ _ _ _); refine wpl_want rfl ?_))
          refine (first_any _ (hI.keep hs4)).mono ?_
          rintro e wz ⟨rfl, hz⟩
          go_wp2_with (first | ((with_reducible show wpList _ _ _ _ _ _); refine wpl_want rfl ?_))
          go_ret
          exact ⟨rfl, (hs4.call0 hz).below⟩
        · by_cases w3' : which = 3
          · subst w3'
            go_wp2_with (first | ((with_reducible show wpList _ _ _ _ _ _); refine wpl_want rfl ?_) | (at_builtin; refine wpl_app rfl _ _ 22 rfl Try.elU8 hs2 rfl (by exact hs2.old HB.out) (bs_one _) (by omega) ?_; intro d1 w2 hd1 _; have hd2 := hd1.cast (n' := (wrH a b).length) (xs' := bs (wrH a b)) (wrH_len a b) (wrH_bs a b la lb2)) | (at_builtin; refine wpl_app rfl _ _ 22 rfl Try.elU8 (hd2.alloc _) rfl (by exact Sl.two _ _ _ _) (by intro u hu; simp at hu; rcases hu with rfl | rfl <;> rfl) (by omega) ?_; intro d3 w3 hd3 _; have hd4 := hd3.cast (n' := (wrH a b ++ [2, 1]).length) (xs' := bs (wrH a b ++ [2, 1])) (by simp) (by rw [bs_app]; simp only [bs_cons, bs_nil]; rfl)))
            have hap := wrH_ap a b [2, 1] la lb2 hne
            rw [wrong_3] at hap
            have HAP := Mx.hid hap
            have hDl : (wrH a b ++ [2, 1]).length ≤ 1000 := by rw [List.length_append, ← wrH_len]; simp only [List.length_cons, List.length_nil]; omega
            generalize wrH a b ++ [2, 1] = D at *
            clear hap
            obtain ⟨do_, dc, rfl, _⟩ := id hd4.sl0
            refine (apply_any w3 _ _ a D (hd4.old HA.out) hd4.sl0 (by omega) (by omega)).mono ?_
            rintro e w4 ⟨x, he, hx⟩
            rw [HAP.out] at he hx
            subst he
            have hs4 := hd4.call1 hx
            have hx0 : Sl w4 1 x 0 [] := hx.sl0
            obtain ⟨xo, xc, rfl, _⟩ := hx0
            go_wp2_with (first | ((with_reducible show wpList _ _ _ _ _ _); refine wpl_want rfl ?_))
            refine (first_any _ (hI.keep hs4)).mono ?_
            rintro e wz ⟨rfl, hz⟩
            go_wp2_with (first | ((with_reducible show wpList _ _ _ _ _ _); refine wpl_want rfl ?_))
            go_ret
            exact ⟨rfl, (hs4.call0 hz).below⟩
          · have k0 : (which == 0) = false := by simpa using w0
            have k1 : (which == 1) = false := by simpa using w1'
            have k2 : (which == 2) = false := by simpa using w2'
            have k3 : (which == 3) = false := by simpa using w3'
            clear w0 w1' w2' w3'
            go_wp2_with (first | ((with_reducible show wpList _ _ _ _ _ _); refine wpl_want rfl ?_) | (at_builtin; refine wpl_app rfl _ _ 22 rfl Try.elU8 hs2 rfl (by exact hs2.old HB.out) (bs_one _) (by omega) ?_; intro d1 w2 hd1 _; have hd2 := hd1.cast (n' := (wrH a b).length) (xs' := bs (wrH a b)) (wrH_len a b) (wrH_bs a b la lb2)) | (at_builtin; refine wpl_app rfl _ _ 22 rfl Try.elU8 (hd2.alloc _) rfl (by exact Sl.three _ _ _ _ _) (by intro u hu; simp at hu; rcases hu with rfl | rfl | rfl <;> rfl) (by omega) ?_; intro d3 w3 hd3 _; have hd4 := hd3.cast (n' := (wrH a b ++ [2, 1, 7]).length) (xs' := bs (wrH a b ++ [2, 1, 7])) (by simp) (by rw [bs_app]; simp only [bs_cons, bs_nil]; rfl)))
            have hap := wrH_ap a b [2, 1, 7] la lb2 hne
            rw [wrong_4] at hap
            have HAP := Mx.hid hap
            have hDl : (wrH a b ++ [2, 1, 7]).length ≤ 1000 := by rw [List.length_append, ← wrH_len]; simp only [List.length_cons, List.length_nil]; omega
            generalize wrH a b ++ [2, 1, 7] = D at *
            clear hap
            obtain ⟨do_, dc, rfl, _⟩ := id hd4.sl0
            refine (apply_any w3 _ _ a D (hd4.old HA.out) hd4.sl0 (by omega) (by omega)).mono ?_
            rintro e w4 ⟨x, he, hx⟩
            rw [HAP.out] at he hx
            subst he
            have hs4 := hd4.call1 hx
            have hx0 : Sl w4 1 x 0 [] := hx.sl0
            obtain ⟨xo, xc, rfl, _⟩ := hx0
            go_wp2_with (first | ((with_reducible show wpList _ _ _ _ _ _); refine wpl_want rfl ?_))
            refine (first_any _ (hI.keep hs4)).mono ?_
            rintro e wz ⟨rfl, hz⟩
            go_wp2_with (first | ((with_reducible show wpList _ _ _ _ _ _); refine wpl_want rfl ?_))
            go_ret
            exact ⟨rfl, (hs4.call0 hz).below⟩
  · have hq : 100 < a.length ∨ (a.length ≤ 100 ∧ b.length < 1) ∨ (a.length ≤ 100 ∧ 1 ≤ b.length ∧ 100 < b.length) := by omega
    clear hl
    rcases hq with q1 | ⟨q1, q2⟩ | ⟨q1, q2, q3⟩
    · have b1 : decide ((100 : Int) < (a.length : Int)) = true := decide_eq_true (by omega)
      clear q1
      go_wp2_with (first | ((with_reducible show wpList _ _ _ _ _ _); refine wpl_want rfl ?_))
      refine (first_any _ (hI.keep hs1)).mono ?_
      rintro e wz ⟨rfl, hz⟩
      go_wp2_with fail
      go_ret
      exact ⟨rfl, (hs1.call0 hz).below⟩
    · have b1 : decide ((100 : Int) < (a.length : Int)) = false := decide_eq_false (by omega)
      have b2 : decide ((b.length : Int) < 1) = true := decide_eq_true (by omega)
      clear q1 q2
      go_wp2_with (first | ((with_reducible show wpList _ _ _ _ _ _); refine wpl_want rfl ?_))
      refine (first_any _ (hI.keep hs1)).mono ?_
      rintro e wz ⟨rfl, hz⟩
      go_wp2_with fail
      go_ret
      exact ⟨rfl, (hs1.call0 hz).below⟩
    · have b1 : decide ((100 : Int) < (a.length : Int)) = false := decide_eq_false (by omega)
      have b2 : decide ((b.length : Int) < 1) = false := decide_eq_false (by omega)
      have b3 : decide ((100 : Int) < (b.length : Int)) = true := decide_eq_true (by omega)
      clear q1 q2 q3
      go_wp2_with (first | ((with_reducible show wpList _ _ _ _ _ _); refine wpl_want rfl ?_))
      refine (first_any _ (hI.keep hs1)).mono ?_
      rintro e wz ⟨rfl, hz⟩
      go_wp2_with fail
      go_ret
      exact ⟨rfl, (hs1.call0 hz).below⟩
end Go.Proofs.Ytdcleibbldmnaaa
