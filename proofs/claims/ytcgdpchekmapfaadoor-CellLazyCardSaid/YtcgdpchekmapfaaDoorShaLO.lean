/- marlaw1.ShaOwn. -/
import Derived.Test.YtcgdpchekmapfaaDoorShaX
import Derived.Test.YtcgdpchekmapfaaDoorShaY
namespace Go.Mx
open Go Go.RowKit
theorem bs_inc {X : List UInt8} {i : Nat} (h : i < X.length) : (bs X).take i ++ [Value.int .u8 (((X[i].toNat : Int) + 1) % 256)] ++ (bs X).drop (i + 1) = bs (X.set i (X[i] + 1)) := by
  have e : ((X[i].toNat : Int) + 1) % 256 = ((X[i] + 1).toNat : Int) := by
    rw [UInt8.toNat_add]
    have : (1 : UInt8).toNat = 1 := rfl
    rw [this]; omega
  rw [e, List.set_eq_take_append_cons_drop, if_pos h]
  simp [bs, List.map_take, List.map_drop]
end Go.Mx
namespace Go.Proofs.YtcgdpchekmapfaaDoor
open Go.RowKit Go.Mx

set_option maxRecDepth 100000 in
set_option maxHeartbeats 2000000 in
theorem shaOwnRow (vb : Value) (b : List UInt8) {w : World} (hb : Sl w 1 vb b.length (bs b)) (_w : World) (hL : Laid w) :
    Calls Tryd.prog 3 #[vb] w fun e w' => e = .returned (.bool true) ∧ Below w.heap.size w w' := by
  have HB := Mx.hid hb
  have HL := Mx.hid (fun w' (R : List Row) (Q : List Rd) (h : St w w' R Q) => hL.keep h)
  obtain ⟨bo, bc, rfl, _⟩ := id hb
  clear hb
  go_enter Tryd.func3, Tryd.ntmps3
  go_wp2_with fail
  refine (first_any _ hL).mono ?_
  rintro e w1 ⟨rfl, hs1⟩
  clear hL
  by_cases hl : b.length ≤ 6000
  · have b1 : ¬ ((6000 : Int) < (b.length : Int)) := by omega
    go_wp2_with fail
    refine (newM w w1 [] [] hs1 (fun w' h => HL.out _ _ _ h)).mono ?_
    rintro e w2 ⟨g, gc, v0, rfl, hs2⟩
    go_wp2_with fail
    have hs3 : St w w2 [HS g gc [] v0] (rst v0 [] :: [rdb (.slice bo b.length bc) b, cq gc]) :=
      (hs2.addQ (q := rdb (.slice bo b.length bc) b) HB.out).sub (List.Sublist.refl _) (fun q hq => by
        simp only [List.mem_cons, List.not_mem_nil, or_false] at hq ⊢
        rcases hq with h | h | h
        · exact .inr (.inl h)
        · exact .inl h
        · exact .inr (.inr h))
    refine (writeM w w2 [] _ g gc v0 _ [] b hs3 (by simp) (by simp) (by simp) (by omega)).mono ?_
    rintro e w3 ⟨v1, rfl, hs4⟩
    rw [List.nil_append] at hs4
    go_wp2_with fail
    refine (sumM w w3 [] _ g gc v1 b hs4 (by simp) (by omega)).mono ?_
    rintro e w4 ⟨x, rfl, hs5⟩
    go_wp2_with fail
    refine (sum_any w4 _ b (hs5.old HB.out) (by omega) (fun w' h => HL.out _ _ _ (hs5.call0 h))).mono ?_
    rintro e w5 ⟨y, rfl, hk5⟩
    have hd := sha_len b
    have hk5 : St w4 w5 [byr y (sha b)] [] := hk5.cast hd.symm rfl
    have hs6 := hs5.call1 hk5
    generalize hdd : sha b = d at *
    have HDD := Mx.hid hdd
    clear hdd hs2 hs3 hs4 hs5 hk5 hs1
    go_wp2_with fail
    refine (copyBytes_any x d w5 hs6.sl1 (by omega)).mono ?_
    rintro e w6 ⟨wv, rfl, hk6⟩
    have hs7 := (hs6.call1 hk6).perm ((List.reverse_perm [byr x d, byr y d, byr wv d]).append_right [HS g gc b v1])
    have hs8 : St w w6 (⟨x, 5, 1, 32, bs d⟩ :: ⟨y, 5, 1, 32, bs d⟩ :: [byr wv d, HS g gc b v1]) [rst v1 b, rdb (.slice bo b.length bc) b, cq gc] := ((hs7.cast hd rfl).swap.cast hd rfl).swap
    have HD := Mx.hid hd
    obtain ⟨gx, cx, rfl, _, _, hx1, hx2⟩ := hs8.form0 (by decide)
    obtain ⟨gy, cy, rfl, _, _, hy1, hy2⟩ := hs8.swap.form0 (by decide)
    have hs9 := Mx.hid hs8
    clear hs6 hk6 hs7 hs8 hd
    go_wp2_with fail
    go_loopw [7] (fun z wr => ∃ (i : Nat) (X Y : List UInt8), i ≤ 32 ∧ z = .int .i64 i ∧ Hid (X.length = 32 ∧ Y.length = 32) ∧ St w wr (⟨.slice (some ⟨gx, 0, none⟩) 32 cx, 5, 1, 32, bs X⟩ :: ⟨.slice (some ⟨gy, 0, none⟩) 32 cy, 5, 1, 32, bs Y⟩ :: [byr wv d, HS g gc b v1]) [rst v1 b, rdb (.slice bo b.length bc) b, cq gc]) (fun z _ => 32 - (intOf z).toNat)
    case atStart => exact ⟨0, d, d, by omega, rfl, ⟨HD.out, HD.out⟩, hs9.out⟩
    case round =>
      clear hs9
      obtain ⟨i, X, Y, hi, rfl, Hl, hs⟩ := hrel
      by_cases hlt : i < 32
      · have hX : i < X.length := by have := Hl.out.1; omega
        have hY : i < Y.length := by have := Hl.out.2; omega
        have c1 : wr.cell? ⟨gx, i, none⟩ = some (.int .u8 (X[i].toNat : Int)) := hs.cell (bs_get hX)
        have HbX := Mx.hid (bs_inc hX)
        have HbY := Mx.hid (bs_inc hY)
        have HYg := Mx.hid (bs_get hY)
        have HlX := Mx.hid (show i < (bs X).length by rw [bs_len]; exact hX)
        have HlY := Mx.hid (show i < (bs Y).length by rw [bs_len]; exact hY)
        have HNX : Hid ((X.set i (X[i] + 1)).length = 32 ∧ (Y.set i (Y[i] + 1)).length = 32) := Mx.hid (by rw [List.length_set, List.length_set]; exact Hl.out)
        have d1 : decide ((i : Int) < 32) = true := decide_eq_true (by omega)
        have hii : (i : Int) < 32 := by omega
        generalize X[i] = p at *
        generalize Y[i] = q at *
        clear hX hY
        go_wp2_with (first | ((with_reducible show wpList _ _ _ _ _ _); refine wpl_want rfl ?_) | (((with_reducible show wpList _ _ _ _ _ _); refine wpl_store1 rfl 5 _ _ rfl hs (i) rfl (.int .u8 (((p.toNat : Int) + 1) % 256)) rfl rfl (by kernel_rfl) HlX.out rfl ?_; intro w7 ht1); have ht2 := (ht1.cast rfl HbX.out).swap; have c2 : w7.cell? ⟨gy, i, none⟩ = some (.int .u8 (q.toNat : Int)) := ht2.cell HYg.out) | ((with_reducible show wpList _ _ _ _ _ _); refine wpl_store1 rfl 5 _ _ rfl ht2 (i) rfl (.int .u8 (((q.toNat : Int) + 1) % 256)) rfl rfl (by kernel_rfl) HlY.out rfl ?_; intro w8 ht3))
        go_roundw
        case rel => exact ⟨i + 1, X.set i (p + 1), Y.set i (q + 1), by omega, by go_num, HNX, (ht3.cast rfl HbY.out).swap⟩
        case measure => simp [intOf]; omega
      · obtain rfl : i = 32 := by omega
        have hs10 : St w wr (HS g gc b v1 :: [⟨.slice (some ⟨gx, 0, none⟩) 32 cx, 5, 1, 32, bs X⟩, ⟨.slice (some ⟨gy, 0, none⟩) 32 cy, 5, 1, 32, bs Y⟩, byr wv d]) [rst v1 b, rdb (.slice bo b.length bc) b, cq gc] := hs.perm (List.perm_append_comm (l₁ := [_, _, _]) (l₂ := [_]))
        have hw0 : Sl wr 1 wv d.length (bs d) := hs10.sl (r := byr wv d) (by simp)
        rw [HD.out] at hw0
        obtain ⟨wo, wc, rfl, _⟩ := hw0
        have d1 : ¬ ((32 : Int) < 32) := by omega
        clear hs hlt
        go_wp2_with (first | ((with_reducible show wpList _ _ _ _ _ _); refine wpl_want rfl ?_))
        refine (first_any _ (HL.out _ _ _ hs10)).mono ?_
        rintro e w9 ⟨rfl, hk9⟩
        have hs11 := hs10.call0 hk9
        go_wp2_with (first | ((with_reducible show wpList _ _ _ _ _ _); refine wpl_want rfl ?_))
        refine (sumM w w9 _ _ g gc v1 b hs11 (by simp) (by omega)).mono ?_
        rintro e wA ⟨s2, rfl, hs12⟩
        rw [HDD.out] at hs12
        go_wp2_with (first | ((with_reducible show wpList _ _ _ _ _ _); refine wpl_want rfl ?_))
        refine (bytes_any s2 _ d d wA hs12.sl0 (hs12.sl (r := byr (.slice wo 32 wc) d) (by simp))).mono ?_
        rintro e w' ⟨rfl, rfl⟩
        rw [decide_eq_true rfl]
        go_wp2_with (first | ((with_reducible show wpList _ _ _ _ _ _); refine wpl_want rfl ?_))
        refine (sum_any wA _ b (hs12.old HB.out) (by omega) (fun w' h => HL.out _ _ _ (hs12.call0 h))).mono ?_
        rintro e wB ⟨s3, rfl, hkB⟩
        have hkB : St wA wB [byr s3 d] [] := by rw [HDD.out] at hkB; exact hkB.cast HD.out.symm rfl
        have hs13 := hs12.call1 hkB
        go_wp2_with (first | ((with_reducible show wpList _ _ _ _ _ _); refine wpl_want rfl ?_))
        refine (bytes_any s3 _ d d wB hs13.sl0 (hs13.sl (r := byr (.slice wo 32 wc) d) (by simp))).mono ?_
        rintro e w' ⟨rfl, rfl⟩
        rw [decide_eq_true rfl]
        go_wp2_with (first | ((with_reducible show wpList _ _ _ _ _ _); refine wpl_want rfl ?_))
        go_ret
        exact ⟨rfl, hs13.below⟩
  · have b1 : ((6000 : Int) < (b.length : Int)) := by omega
    go_wp2_with (first | ((with_reducible show wpList _ _ _ _ _ _); refine wpl_want rfl ?_))
    refine (first_any _ (HL.out _ _ _ hs1)).mono ?_
    rintro e w2 ⟨rfl, hs2⟩
    go_wp2_with fail
    go_ret
    exact ⟨rfl, (hs1.call0 hs2).below⟩
end Go.Proofs.YtcgdpchekmapfaaDoor
