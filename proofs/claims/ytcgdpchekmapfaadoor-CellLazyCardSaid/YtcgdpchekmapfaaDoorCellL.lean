/- marlaw3.CellLazy. -/
import Derived.Test.YtcgdpchekmapfaaDoorCellT
import Derived.Test.YtcgdpchekmapfaaDoorRID
import Derived.Test.YtcgdpchekmapfaaDoorShaLO
namespace Go.Proofs.YtcgdpchekmapfaaDoor
open Go.RowKit Go.Mx

set_option maxRecDepth 100000 in
set_option maxHeartbeats 4000000 in
theorem cellLazyRow (vb : Value) (b : List UInt8) {w : World} (hb : Sl w 1 vb b.length (bs b)) (n : Int) (_wf : (Lit.int .i64 n).wf = true) (_w : World) (hL : Laid w) :
    Calls Tryd.prog 10 #[vb, .int .i64 n] w fun e w' => e = .returned (.bool true) ∧ Below w.heap.size w w' := by
  have HL := Mx.hid (fun w' (R : List Row) (Q : List Rd) (h : St w w' R Q) => hL.keep h)
  have HB := Mx.hid hb
  obtain ⟨bo, bc, rfl, _⟩ := id hb
  clear hb _wf
  go_enter Tryd.func10, Tryd.ntmps10
  go_wp2_with fail
  refine (cfirst_any w hL).mono ?_
  rintro e w1 ⟨rfl, hs1⟩
  clear hL
  have hend : ∀ (w' : World) (R : List Row) (Q : List Rd), St w w' R Q → Calls Tryd.prog 33 #[] w' fun e w'' => e = .returned (.bool true) ∧ St w w'' R Q := fun w' R Q h => (cfirst_any _ (HL.out _ _ _ h)).mono fun _ _ ⟨h1, h2⟩ => ⟨h1, h.call0 h2⟩
  have HE := Mx.hid hend
  clear hend
  by_cases hbig : 6000 < b.length ∨ n < 0 ∨ 100 < n
  · have hb' : 6000 < b.length ∨ (b.length ≤ 6000 ∧ n < 0) ∨ (b.length ≤ 6000 ∧ 0 ≤ n ∧ 100 < n) := by omega
    clear hbig
    rcases hb' with h | ⟨h, h2⟩ | ⟨h, h2, h3⟩
    · have d1 : decide ((6000 : Int) < (b.length : Int)) = true := decide_eq_true (by omega)
      go_wp2_with (first | ((with_reducible show wpList _ _ _ _ _ _); refine wpl_want rfl ?_) | (go_at_call 33; refine (HE.out _ _ _ hs1).mono ?_; rintro e w3 ⟨rfl, hs3⟩))
      go_ret
      exact ⟨rfl, hs3.below⟩
    · have d1 : decide ((6000 : Int) < (b.length : Int)) = false := decide_eq_false (by omega)
      have d2 : decide (n < 0) = true := decide_eq_true h2
      go_wp2_with (first | ((with_reducible show wpList _ _ _ _ _ _); refine wpl_want rfl ?_) | (go_at_call 33; refine (HE.out _ _ _ hs1).mono ?_; rintro e w3 ⟨rfl, hs3⟩))
      go_ret
      exact ⟨rfl, hs3.below⟩
    · have d1 : decide ((6000 : Int) < (b.length : Int)) = false := decide_eq_false (by omega)
      have d2 : decide (n < 0) = false := decide_eq_false (by omega)
      have d3 : decide (100 < n) = true := decide_eq_true h3
      go_wp2_with (first | ((with_reducible show wpList _ _ _ _ _ _); refine wpl_want rfl ?_) | (go_at_call 33; refine (HE.out _ _ _ hs1).mono ?_; rintro e w3 ⟨rfl, hs3⟩))
      go_ret
      exact ⟨rfl, hs3.below⟩
  have d1 : decide ((6000 : Int) < (b.length : Int)) = false := decide_eq_false (by omega)
  have d2 : decide (n < 0) = false := decide_eq_false (by omega)
  have d3 : decide (100 < n) = false := decide_eq_false (by omega)
  have k1 : b.length ≤ 6000 := by omega
  have k2 : 0 ≤ n := by omega
  have k3 : n ≤ 100 := by omega
  clear hbig
  go_wp2_with (first | ((with_reducible show wpList _ _ _ _ _ _); refine wpl_want rfl ?_))
  refine (copyBytes_any _ b w1 (hs1.old HB.out) (by omega)).mono ?_
  rintro e w2 ⟨vi, rfl, hk2⟩
  have hs2 := hs1.call1 hk2
  obtain ⟨xo, xc, rfl, _⟩ := id hs2.sl0
  clear hk2 hs1
  go_wp2_with (first | ((with_reducible show wpList _ _ _ _ _ _); refine wpl_want rfl ?_))
  refine (newlz_any w w2 _ [] _ b hs2.sl0 hs2 (by omega)).mono ?_
  rintro e w3 ⟨g, v, rfl, hs3⟩
  clear hs2
  go_wp2_with (first | ((with_reducible show wpList _ _ _ _ _ _); refine wpl_want rfl ?_))
  refine (ltimes_any w w3 _ _ g v b false hs3).mono ?_
  rintro e w' ⟨rfl, rfl⟩
  have HS3 := Mx.hid hs3.swap
  clear hs3 d1 d2 d3
  have HID1 := Mx.hid (fun wx R k (h : St w wx (LZ g v b k :: R) [rdb v b]) => lid_any w wx R [] g v b k h (by omega) (fun w' h' => HL.out _ _ _ h'))
  have HTM := Mx.hid (fun wx R (h : St w wx (LZ g v b true :: R) [rdb v b]) => ltimes_any w wx R _ g v b true h)
  have HBY := Mx.hid (fun wx R k (h : St w wx (LZ g v b k :: R) [rdb v b]) => lbytes_any w wx R [] g v b k h (by omega))
  have HRD := Mx.hid (fun wx (h : Sl wx 1 (.slice bo b.length bc) b.length (bs b)) => rid_any _ b wx h (by omega))
  go_wp2_with (first | ((with_reducible show wpList _ _ _ _ _ _); refine wpl_want rfl ?_))
  go_loopw [7] (fun z wr => ∃ (i : Nat) (X : List UInt8), i ≤ b.length ∧ z = .int .i64 i ∧ Hid (X.length = b.length) ∧ St w wr [⟨.slice xo b.length xc, 5, 1, b.length, bs X⟩, LZ g v b false] [rdb v b]) (fun z _ => b.length - (intOf z).toNat)
  case atStart => exact ⟨0, b, by omega, rfl, rfl, HS3.out⟩
  case round =>
    obtain ⟨i, X, hi, rfl, Hl, hs⟩ := hrel
    clear HS3
    by_cases hlt : i < b.length
    · have hX : i < X.length := by have := Hl.out; omega
      obtain ⟨gx, cx, hv, _, _, hx1, hx2⟩ := hs.form0 (by omega)
      simp only [Value.slice.injEq, true_and] at hv
      obtain ⟨rfl, rfl⟩ := hv
      have c1 : wr.cell? ⟨gx, i, none⟩ = some (.int .u8 (X[i].toNat : Int)) := hs.cell (bs_get hX)
      have HbX := Mx.hid (bs_inc hX)
      have HlX := Mx.hid (show i < (bs X).length by rw [bs_len]; exact hX)
      have HNX : Hid ((X.set i (X[i] + 1)).length = b.length) := Mx.hid (by rw [List.length_set]; exact Hl.out)
      generalize X[i] = p at *
      clear hX
      go_wp2_with (first | ((with_reducible show wpList _ _ _ _ _ _); refine wpl_want rfl ?_) | ((with_reducible show wpList _ _ _ _ _ _); refine wpl_store1 rfl 5 _ _ rfl hs (i) rfl (.int .u8 (((p.toNat : Int) + 1) % 256)) rfl rfl (by kernel_rfl) HlX.out rfl ?_; intro w7 ht1))
      case roundEnd => exact ⟨⟨i + 1, X.set i (p + 1), by omega, by go_num, HNX, ht1.cast rfl HbX.out⟩, by simp [intOf]; omega⟩
    · have hs4 : St w wr [LZ g v b false] [rdb v b] := hs.tail
      clear hs
      go_wp2_with (first | ((with_reducible show wpList _ _ _ _ _ _); refine wpl_want rfl ?_))
      refine (HRD.out wr (hs4.old HB.out)).mono ?_
      rintro e w4 ⟨rfl, hk4⟩
      have hs5 := hs4.call0 hk4
      clear hs4 hk4
      have HS5 := Mx.hid hs5
      clear hs5
      generalize str (hexL (sha b)) = d at *
      have t0 : (d.toList != d.toList) = false := by simp
      go_wp2_with (first | ((with_reducible show wpList _ _ _ _ _ _); refine wpl_want rfl ?_))
      go_loopw [9] (fun z wr => ∃ (i : Nat) (k : Bool), (i : Int) ≤ n ∧ z = .int .i64 i ∧ St w wr [LZ g v b k] [rdb v b]) (fun z _ => n.toNat - (intOf z).toNat)
      case atStart => exact ⟨0, false, by omega, rfl, HS5.out⟩
      case round =>
        obtain ⟨i, k, hi, rfl, hs⟩ := hrel
        clear HS5
        by_cases hlt : (i : Int) < n
        · go_wp2_with (first | ((with_reducible show wpList _ _ _ _ _ _); refine wpl_want rfl ?_) | (go_at_call 35; refine (HID1.out _ _ k hs).mono ?_; rintro e w5 ⟨rfl, hs6⟩) | (go_at_call 36; refine (HTM.out _ _ hs6).mono ?_; rintro e w' ⟨rfl, rfl⟩))
          case roundEnd => exact ⟨⟨i + 1, true, by omega, by go_num, hs6⟩, by simp [intOf]; omega⟩
        · go_wp2_with (first | ((with_reducible show wpList _ _ _ _ _ _); refine wpl_want rfl ?_))
          refine (HBY.out _ _ k hs).mono ?_
          rintro e w6 ⟨vo, rfl, hk6⟩
          have hs7 := hs.call1 hk6
          clear hs hk6
          obtain ⟨yo, yc, rfl, _⟩ := id hs7.sl0
          go_wp2_with (first | ((with_reducible show wpList _ _ _ _ _ _); refine wpl_want rfl ?_))
          refine (bytes_any _ _ b b w6 hs7.sl0 (hs7.old HB.out)).mono ?_
          rintro e w' ⟨rfl, rfl⟩
          rw [decide_eq_true rfl]
          have HS7 := Mx.hid hs7
          clear hs7
          go_wp2_with (first | ((with_reducible show wpList _ _ _ _ _ _); refine wpl_want rfl ?_))
          go_loopw [11] (fun z wr => ∃ (i : Nat) (X : List UInt8), i ≤ b.length ∧ z = .int .i64 i ∧ Hid (X.length = b.length) ∧ St w wr [⟨.slice yo b.length yc, 5, 1, b.length, bs X⟩, LZ g v b k] [rdb v b]) (fun z _ => b.length - (intOf z).toNat)
          case atStart => exact ⟨0, b, by omega, rfl, rfl, HS7.out⟩
          case round =>
            obtain ⟨i, X, hi, rfl, Hl, hs⟩ := hrel
            clear HS7
            by_cases hlt : i < b.length
            · have hX : i < X.length := by have := Hl.out; omega
              obtain ⟨gx, cx, hv, _, _, hx1, hx2⟩ := hs.form0 (by omega)
              simp only [Value.slice.injEq, true_and] at hv
              obtain ⟨rfl, rfl⟩ := hv
              have c1 : wr.cell? ⟨gx, i, none⟩ = some (.int .u8 (X[i].toNat : Int)) := hs.cell (bs_get hX)
              have HbX := Mx.hid (bs_inc hX)
              have HlX := Mx.hid (show i < (bs X).length by rw [bs_len]; exact hX)
              have HNX : Hid ((X.set i (X[i] + 1)).length = b.length) := Mx.hid (by rw [List.length_set]; exact Hl.out)
              generalize X[i] = p at *
              clear hX
              go_wp2_with (first | ((with_reducible show wpList _ _ _ _ _ _); refine wpl_want rfl ?_) | ((with_reducible show wpList _ _ _ _ _ _); refine wpl_store1 rfl 5 _ _ rfl hs (i) rfl (.int .u8 (((p.toNat : Int) + 1) % 256)) rfl rfl (by kernel_rfl) HlX.out rfl ?_; intro w7 ht1))
              case roundEnd => exact ⟨⟨i + 1, X.set i (p + 1), by omega, by go_num, HNX, ht1.cast rfl HbX.out⟩, by simp [intOf]; omega⟩
            · have hs8 : St w wr [LZ g v b k] [rdb v b] := hs.tail
              clear hs
              have t1 : (d.toList == d.toList) = true := by simp
              go_wp2_with (first | ((with_reducible show wpList _ _ _ _ _ _); refine wpl_want rfl ?_))
              refine (HE.out _ _ _ hs8).mono ?_
              rintro e w7 ⟨rfl, hs9⟩
              clear hs8
              go_wp2_with (first | ((with_reducible show wpList _ _ _ _ _ _); refine wpl_want rfl ?_))
              refine (HBY.out _ _ k hs9).mono ?_
              rintro e w8 ⟨vq, rfl, hk8⟩
              have hsA := hs9.call0 hk8.bare
              have hq := hk8.sl0
              clear hs9 hk8
              go_wp2_with (first | ((with_reducible show wpList _ _ _ _ _ _); refine wpl_want rfl ?_))
              refine (bytes_any _ _ b b w8 hq (hsA.old HB.out)).mono ?_
              rintro e w' ⟨rfl, rfl⟩
              rw [decide_eq_true rfl]
              clear hq
              go_wp2_with (first | ((with_reducible show wpList _ _ _ _ _ _); refine wpl_want rfl ?_) | (go_at_call 35; refine (HID1.out _ _ k hsA).mono ?_; rintro e w5 ⟨rfl, hsB⟩) | (go_at_call 36; refine (HTM.out _ _ hsB).mono ?_; rintro e w' ⟨rfl, rfl⟩))
              go_ret
              exact ⟨rfl, hsB.below⟩
end Go.Proofs.YtcgdpchekmapfaaDoor
