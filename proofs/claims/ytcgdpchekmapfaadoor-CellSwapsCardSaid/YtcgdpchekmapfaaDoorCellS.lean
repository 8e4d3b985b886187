/- marlaw3.CellSwaps. -/
import Derived.Test.YtcgdpchekmapfaaDoorCellT
import Derived.Test.YtcgdpchekmapfaaDoorRowCell
namespace Go.Proofs.YtcgdpchekmapfaaDoor
open Go.RowKit Go.Mx

set_option maxRecDepth 100000 in
set_option maxHeartbeats 4000000 in
theorem cellSwapsRow (s : ByteArray) (hsz : s.size ≤ maxLen) (v : Value) (l : List (Bool × ByteArray × ByteArray)) {w : World} (hv : Sl w 3 v l.length (l.flatMap putRow)) (hl : ∀ x ∈ l, PutOk x) (_w : World) (hL : Laid w) :
    Calls Tryd.prog 11 #[.string s, v] w fun e w' => e = .returned (.bool true) ∧ Below w.heap.size w w' := by
  have HL := Mx.hid (fun w' (R : List Row) (Q : List Rd) (h : St w w' R Q) => hL.keep h)
  obtain ⟨ao, cap, blk, off, rfl, hc1, hc2, _, hcell⟩ := hv.any
  have HC := Mx.hid (fun (i : Nat) (hi : i < l.length) => (show ao = some ⟨blk, off, none⟩ ∧ w.cell? ⟨blk, off + i * 3, none⟩ = some (.bool l[i].1) ∧ w.cell? ⟨blk, off + i * 3 + 1, none⟩ = some (.string l[i].2.1) ∧ w.cell? ⟨blk, off + i * 3 + 2, none⟩ = some (.string l[i].2.2) from by
    have g0 := hcell (i * 3 + 0) _ ((flat_get (k := 3) (fun _ => rfl) l (by omega) hi).trans (show (putRow l[i])[0]? = some (.bool l[i].1) from rfl))
    have g1 := hcell (i * 3 + 1) _ ((flat_get (k := 3) (fun _ => rfl) l (by omega) hi).trans (show (putRow l[i])[1]? = some (.string l[i].2.1) from rfl))
    have g2 := hcell (i * 3 + 2) _ ((flat_get (k := 3) (fun _ => rfl) l (by omega) hi).trans (show (putRow l[i])[2]? = some (.string l[i].2.2) from rfl))
    exact ⟨g0.1, g0.2, g1.2, g2.2⟩))
  have HB := Mx.hid (fun (i : Nat) (hi : i < l.length) => hl l[i] (List.getElem_mem hi))
  unfold maxLen at hsz
  clear hcell hv hl
  go_enter Tryd.func11, Tryd.ntmps11
  go_wp2_with fail
  refine (cfirst_any w hL).mono ?_
  rintro e w1 ⟨rfl, hs1⟩
  clear hL
  have hend : ∀ (w' : World) (R : List Row) (Q : List Rd), St w w' R Q → Calls Tryd.prog 33 #[] w' fun e w'' => e = .returned (.bool true) ∧ St w w'' R Q := fun w' R Q h => (cfirst_any _ (HL.out _ _ _ h)).mono fun _ _ ⟨h1, h2⟩ => ⟨h1, h.call0 h2⟩
  have HE := Mx.hid hend
  clear hend
  have HS1 := Mx.hid hs1
  clear hs1
  go_wp2_with (first | ((with_reducible show wpList _ _ _ _ _ _); refine wpl_want rfl ?_))
  go_loopw [5, 6] (fun x y wr => ∃ (i : Nat) (n : Int), i ≤ l.length ∧ i ≤ 300 ∧ x = .int .i64 n ∧ y = .int .i64 i ∧ St w wr [] []) (fun _ y _ => l.length - (intOf y).toNat)
  case atStart => exact ⟨0, s.size, by omega, by omega, rfl, rfl, HS1.out⟩
  case round =>
    obtain ⟨i, n, hi, hi3, rfl, rfl, hs⟩ := hrel
    clear HS1
    by_cases hgo : i < l.length ∧ i < 300
    · obtain ⟨hlt, h300⟩ := hgo
      obtain ⟨rfl, _, c1, c2⟩ := HC.out i hlt
      obtain ⟨b1, b2⟩ := HB.out i hlt
      unfold maxLen at b1 b2
      have c3 := hs.keep c1
      have c4 := hs.keep c2
      clear c1 c2
      generalize l[i].2.1 = o at *
      generalize l[i].2.2 = t at *
      have q1 : decide ((i : Int) < 300) = true := decide_eq_true (by omega)
      go_wp2_with (first | ((with_reducible show wpList _ _ _ _ _ _); refine wpl_want rfl ?_))
      go_quiet (fail)
      have hs2 := hs.drewN nq
      clear c3 c4
      go_wp2_with fail
      case roundEnd => exact ⟨⟨i + 1, _, by omega, by omega, rfl, by go_num, hs2⟩, by simp [intOf]; omega⟩
    · have hgo' : (i < l.length ∧ 300 ≤ i) ∨ l.length ≤ i := by omega
      clear hgo
      have HN := Mx.hid (newcell_any s wr)
      rcases hgo' with ⟨h1, h2⟩ | h1
      · have q1 : decide ((i : Int) < 300) = false := decide_eq_false (by omega)
        have q2 : decide ((300 : Int) < (l.length : Int)) = true := decide_eq_true (by omega)
        go_wp2_with (first | ((with_reducible show wpList _ _ _ _ _ _); refine wpl_want rfl ?_))
        refine HN.out.mono ?_
        rintro e w2 ⟨g, p, rfl, hk⟩
        have hs2 := hs.call hk
        go_wp2_with (first | ((with_reducible show wpList _ _ _ _ _ _); refine wpl_want rfl ?_) | (go_at_call 33; refine (HE.out _ _ _ hs2).mono ?_; rintro e w3 ⟨rfl, hs3⟩))
        go_ret
        exact ⟨rfl, hs3.below⟩
      have q2 : decide ((300 : Int) < (l.length : Int)) = false := decide_eq_false (by omega)
      have k3 : l.length ≤ 300 := by omega
      go_wp2_with (first | ((with_reducible show wpList _ _ _ _ _ _); refine wpl_want rfl ?_))
      refine HN.out.mono ?_
      rintro e w2 ⟨g, p, rfl, hk⟩
      have hs2 : St w w2 [PC g p, TX p s] [] := hs.call hk
      clear hk hs HN hi3
      by_cases hroom : 6000 < n
      · have q3 : decide ((6000 : Int) < n) = true := decide_eq_true hroom
        go_wp2_with (first | ((with_reducible show wpList _ _ _ _ _ _); refine wpl_want rfl ?_) | (go_at_call 33; refine (HE.out _ _ _ hs2).mono ?_; rintro e w3 ⟨rfl, hs3⟩))
        go_ret
        exact ⟨rfl, hs3.below⟩
      have q3 : decide ((6000 : Int) < n) = false := decide_eq_false hroom
      clear hroom
      have HS2 := Mx.hid hs2
      clear hs2
      go_wp2_with (first | ((with_reducible show wpList _ _ _ _ _ _); refine wpl_want rfl ?_))
      go_loopw [0, 8] (fun x y wr => ∃ (i p : Nat) (c : ByteArray), i ≤ l.length ∧ x = .string c ∧ y = .int .i64 i ∧ St w wr [PC g p, TX p c] []) (fun _ y _ => l.length - (intOf y).toNat)
      case atStart => exact ⟨0, p, s, by omega, rfl, rfl, HS2.out⟩
      case round =>
        obtain ⟨i, p, c, hi, rfl, rfl, hs⟩ := hrel
        clear HS2
        by_cases hlt : i < l.length
        · obtain ⟨rfl, c0, c1, c2⟩ := HC.out i hlt
          have HX := Mx.hid (fun (w' : World) (R : List Row) (Q : List Rd) (h : St w w' R Q) => (⟨h.keep c0, h.keep c1, h.keep c2⟩ : _ ∧ _ ∧ _))
          clear c0 c1 c2
          generalize l[i].1 = k at *
          generalize l[i].2.1 = o at *
          generalize l[i].2.2 = t at *
          have HSW := Mx.hid (fun wx (h : St w wx [PC g p, TX p c] []) => cellswap_any w wx [] [] g p c o t h)
          have HST := Mx.hid (fun wx (h : St w wx [PC g p, TX p c] []) => cellset_any w wx [] [] g p c t h)
          have HGT := Mx.hid (fun wx q x (h : St w wx [PC g q, TX q x] []) => cellget_any w wx [] [] g q x h)
          obtain ⟨c0, c1, c2⟩ := HX.out _ _ _ hs
          cases k with
          | true =>
            cases hb : (c.toList == o.toList) with
            | true =>
              rw [hb] at HSW
              go_wp2_with fail
              go_region_held3 (fun W' => W'.cell? ⟨blk, off + i * 3 + 1, none⟩ = some (.string o) ∧ W'.cell? ⟨blk, off + i * 3 + 2, none⟩ = some (.string t)) (first | exact (HX.out _ _ _ hs4).2 | go_keep) ((go_at_call 39; refine (HSW.out _ hs.drew).mono ?_; rintro e w4 ⟨q, rfl, hs4⟩; have hs4 : St w w4 [PC g q, TX q t] [] := by simpa using hs4))
              clear c0 c1 c2
              obtain ⟨_, _, c2⟩ := HX.out _ _ _ hs4
              go_wp2_with (go_at_call 41; refine (HGT.out _ q t hs4).mono ?_; rintro e w' ⟨rfl, rfl⟩)
              case roundEnd => exact ⟨⟨i + 1, q, t, by omega, rfl, by go_num, hs4⟩, by simp [intOf]; omega⟩
            | false =>
              rw [hb] at HSW
              go_wp2_with fail
              go_region_held3 (fun W' => W'.cell? ⟨blk, off + i * 3 + 1, none⟩ = some (.string o) ∧ W'.cell? ⟨blk, off + i * 3 + 2, none⟩ = some (.string t)) (first | exact (HX.out _ _ _ hs4).2 | go_keep) ((go_at_call 39; refine (HSW.out _ hs.drew).mono ?_; rintro e w4 ⟨q, rfl, hs4⟩; have hs4 : St w w4 [PC g q, TX q c] [] := by simpa using hs4))
              clear c0 c1 c2
              obtain ⟨_, _, c2⟩ := HX.out _ _ _ hs4
              go_wp2_with (go_at_call 41; refine (HGT.out _ q c hs4).mono ?_; rintro e w' ⟨rfl, rfl⟩)
              case roundEnd => exact ⟨⟨i + 1, q, c, by omega, rfl, by go_num, hs4⟩, by simp [intOf]; omega⟩
          | false =>
            go_wp2_with (first | (go_at_call 40; refine (HST.out _ hs).mono ?_; rintro e w4 ⟨q, rfl, hs4⟩; obtain ⟨_, _, c2⟩ := HX.out _ _ _ hs4) | (go_at_call 41; refine (HGT.out _ q t hs4).mono ?_; rintro e w' ⟨rfl, rfl⟩))
            case roundEnd => exact ⟨⟨i + 1, q, t, by omega, rfl, by go_num, hs4⟩, by simp [intOf]; omega⟩
        · go_wp2_with (first | ((with_reducible show wpList _ _ _ _ _ _); refine wpl_want rfl ?_) | (go_at_call 33; refine (HE.out _ _ _ hs).mono ?_; rintro e w4 ⟨rfl, hs4⟩))
          go_ret
          exact ⟨rfl, hs4.below⟩
end Go.Proofs.YtcgdpchekmapfaaDoor
