/- Walks of the document's messages: Same, May, Plain. -/
import Derived.Test.YtloogjdafhjheaaDoorJAPmS
import Derived.Test.YtloogjdafhjheaaDoorJHPmR
namespace Go.Proofs.YtloogjdafhjheaaDoor
open Go.RowKit Go.Mx
set_option maxRecDepth 100000 in
set_option maxHeartbeats 4000000 in
theorem rsameP_any (iv dv iv' dv' : Value) (m m' : Ms) (w : World) (h : MB w iv dv m) (h' : MB w iv' dv' m') :
    Calls Tryd.prog 17 #[MV iv dv m, MV iv' dv' m'] w fun e w' => e = .returned (.bool (decide (m = m'))) ∧ St w w' [] [] := by
  obtain ⟨k1, s1, n1, m1, ids, data⟩ := m
  obtain ⟨k2, s2, n2, m2, ids', data'⟩ := m'
  have HM : Hid (decide ((⟨k1, s1, n1, m1, ids, data⟩ : Ms) = ⟨k2, s2, n2, m2, ids', data'⟩) = ((k1 == k2) && ((s1 == s2) && ((n1 == n2) && ((m1 == m2) && (decide (ids = ids') && decide (data = data'))))))) := by
    show _ = _
    rw [Bool.eq_iff_iff]
    simp
  have HS := Mx.hid (fun wz {R Q} (hz : St w wz R Q) => texts_any iv iv' ids ids' wz (hz.old h.i) (hz.old h'.i))
  have HD := Mx.hid (fun wz {R Q} (hz : St w wz R Q) => bytes_any dv dv' data data' wz (hz.old h.d) (hz.old h'.d))
  generalize decide ((⟨k1, s1, n1, m1, ids, data⟩ : Ms) = ⟨k2, s2, n2, m2, ids', data'⟩) = ans at *
  generalize decide (ids = ids') = b5 at *
  generalize decide (data = data') = b6 at *
  unfold MV
  clear h h'
  go_enter Tryd.func17, Tryd.ntmps17
  go_upto_region 1 with (first | (((with_reducible show wpList _ _ _ _ _ _); refine wpl_box rfl 32 _ rfl (St.refl w) ([.int .i64 k1, .int .i64 s1, .int .i64 n1, .int .i64 m1, iv, dv]) (by rfl) ?_; intro gx wx hsx)) | (((with_reducible show wpList _ _ _ _ _ _); refine wpl_box rfl 32 _ rfl hsx ([.int .i64 k2, .int .i64 s2, .int .i64 n2, .int .i64 m2, iv', dv']) (by rfl) ?_; intro gy wy hsy)))
  have x0 := hsy.rcell (List.mem_cons_of_mem _ (List.mem_singleton.2 rfl)) (j := 0) rfl
  have x1 := hsy.rcell (List.mem_cons_of_mem _ (List.mem_singleton.2 rfl)) (j := 1) rfl
  have x2 := hsy.rcell (List.mem_cons_of_mem _ (List.mem_singleton.2 rfl)) (j := 2) rfl
  have x3 := hsy.rcell (List.mem_cons_of_mem _ (List.mem_singleton.2 rfl)) (j := 3) rfl
  have x4 := hsy.rcell (List.mem_cons_of_mem _ (List.mem_singleton.2 rfl)) (j := 4) rfl
  have y0 := hsy.cell (j := 0) rfl
  have y1 := hsy.cell (j := 1) rfl
  have y2 := hsy.cell (j := 2) rfl
  have y3 := hsy.cell (j := 3) rfl
  have y4 := hsy.cell (j := 4) rfl
  cases q1 : (k1 == k2) with
  | false => as_aux_lemma =>
    rw [q1] at HM
    go_wp2_with (first | ((with_reducible show wpList _ _ _ _ _ _); refine wpl_want rfl ?_) | (go_at_call 37; refine (HS.out _ hsy).mono ?_; rintro e wz ⟨rfl, hk⟩; replace hs := hsy.call0 hk; have x5 := hs.rcell (List.mem_cons_of_mem _ (List.mem_singleton.2 rfl)) (j := 5) rfl; have y5 := hs.cell (j := 5) rfl) | (go_at_call 14; refine (HD.out _ hs).mono ?_; rintro e wz2 ⟨rfl, rfl⟩))
    go_ret
    exact ⟨by rw [HM.out]; rfl, hsy.bare⟩
  | true =>
  rw [q1, Bool.true_and] at HM
  cases q2 : (s1 == s2) with
  | false => as_aux_lemma =>
    rw [q2] at HM
    go_wp2_with (first | ((with_reducible show wpList _ _ _ _ _ _); refine wpl_want rfl ?_) | (go_at_call 37; refine (HS.out _ hsy).mono ?_; rintro e wz ⟨rfl, hk⟩; replace hs := hsy.call0 hk; have x5 := hs.rcell (List.mem_cons_of_mem _ (List.mem_singleton.2 rfl)) (j := 5) rfl; have y5 := hs.cell (j := 5) rfl) | (go_at_call 14; refine (HD.out _ hs).mono ?_; rintro e wz2 ⟨rfl, rfl⟩))
    go_ret
    exact ⟨by rw [HM.out]; rfl, hsy.bare⟩
  | true =>
  rw [q2, Bool.true_and] at HM
  cases q3 : (n1 == n2) with
  | false => as_aux_lemma =>
    rw [q3] at HM
    go_wp2_with (first | ((with_reducible show wpList _ _ _ _ _ _); refine wpl_want rfl ?_) | (go_at_call 37; refine (HS.out _ hsy).mono ?_; rintro e wz ⟨rfl, hk⟩; replace hs := hsy.call0 hk; have x5 := hs.rcell (List.mem_cons_of_mem _ (List.mem_singleton.2 rfl)) (j := 5) rfl; have y5 := hs.cell (j := 5) rfl) | (go_at_call 14; refine (HD.out _ hs).mono ?_; rintro e wz2 ⟨rfl, rfl⟩))
    go_ret
    exact ⟨by rw [HM.out]; rfl, hsy.bare⟩
  | true =>
  rw [q3, Bool.true_and] at HM
  cases q4 : (m1 == m2) with
  | false => as_aux_lemma =>
    rw [q4] at HM
    go_wp2_with (first | ((with_reducible show wpList _ _ _ _ _ _); refine wpl_want rfl ?_) | (go_at_call 37; refine (HS.out _ hsy).mono ?_; rintro e wz ⟨rfl, hk⟩; replace hs := hsy.call0 hk; have x5 := hs.rcell (List.mem_cons_of_mem _ (List.mem_singleton.2 rfl)) (j := 5) rfl; have y5 := hs.cell (j := 5) rfl) | (go_at_call 14; refine (HD.out _ hs).mono ?_; rintro e wz2 ⟨rfl, rfl⟩))
    go_ret
    exact ⟨by rw [HM.out]; rfl, hsy.bare⟩
  | true =>
  rw [q4, Bool.true_and] at HM
  cases b5 with
  | false => as_aux_lemma =>
    go_wp2_with (first | ((with_reducible show wpList _ _ _ _ _ _); refine wpl_want rfl ?_) | (go_at_call 37; refine (HS.out _ hsy).mono ?_; rintro e wz ⟨rfl, hk⟩; replace hs := hsy.call0 hk; have x5 := hs.rcell (List.mem_cons_of_mem _ (List.mem_singleton.2 rfl)) (j := 5) rfl; have y5 := hs.cell (j := 5) rfl) | (go_at_call 14; refine (HD.out _ hs).mono ?_; rintro e wz2 ⟨rfl, rfl⟩))
    go_ret
    exact ⟨by rw [HM.out]; rfl, hs.bare⟩
  | true => as_aux_lemma =>
    go_wp2_with (first | ((with_reducible show wpList _ _ _ _ _ _); refine wpl_want rfl ?_) | (go_at_call 37; refine (HS.out _ hsy).mono ?_; rintro e wz ⟨rfl, hk⟩; replace hs := hsy.call0 hk; have x5 := hs.rcell (List.mem_cons_of_mem _ (List.mem_singleton.2 rfl)) (j := 5) rfl; have y5 := hs.cell (j := 5) rfl) | (go_at_call 14; refine (HD.out _ hs).mono ?_; rintro e wz2 ⟨rfl, rfl⟩))
    go_ret
    exact ⟨by rw [HM.out]; rfl, hs.bare⟩
set_option maxRecDepth 100000 in
set_option maxHeartbeats 4000000 in
theorem rmayP_any (iv dv : Value) (m : Ms) (w : World) (h : MB w iv dv m) (hz : ∀ x ∈ m.ids, x.size ≤ 140737488355328) :
    Calls Tryd.prog 16 #[MV iv dv m] w fun e w' => e = .returned (.bool (mayM m)) ∧ St w w' [] [] := by
  obtain ⟨kind, seq, n, mm, ids, data⟩ := m
  have HM : Hid (mayM ⟨kind, seq, n, mm, ids, data⟩ = (ids.all validB && (decide (1 ≤ kind) && (decide (kind ≤ 7) && (decide (0 ≤ seq) && (decide (seq ≤ 1073741824) && (decide (0 ≤ n) && (decide (n ≤ 1073741824) && (decide (0 ≤ mm) && (decide (mm ≤ 1073741824) && (decide ((ids.length : Int) ≤ 64) && decide ((data.length : Int) ≤ 1000)))))))))))) := by
    show _ = _
    rw [Bool.eq_iff_iff]
    simp only [mayM, okN, Bool.and_eq_true, decide_eq_true_eq]
    constructor
    · rintro ⟨⟨⟨⟨⟨⟨⟨k1, k2⟩, s1, s2⟩, n1, n2⟩, m1, m2⟩, ha⟩, hl⟩, hd⟩
      exact ⟨ha, k1, k2, s1, s2, n1, n2, m1, m2, by omega, by omega⟩
    · rintro ⟨ha, k1, k2, s1, s2, n1, n2, m1, m2, hl, hd⟩
      exact ⟨⟨⟨⟨⟨⟨⟨k1, k2⟩, s1, s2⟩, n1, n2⟩, m1, m2⟩, ha⟩, by omega⟩, by omega⟩
  generalize mayM ⟨kind, seq, n, mm, ids, data⟩ = ans at *
  have hi := h.i
  have hd := h.d
  simp only [] at hi hd hz
  obtain ⟨io, ic, blk, off, rfl, i1, i2, _, hic⟩ := hi.txt
  obtain ⟨dq, dc, rfl, d1, d2, -⟩ := hd.form
  have HC := Mx.hid hic
  have HV := Mx.hid (fun (k : Nat) (hk : k < ids.length) wx => rvalid_any ids[k] wx (hz _ (List.getElem_mem hk)))
  unfold maxLen at d2
  unfold MV
  clear h hi hd hz hic
  go_enter Tryd.func16, Tryd.ntmps16
  go_upto_region 1 with (((with_reducible show wpList _ _ _ _ _ _); refine wpl_box rfl 32 _ rfl (St.refl w) ([.int .i64 kind, .int .i64 seq, .int .i64 n, .int .i64 mm, .slice io ids.length ic, .slice dq data.length dc]) (by rfl) ?_; intro gx wx hsx))
  go_wp2_with fail
  go_loopw [3] (fun y wr => ∃ i : Nat, i ≤ ids.length ∧ y = .int .i64 i ∧ Hid ((ids.take i).all validB = true) ∧ St w wr [(⟨.slice (some ⟨gx, 0, none⟩) 1 1, 32, 6, 1, [.int .i64 kind, .int .i64 seq, .int .i64 n, .int .i64 mm, .slice io ids.length ic, .slice dq data.length dc]⟩ : Row)] []) (fun y _ => ids.length - (intOf y).toNat)
  case atStart => exact ⟨0, by omega, rfl, by simp [Hid], hsx⟩
  case round =>
    clear hsx
    obtain ⟨i, hi, rfl, HA, hs⟩ := hrel
    have x0 := hs.cell (j := 0) rfl
    have x1 := hs.cell (j := 1) rfl
    have x2 := hs.cell (j := 2) rfl
    have x3 := hs.cell (j := 3) rfl
    have x4 := hs.cell (j := 4) rfl
    have x5 := hs.cell (j := 5) rfl
    by_cases hlt : i < ids.length
    · obtain ⟨rfl, c0⟩ := HC.out i hlt
      replace c0 := hs.keep c0
      have HVI := Mx.hid (HV.out i hlt)
      have HSN := Mx.hid (pm_snoc hlt validB)
      have HNO := Mx.hid (fun h => pm_not (p := validB) hlt h)
      have HVB : Hid (((unhexL ids[i].data.toList).any fun r => decide (r.length = 32)) = validB ids[i]) := rfl
      rw [HVB.out] at HVI
      generalize validB ids[i] = bv at *
      generalize ids[i] = s at *
      have hii : (i : Int) < (ids.length : Int) := by omega
      cases bv with
      | false =>
        rw [HNO.out rfl] at HM
        go_wp2_with (first | ((with_reducible show wpList _ _ _ _ _ _); refine wpl_want rfl ?_) | (go_at_call 36; refine (HVI.out _).mono ?_; rintro e w2 ⟨rfl, hk⟩; replace hs := hs.call0 hk))
        go_ret
        exact ⟨by rw [HM.out]; rfl, hs.bare⟩
      | true =>
        go_wp2_with (first | ((with_reducible show wpList _ _ _ _ _ _); refine wpl_want rfl ?_) | (go_at_call 36; refine (HVI.out _).mono ?_; rintro e w2 ⟨rfl, hk⟩; replace hs := hs.call0 hk))
        exact ⟨⟨i + 1, by omega, by go_num, by show _ = _; rw [HSN.out, HA.out]; rfl, hs⟩, by simp [intOf]; omega⟩
    · have HA2 : Hid (ids.all validB = true) := by
        have := HA.out
        rwa [List.take_of_length_le (by omega)] at this
      have hge : decide ((i : Int) < (ids.length : Int)) = false := decide_eq_false (by omega)
      rw [HA2.out, Bool.true_and] at HM
      clear HV HC HA HA2
      cases q0 : decide (1 ≤ kind) with
      | false =>
        rw [q0] at HM
        go_wp2_with ((with_reducible show wpList _ _ _ _ _ _); refine wpl_want rfl ?_)
        go_ret
        exact ⟨by rw [HM.out]; rfl, hs.bare⟩
      | true =>
      rw [q0, Bool.true_and] at HM
      cases q1 : decide (kind ≤ 7) with
      | false =>
        rw [q1] at HM
        go_wp2_with ((with_reducible show wpList _ _ _ _ _ _); refine wpl_want rfl ?_)
        go_ret
        exact ⟨by rw [HM.out]; rfl, hs.bare⟩
      | true =>
      rw [q1, Bool.true_and] at HM
      cases q2 : decide (0 ≤ seq) with
      | false =>
        rw [q2] at HM
        go_wp2_with ((with_reducible show wpList _ _ _ _ _ _); refine wpl_want rfl ?_)
        go_ret
        exact ⟨by rw [HM.out]; rfl, hs.bare⟩
      | true =>
      rw [q2, Bool.true_and] at HM
      cases q3 : decide (seq ≤ 1073741824) with
      | false =>
        rw [q3] at HM
        go_wp2_with ((with_reducible show wpList _ _ _ _ _ _); refine wpl_want rfl ?_)
        go_ret
        exact ⟨by rw [HM.out]; rfl, hs.bare⟩
      | true =>
      rw [q3, Bool.true_and] at HM
      cases q4 : decide (0 ≤ n) with
      | false =>
        rw [q4] at HM
        go_wp2_with ((with_reducible show wpList _ _ _ _ _ _); refine wpl_want rfl ?_)
        go_ret
        exact ⟨by rw [HM.out]; rfl, hs.bare⟩
      | true =>
      rw [q4, Bool.true_and] at HM
      cases q5 : decide (n ≤ 1073741824) with
      | false =>
        rw [q5] at HM
        go_wp2_with ((with_reducible show wpList _ _ _ _ _ _); refine wpl_want rfl ?_)
        go_ret
        exact ⟨by rw [HM.out]; rfl, hs.bare⟩
      | true =>
      rw [q5, Bool.true_and] at HM
      cases q6 : decide (0 ≤ mm) with
      | false =>
        rw [q6] at HM
        go_wp2_with ((with_reducible show wpList _ _ _ _ _ _); refine wpl_want rfl ?_)
        go_ret
        exact ⟨by rw [HM.out]; rfl, hs.bare⟩
      | true =>
      rw [q6, Bool.true_and] at HM
      cases q7 : decide (mm ≤ 1073741824) with
      | false =>
        rw [q7] at HM
        go_wp2_with ((with_reducible show wpList _ _ _ _ _ _); refine wpl_want rfl ?_)
        go_ret
        exact ⟨by rw [HM.out]; rfl, hs.bare⟩
      | true =>
      rw [q7, Bool.true_and] at HM
      cases q8 : decide ((ids.length : Int) ≤ 64) with
      | false =>
        rw [q8] at HM
        go_wp2_with ((with_reducible show wpList _ _ _ _ _ _); refine wpl_want rfl ?_)
        go_ret
        exact ⟨by rw [HM.out]; rfl, hs.bare⟩
      | true =>
      rw [q8, Bool.true_and] at HM
      cases q10 : decide ((data.length : Int) ≤ 1000) with
      | false =>
        rw [q10] at HM
        go_wp2_with ((with_reducible show wpList _ _ _ _ _ _); refine wpl_want rfl ?_)
        go_ret
        exact ⟨by rw [HM.out]; rfl, hs.bare⟩
      | true =>
        rw [q10] at HM
        go_wp2_with ((with_reducible show wpList _ _ _ _ _ _); refine wpl_want rfl ?_)
        go_ret
        exact ⟨by rw [HM.out]; rfl, hs.bare⟩
end Go.Proofs.YtloogjdafhjheaaDoor
