/- Walks of the document's Rises, valid, Msg, items. -/
import Derived.Test.YtloogjdafhjheaaGreatObjO
import Derived.Test.YtloogjdafhjheaaGreatJ5RVal
import Derived.Test.YtloogjdafhjheaaGreatJ21RName
namespace Go.Proofs.YtloogjdafhjheaaGreat
open Go.RowKit Go.Mx

theorem rvalidL_any (v : Value) (l : List ByteArray) (w : World) (hv : Sl w 1 v l.length (ss l)) (hl : ∀ s ∈ l, s.size ≤ 140737488351232) :
    Calls Tryz.prog 90 #[v] w fun e w' => e = .returned (.bool (l.all validB)) ∧ St w w' [] [] := by
  obtain ⟨ao, cap, blk, off, rfl, h1, h2, _, hc⟩ := hv.txt
  have HC := Mx.hid hc
  have HZ := Mx.hid (fun (i : Nat) (hi : i < l.length) => hl l[i] (List.getElem_mem hi))
  clear hv hc hl
  go_enter Tryz.func90, Tryz.ntmps90
  go_wp2_with fail
  go_loopw [3] (fun y wr => ∃ i : Nat, i ≤ l.length ∧ y = .int .i64 i ∧ Hid ((l.take i).all validB = true) ∧ St w wr [] []) (fun y _ => l.length - (intOf y).toNat)
  case atStart => exact ⟨0, by omega, rfl, Mx.hid rfl, St.refl w⟩
  case round =>
    obtain ⟨i, hi, rfl, HA, hs⟩ := hrel
    by_cases hlt : i < l.length
    · obtain ⟨rfl, c0⟩ := HC.out i hlt
      replace c0 := hs.keep c0
      have hz := HZ.out i hlt
      have HS := Mx.hid (lall_snoc (p := validB) hlt)
      have HN := Mx.hid (fun h => lall_not (p := validB) hlt h)
      have HV := Mx.hid (fun wx => (rvalid_any l[i] wx (by omega)).mono fun e w' h => (show e = .returned (.bool (validB l[i])) ∧ St wx w' [] [] from h))
      clear hz
      cases hb : validB l[i] with
      | false =>
        have HF := Mx.hid (HN.out hb)
        rw [hb] at HV
        clear hb
        generalize l[i] = s at *
        go_wp2_with (first | ((with_reducible show wpList _ _ _ _ _ _); refine wpl_want rfl ?_) | (go_at_call 71; refine (HV.out _).mono ?_; rintro e w2 ⟨rfl, hk⟩))
        go_ret
        exact ⟨by rw [HF.out]; rfl, (hs.call0 hk).bare⟩
      | true =>
        rw [hb] at HV HS
        clear hb HN
        generalize l[i] = s at *
        go_wp2_with (first | ((with_reducible show wpList _ _ _ _ _ _); refine wpl_want rfl ?_) | (go_at_call 71; refine (HV.out _).mono ?_; rintro e w2 ⟨rfl, hk⟩))
        exact ⟨⟨i + 1, by omega, by go_num, Mx.hid (by rw [HS.out, HA.out]; rfl), hs.call0 hk⟩, by simp [intOf]; omega⟩
    · have HF := Mx.hid (show l.all validB = true by have := HA.out; rwa [List.take_of_length_le (by omega)] at this)
      go_wp2_with fail
      go_ret
      exact ⟨by rw [HF.out]; rfl, hs⟩
set_option maxHeartbeats 1000000 in
theorem rmsg_any (s : ByteArray) (w : World) (hs : s.size ≤ maxLen) :
    Calls Tryz.prog 92 #[.string s] w fun e w' => e = .returned (.bool (msgB s)) ∧ w = w' := by
  unfold maxLen at hs
  go_enter Tryz.func92, Tryz.ntmps92
  go_wp2_with fail
  go_loop [3] (fun y => ∃ i : Nat, i ≤ s.size ∧ y = .int .i64 i ∧ Hid (((bL s).take i).all msc = true)) (fun y => s.size - (intOf y).toNat)
  case atStart => exact ⟨0, by omega, rfl, by simp [Hid]⟩
  case round =>
    obtain ⟨i, hi, rfl, HA⟩ := hrel
    by_cases hlt : i < s.size
    · have HS := Mx.hid (all_snoc (p := msc) hlt)
      have HN := Mx.hid (all_not (p := msc) hlt)
      have hc : (s[i].toNat : Int) < 32 ∨ (32 ≤ (s[i].toNat : Int) ∧ 126 < (s[i].toNat : Int)) ∨ (32 ≤ (s[i].toNat : Int) ∧ (s[i].toNat : Int) ≤ 126) := by omega
      rcases hc with h | ⟨h, h2⟩ | ⟨h, h2⟩
      · have q1 : decide ((s[i].toNat : Int) < 32) = true := decide_eq_true h
        have hf : msgB s = false := by
          unfold msgB
          rw [show (bL s).all (fun c => decide (32 ≤ c.toNat ∧ c.toNat ≤ 126)) = false from HN.out (by unfold msc; simp; omega)]
          rfl
        have HF := Mx.hid hf
        clear hf
        go_wp2_with (first | ((with_reducible show wpList _ _ _ _ _ _); refine wpl_want rfl ?_))
        go_ret
        exact ⟨by rw [HF.out]; rfl, rfl⟩
      · have q1 : decide ((s[i].toNat : Int) < 32) = false := decide_eq_false (by omega)
        have q2 : decide (126 < (s[i].toNat : Int)) = true := decide_eq_true h2
        have hf : msgB s = false := by
          unfold msgB
          rw [show (bL s).all (fun c => decide (32 ≤ c.toNat ∧ c.toNat ≤ 126)) = false from HN.out (by unfold msc; simp; omega)]
          rfl
        have HF := Mx.hid hf
        clear hf
        go_wp2_with (first | ((with_reducible show wpList _ _ _ _ _ _); refine wpl_want rfl ?_))
        go_ret
        exact ⟨by rw [HF.out]; rfl, rfl⟩
      · have q1 : decide ((s[i].toNat : Int) < 32) = false := decide_eq_false (by omega)
        have q2 : decide (126 < (s[i].toNat : Int)) = false := decide_eq_false (by omega)
        have hb : msc s[i] = true := by unfold msc; simp; omega
        have HB := Mx.hid hb
        clear hb
        go_wp2_with (first | ((with_reducible show wpList _ _ _ _ _ _); refine wpl_want rfl ?_))
        case roundEnd => exact ⟨⟨i + 1, by omega, by go_num, by show _ = true; rw [HS.out, HA.out, HB.out]; rfl⟩, by simp [intOf]; omega⟩
    · have HF := Mx.hid (show msgB s = decide (s.size ≤ 200) by
        unfold msgB
        rw [show (bL s).all (fun c => decide (32 ≤ c.toNat ∧ c.toNat ≤ 126)) = true from all_full (p := msc) (by omega) HA.out, Bool.true_and])
      go_wp2_with fail
      go_ret
      exact ⟨by rw [HF.out, le_dec]; rfl, rfl⟩
set_option maxRecDepth 100000 in
set_option maxHeartbeats 4000000 in
theorem ritems_any (v : Value) (l : List Itm) (w : World) (hv : Sl w 3 v l.length (itms l)) (hl : ∀ x ∈ l, x.2.1.size ≤ 140737488351232 ∧ x.2.2.size ≤ 140737488351232 ∧ -9223372036854775808 ≤ x.1 ∧ x.1 ≤ 9223372036854775807) :
    Calls Tryz.prog 89 #[v] w fun e w' => e = .returned (.bool (itemsB l)) ∧ St w w' [] [] := by
  obtain ⟨ao, cap, blk, off, rfl, hc1, hc2, _, hcell⟩ := hv.anyC
  have HC := Mx.hid (fun (i : Nat) (hi : i < l.length) => (show ao = some ⟨blk, off, none⟩ ∧ w.cell? ⟨blk, off + i * 3, none⟩ = some (.int .i64 l[i].1) ∧ w.cell? ⟨blk, off + i * 3 + 1, none⟩ = some (.string l[i].2.1) ∧ w.cell? ⟨blk, off + i * 3 + 2, none⟩ = some (.string l[i].2.2) from by
    have g0 := hcell (i * 3 + 0) _ ((flat_get (k := 3) (fun _ => rfl) l (by omega) hi).trans (show (itmRow l[i])[0]? = some (.int .i64 l[i].1) from rfl))
    have g1 := hcell (i * 3 + 1) _ ((flat_get (k := 3) (fun _ => rfl) l (by omega) hi).trans (show (itmRow l[i])[1]? = some (.string l[i].2.1) from rfl))
    have g2 := hcell (i * 3 + 2) _ ((flat_get (k := 3) (fun _ => rfl) l (by omega) hi).trans (show (itmRow l[i])[2]? = some (.string l[i].2.2) from rfl))
    exact ⟨g0.1, g0.2, g1.2, g2.2⟩))
  have HZ := Mx.hid (fun (i : Nat) (hi : i < l.length) => hl l[i] (List.getElem_mem hi))
  clear hv hcell hl
  go_enter Tryz.func89, Tryz.ntmps89
  go_wp2_with fail
  go_loopw [3] (fun y wr => ∃ i : Nat, i ≤ l.length ∧ y = .int .i64 i ∧ Hid ((l.take i).all itemB = true ∧ risesB ((l.map fun x => x.2.1).take i) = true) ∧ St w wr [] []) (fun y _ => l.length - (intOf y).toNat)
  case atStart => exact ⟨0, by omega, rfl, Mx.hid ⟨rfl, rfl⟩, St.refl w⟩
  case round =>
    obtain ⟨i, hi, rfl, HA, hs⟩ := hrel
    by_cases hlt : i < l.length
    · obtain ⟨rfl, c0, c1, c2⟩ := HC.out i hlt
      have c0 := hs.keep c0
      have c1 := hs.keep c1
      have c2 := hs.keep c2
      obtain ⟨z1, z2, z3, z4⟩ := HZ.out i hlt
      have HNI := Mx.hid (fun h => (show itemsB l = false by unfold itemsB; rw [lall_not (p := itemB) hlt h]; rfl))
      have HS := Mx.hid (lall_snoc (p := itemB) hlt)
      have HNM := Mx.hid (fun wx => refName_any l[i].2.1 wx (by unfold maxLen; omega))
      have HVL := Mx.hid (fun wx => (rvalid_any l[i].2.2 wx (by omega)).mono fun e w' h => (show e = .returned (.bool (validB l[i].2.2)) ∧ St wx w' [] [] from h))
      have HIB : Hid (itemB l[i] = (decide (1 ≤ l[i].1 ∧ l[i].1 ≤ 4) && nameB (bL l[i].2.1) && validB l[i].2.2)) := rfl
      have HCP : Hid (0 < i → ∃ t, l[i - 1].2.1 = t ∧ (∀ (w' : World) (R : List Row) (Q : List Rd), St w w' R Q → w'.cell? ⟨blk, off + (i - 1) * 3 + 1, none⟩ = some (.string t)) ∧ ∀ h, Op.bytesLess t.toList l[i].2.1.toList = h → risesB ((l.map fun x => x.2.1).take (i + 1)) = (risesB ((l.map fun x => x.2.1).take i) && h) ∧ (h = false → itemsB l = false)) := by
        intro hpos
        obtain ⟨_, _, d1, _⟩ := HC.out (i - 1) (by omega)
        refine ⟨_, rfl, fun w' R Q h => h.keep d1, fun h hh => ?_⟩
        obtain ⟨j, rfl⟩ : ∃ j, i = j + 1 := ⟨i - 1, by omega⟩
        simp only [Nat.add_sub_cancel] at hh
        exact rises_items l j hlt h hh
      have HR0 := Mx.hid (fun (h0 : i = 0) => (show risesB ((l.map fun x => x.2.1).take (i + 1)) = true by subst h0; exact rises_one _))
      by_cases hm : l[i].1 < 1 ∨ 4 < l[i].1
      · have HF := Mx.hid (HNI.out (by rw [HIB.out, decide_eq_false (by omega)]; rfl))
        have hm' : l[i].1 < 1 ∨ (1 ≤ l[i].1 ∧ 4 < l[i].1) := by omega
        clear hm
        clear HNI HS HIB HCP HR0
        generalize l[i] = y at *
        obtain ⟨m, nme, hsh⟩ := y
        simp only [] at *
        rcases hm' with h | ⟨h, h2⟩
        · have q1 : decide (m < 1) = true := decide_eq_true h
          go_wp2_with fail
          have hsx := hs.madeAt #[.int .i64 m, .string nme, .string hsh] 104 3 1 wr.heap.size (by rfl) (by simp [maxLen]) rfl
          generalize wr.alloc (.cells #[.int .i64 m, .string nme, .string hsh] 104) = wx at hsx ⊢
          generalize wr.heap.size = gx at hsx ⊢
          have x0 : wx.cell? ⟨gx, 0, none⟩ = some (.int .i64 m) := hsx.cell rfl
          have x1 : wx.cell? ⟨gx, 1, none⟩ = some (.string nme) := hsx.cell rfl
          have x2 : wx.cell? ⟨gx, 2, none⟩ = some (.string hsh) := hsx.cell rfl
          refine wp_region_C (fun W' => St w W' [⟨.slice (some ⟨gx, 0, none⟩) 1 1, 104, 3, 1, [.int .i64 m, .string nme, .string hsh]⟩] []) (by kernel_rfl) (by kernel_rfl) (by exact hsx.drew) ?_
          repeat ((first | (refine cq_y0 (v := ?_) (by with_reducible rfl) ?_ ?_; rotate_left 1; (focus (intro wq hq; (try dsimp only at hq); (have y0 := hq.cell (j := 0) rfl; have y1 := hq.cell (j := 1) rfl; have y2 := hq.cell (j := 2) rfl); go_simp; (first | done | with_reducible rfl | (go_at_call 101; refine (HNM.out _).mono ?_; rintro e w9 ⟨rfl, rfl⟩; refine ⟨?_, hq⟩; with_reducible rfl) | (go_at_call 71; refine (HVL.out _).mono ?_; rintro e w9 ⟨rfl, hk9⟩; refine ⟨?_, hq.call0 hk9⟩; with_reducible rfl))))) | (refine cq_no (by go_simp; first | done | (intro h9; cases h9)) ?_) | (refine cq_yes (v := ?_) (by go_simp) ?_ ?_; rotate_left 1; (focus (intro wq hq; (try dsimp only at hq); (have y0 := hq.cell (j := 0) rfl; have y1 := hq.cell (j := 1) rfl; have y2 := hq.cell (j := 2) rfl); go_simp; (first | done | with_reducible rfl | (go_at_call 101; refine (HNM.out _).mono ?_; rintro e w9 ⟨rfl, rfl⟩; refine ⟨?_, hq⟩; with_reducible rfl) | (go_at_call 71; refine (HVL.out _).mono ?_; rintro e w9 ⟨rfl, hk9⟩; refine ⟨?_, hq.call0 hk9⟩; with_reducible rfl)))))); (try simp only [Act.put, List.setIfInBounds_toArray, List.set_cons_zero, List.set_cons_succ]))
          refine cq_nil ?_
          intro wq hq
          (try dsimp only at hq)
          go_wp2_with fail
          go_ret
          exact ⟨by rw [HF.out]; rfl, hq.bare⟩
        · have q1 : decide (m < 1) = false := decide_eq_false (by omega)
          have q2 : decide (4 < m) = true := decide_eq_true h2
          go_wp2_with fail
          have hsx := hs.madeAt #[.int .i64 m, .string nme, .string hsh] 104 3 1 wr.heap.size (by rfl) (by simp [maxLen]) rfl
          generalize wr.alloc (.cells #[.int .i64 m, .string nme, .string hsh] 104) = wx at hsx ⊢
          generalize wr.heap.size = gx at hsx ⊢
          have x0 : wx.cell? ⟨gx, 0, none⟩ = some (.int .i64 m) := hsx.cell rfl
          have x1 : wx.cell? ⟨gx, 1, none⟩ = some (.string nme) := hsx.cell rfl
          have x2 : wx.cell? ⟨gx, 2, none⟩ = some (.string hsh) := hsx.cell rfl
          refine wp_region_C (fun W' => St w W' [⟨.slice (some ⟨gx, 0, none⟩) 1 1, 104, 3, 1, [.int .i64 m, .string nme, .string hsh]⟩] []) (by kernel_rfl) (by kernel_rfl) (by exact hsx.drew) ?_
          repeat ((first | (refine cq_y0 (v := ?_) (by with_reducible rfl) ?_ ?_; rotate_left 1; (focus (intro wq hq; (try dsimp only at hq); (have y0 := hq.cell (j := 0) rfl; have y1 := hq.cell (j := 1) rfl; have y2 := hq.cell (j := 2) rfl); go_simp; (first | done | with_reducible rfl | (go_at_call 101; refine (HNM.out _).mono ?_; rintro e w9 ⟨rfl, rfl⟩; refine ⟨?_, hq⟩; with_reducible rfl) | (go_at_call 71; refine (HVL.out _).mono ?_; rintro e w9 ⟨rfl, hk9⟩; refine ⟨?_, hq.call0 hk9⟩; with_reducible rfl))))) | (refine cq_no (by go_simp; first | done | (intro h9; cases h9)) ?_) | (refine cq_yes (v := ?_) (by go_simp) ?_ ?_; rotate_left 1; (focus (intro wq hq; (try dsimp only at hq); (have y0 := hq.cell (j := 0) rfl; have y1 := hq.cell (j := 1) rfl; have y2 := hq.cell (j := 2) rfl); go_simp; (first | done | with_reducible rfl | (go_at_call 101; refine (HNM.out _).mono ?_; rintro e w9 ⟨rfl, rfl⟩; refine ⟨?_, hq⟩; with_reducible rfl) | (go_at_call 71; refine (HVL.out _).mono ?_; rintro e w9 ⟨rfl, hk9⟩; refine ⟨?_, hq.call0 hk9⟩; with_reducible rfl)))))); (try simp only [Act.put, List.setIfInBounds_toArray, List.set_cons_zero, List.set_cons_succ]))
          refine cq_nil ?_
          intro wq hq
          (try dsimp only at hq)
          go_wp2_with fail
          go_ret
          exact ⟨by rw [HF.out]; rfl, hq.bare⟩
      · have hm1 : 1 ≤ l[i].1 := by omega
        have hm2 : l[i].1 ≤ 4 := by omega
        have q1 : decide (l[i].1 < 1) = false := decide_eq_false (by omega)
        have q2 : decide (4 < l[i].1) = false := decide_eq_false (by omega)
        clear hm z1 z2 z3 z4
        cases hn : nameB (bL l[i].2.1) with
        | false =>
          have HF := Mx.hid (HNI.out (by rw [HIB.out, hn, Bool.and_false]; rfl))
          rw [hn] at HNM
          clear hn HNI HS HIB HCP HR0
          generalize l[i] = y at *
          obtain ⟨m, nme, hsh⟩ := y
          simp only [] at *
          go_wp2_with fail
          have hsx := hs.madeAt #[.int .i64 m, .string nme, .string hsh] 104 3 1 wr.heap.size (by rfl) (by simp [maxLen]) rfl
          generalize wr.alloc (.cells #[.int .i64 m, .string nme, .string hsh] 104) = wx at hsx ⊢
          generalize wr.heap.size = gx at hsx ⊢
          have x0 : wx.cell? ⟨gx, 0, none⟩ = some (.int .i64 m) := hsx.cell rfl
          have x1 : wx.cell? ⟨gx, 1, none⟩ = some (.string nme) := hsx.cell rfl
          have x2 : wx.cell? ⟨gx, 2, none⟩ = some (.string hsh) := hsx.cell rfl
          refine wp_region_C (fun W' => St w W' [⟨.slice (some ⟨gx, 0, none⟩) 1 1, 104, 3, 1, [.int .i64 m, .string nme, .string hsh]⟩] []) (by kernel_rfl) (by kernel_rfl) (by exact hsx.drew) ?_
          repeat ((first | (refine cq_y0 (v := ?_) (by with_reducible rfl) ?_ ?_; rotate_left 1; (focus (intro wq hq; (try dsimp only at hq); (have y0 := hq.cell (j := 0) rfl; have y1 := hq.cell (j := 1) rfl; have y2 := hq.cell (j := 2) rfl); go_simp; (first | done | with_reducible rfl | (go_at_call 101; refine (HNM.out _).mono ?_; rintro e w9 ⟨rfl, rfl⟩; refine ⟨?_, hq⟩; with_reducible rfl) | (go_at_call 71; refine (HVL.out _).mono ?_; rintro e w9 ⟨rfl, hk9⟩; refine ⟨?_, hq.call0 hk9⟩; with_reducible rfl))))) | (refine cq_no (by go_simp; first | done | (intro h9; cases h9)) ?_) | (refine cq_yes (v := ?_) (by go_simp) ?_ ?_; rotate_left 1; (focus (intro wq hq; (try dsimp only at hq); (have y0 := hq.cell (j := 0) rfl; have y1 := hq.cell (j := 1) rfl; have y2 := hq.cell (j := 2) rfl); go_simp; (first | done | with_reducible rfl | (go_at_call 101; refine (HNM.out _).mono ?_; rintro e w9 ⟨rfl, rfl⟩; refine ⟨?_, hq⟩; with_reducible rfl) | (go_at_call 71; refine (HVL.out _).mono ?_; rintro e w9 ⟨rfl, hk9⟩; refine ⟨?_, hq.call0 hk9⟩; with_reducible rfl)))))); (try simp only [Act.put, List.setIfInBounds_toArray, List.set_cons_zero, List.set_cons_succ]))
          refine cq_nil ?_
          intro wq hq
          (try dsimp only at hq)
          go_wp2_with fail
          go_ret
          exact ⟨by rw [HF.out]; rfl, hq.bare⟩
        | true =>
          rw [hn] at HNM
          cases hv : validB l[i].2.2 with
          | false =>
            have HF := Mx.hid (HNI.out (by rw [HIB.out, hv, Bool.and_false]))
            rw [hv] at HVL
            clear hn hv HNI HS HIB HCP HR0
            generalize l[i] = y at *
            obtain ⟨m, nme, hsh⟩ := y
            simp only [] at *
            go_wp2_with fail
            have hsx := hs.madeAt #[.int .i64 m, .string nme, .string hsh] 104 3 1 wr.heap.size (by rfl) (by simp [maxLen]) rfl
            generalize wr.alloc (.cells #[.int .i64 m, .string nme, .string hsh] 104) = wx at hsx ⊢
            generalize wr.heap.size = gx at hsx ⊢
            have x0 : wx.cell? ⟨gx, 0, none⟩ = some (.int .i64 m) := hsx.cell rfl
            have x1 : wx.cell? ⟨gx, 1, none⟩ = some (.string nme) := hsx.cell rfl
            have x2 : wx.cell? ⟨gx, 2, none⟩ = some (.string hsh) := hsx.cell rfl
            refine wp_region_C (fun W' => St w W' [⟨.slice (some ⟨gx, 0, none⟩) 1 1, 104, 3, 1, [.int .i64 m, .string nme, .string hsh]⟩] []) (by kernel_rfl) (by kernel_rfl) (by exact hsx.drew) ?_
            repeat ((first | (refine cq_y0 (v := ?_) (by with_reducible rfl) ?_ ?_; rotate_left 1; (focus (intro wq hq; (try dsimp only at hq); (have y0 := hq.cell (j := 0) rfl; have y1 := hq.cell (j := 1) rfl; have y2 := hq.cell (j := 2) rfl); go_simp; (first | done | with_reducible rfl | (go_at_call 101; refine (HNM.out _).mono ?_; rintro e w9 ⟨rfl, rfl⟩; refine ⟨?_, hq⟩; with_reducible rfl) | (go_at_call 71; refine (HVL.out _).mono ?_; rintro e w9 ⟨rfl, hk9⟩; refine ⟨?_, hq.call0 hk9⟩; with_reducible rfl))))) | (refine cq_no (by go_simp; first | done | (intro h9; cases h9)) ?_) | (refine cq_yes (v := ?_) (by go_simp) ?_ ?_; rotate_left 1; (focus (intro wq hq; (try dsimp only at hq); (have y0 := hq.cell (j := 0) rfl; have y1 := hq.cell (j := 1) rfl; have y2 := hq.cell (j := 2) rfl); go_simp; (first | done | with_reducible rfl | (go_at_call 101; refine (HNM.out _).mono ?_; rintro e w9 ⟨rfl, rfl⟩; refine ⟨?_, hq⟩; with_reducible rfl) | (go_at_call 71; refine (HVL.out _).mono ?_; rintro e w9 ⟨rfl, hk9⟩; refine ⟨?_, hq.call0 hk9⟩; with_reducible rfl)))))); (try simp only [Act.put, List.setIfInBounds_toArray, List.set_cons_zero, List.set_cons_succ]))
            refine cq_nil ?_
            intro wq hq
            (try dsimp only at hq)
            go_wp2_with fail
            go_ret
            exact ⟨by rw [HF.out]; rfl, hq.bare⟩
          | true =>
            have HB := Mx.hid (show itemB l[i] = true by rw [HIB.out, hn, hv, decide_eq_true ⟨hm1, hm2⟩]; rfl)
            rw [hv] at HVL
            clear hn hv HNI HIB
            by_cases h0 : i = 0
            · have HR := Mx.hid (HR0.out h0)
              have q0 : decide ((0 : Int) < (i : Int)) = false := decide_eq_false (by omega)
              have q0n : decide (0 < i) = false := decide_eq_false (by omega)
              clear h0 HR0 HCP
              generalize l[i] = y at *
              obtain ⟨m, nme, hsh⟩ := y
              simp only [] at *
              go_wp2_with fail
              have hsx := hs.madeAt #[.int .i64 m, .string nme, .string hsh] 104 3 1 wr.heap.size (by rfl) (by simp [maxLen]) rfl
              generalize wr.alloc (.cells #[.int .i64 m, .string nme, .string hsh] 104) = wx at hsx ⊢
              generalize wr.heap.size = gx at hsx ⊢
              have x0 : wx.cell? ⟨gx, 0, none⟩ = some (.int .i64 m) := hsx.cell rfl
              have x1 : wx.cell? ⟨gx, 1, none⟩ = some (.string nme) := hsx.cell rfl
              have x2 : wx.cell? ⟨gx, 2, none⟩ = some (.string hsh) := hsx.cell rfl
              refine wp_region_C (fun W' => St w W' [⟨.slice (some ⟨gx, 0, none⟩) 1 1, 104, 3, 1, [.int .i64 m, .string nme, .string hsh]⟩] []) (by kernel_rfl) (by kernel_rfl) (by exact hsx.drew) ?_
              repeat ((first | (refine cq_y0 (v := ?_) (by with_reducible rfl) ?_ ?_; rotate_left 1; (focus (intro wq hq; (try dsimp only at hq); (have y0 := hq.cell (j := 0) rfl; have y1 := hq.cell (j := 1) rfl; have y2 := hq.cell (j := 2) rfl); go_simp; (first | done | with_reducible rfl | (go_at_call 101; refine (HNM.out _).mono ?_; rintro e w9 ⟨rfl, rfl⟩; refine ⟨?_, hq⟩; with_reducible rfl) | (go_at_call 71; refine (HVL.out _).mono ?_; rintro e w9 ⟨rfl, hk9⟩; refine ⟨?_, hq.call0 hk9⟩; with_reducible rfl))))) | (refine cq_no (by go_simp; first | done | (intro h9; cases h9)) ?_) | (refine cq_yes (v := ?_) (by go_simp) ?_ ?_; rotate_left 1; (focus (intro wq hq; (try dsimp only at hq); (have y0 := hq.cell (j := 0) rfl; have y1 := hq.cell (j := 1) rfl; have y2 := hq.cell (j := 2) rfl); go_simp; (first | done | with_reducible rfl | (go_at_call 101; refine (HNM.out _).mono ?_; rintro e w9 ⟨rfl, rfl⟩; refine ⟨?_, hq⟩; with_reducible rfl) | (go_at_call 71; refine (HVL.out _).mono ?_; rintro e w9 ⟨rfl, hk9⟩; refine ⟨?_, hq.call0 hk9⟩; with_reducible rfl)))))); (try simp only [Act.put, List.setIfInBounds_toArray, List.set_cons_zero, List.set_cons_succ]))
              refine cq_nil ?_
              intro wq hq
              (try dsimp only at hq)
              go_wp2_with fail
              case roundEnd => exact ⟨⟨i + 1, by omega, by go_num, Mx.hid ⟨by rw [HS.out, HA.out.1, HB.out]; rfl, HR.out⟩, hq.bare⟩, by simp [intOf]; omega⟩
            · have hpos : 0 < i := by omega
              have hi1 : i - 1 < l.length := by omega
              obtain ⟨t, _, hD, hRS⟩ := HCP.out hpos
              have HRS := Mx.hid hRS
              have HD := Mx.hid hD
              have k1 : IntKind.i64.wrap ((i : Int) - 1) = (i : Int) - 1 := IntWalk.i64_in _ (by omega)
              have k2 : ((i : Int) - 1).toNat = i - 1 := by omega
              have k3 : (0 : Int) ≤ (i : Int) - 1 := by omega
              have k4 : (i : Int) - 1 < (l.length : Int) := by omega
              have k5 : (1 : Int) ≤ (i : Int) := by omega
              have q0 : decide ((0 : Int) < (i : Int)) = true := decide_eq_true (by omega)
              have q0n : decide (0 < i) = true := decide_eq_true hpos
              clear hD hRS h0 HR0 HCP
              generalize l[i] = y at *
              obtain ⟨m, nme, hsh⟩ := y
              simp only [] at *
              cases hless : Op.bytesLess t.toList nme.toList with
              | true =>
                have HR := Mx.hid (HRS.out _ hless)
                obtain ⟨p1, p2⟩ := less_le hless
                clear hless HRS
                go_wp2_with fail
                have hsx := hs.madeAt #[.int .i64 m, .string nme, .string hsh] 104 3 1 wr.heap.size (by rfl) (by simp [maxLen]) rfl
                generalize wr.alloc (.cells #[.int .i64 m, .string nme, .string hsh] 104) = wx at hsx ⊢
                generalize wr.heap.size = gx at hsx ⊢
                have x0 : wx.cell? ⟨gx, 0, none⟩ = some (.int .i64 m) := hsx.cell rfl
                have x1 : wx.cell? ⟨gx, 1, none⟩ = some (.string nme) := hsx.cell rfl
                have x2 : wx.cell? ⟨gx, 2, none⟩ = some (.string hsh) := hsx.cell rfl
                refine wp_region_C (fun W' => St w W' [⟨.slice (some ⟨gx, 0, none⟩) 1 1, 104, 3, 1, [.int .i64 m, .string nme, .string hsh]⟩] []) (by kernel_rfl) (by kernel_rfl) (by exact hsx.drew) ?_
                repeat ((first | (refine cq_y0 (v := ?_) (by with_reducible rfl) ?_ ?_; rotate_left 1; (focus (intro wq hq; (try dsimp only at hq); ((have y0 := hq.cell (j := 0) rfl; have y1 := hq.cell (j := 1) rfl; have y2 := hq.cell (j := 2) rfl); have y3 := HD.out _ _ _ hq); go_simp; (first | done | with_reducible rfl | (go_at_call 101; refine (HNM.out _).mono ?_; rintro e w9 ⟨rfl, rfl⟩; refine ⟨?_, hq⟩; with_reducible rfl) | (go_at_call 71; refine (HVL.out _).mono ?_; rintro e w9 ⟨rfl, hk9⟩; refine ⟨?_, hq.call0 hk9⟩; with_reducible rfl))))) | (refine cq_no (by go_simp; first | done | (intro h9; cases h9)) ?_) | (refine cq_yes (v := ?_) (by go_simp) ?_ ?_; rotate_left 1; (focus (intro wq hq; (try dsimp only at hq); ((have y0 := hq.cell (j := 0) rfl; have y1 := hq.cell (j := 1) rfl; have y2 := hq.cell (j := 2) rfl); have y3 := HD.out _ _ _ hq); go_simp; (first | done | with_reducible rfl | (go_at_call 101; refine (HNM.out _).mono ?_; rintro e w9 ⟨rfl, rfl⟩; refine ⟨?_, hq⟩; with_reducible rfl) | (go_at_call 71; refine (HVL.out _).mono ?_; rintro e w9 ⟨rfl, hk9⟩; refine ⟨?_, hq.call0 hk9⟩; with_reducible rfl)))))); (try simp only [Act.put, List.setIfInBounds_toArray, List.set_cons_zero, List.set_cons_succ]))
                refine cq_nil ?_
                intro wq hq
                (try dsimp only at hq)
                go_wp2_with fail
                case roundEnd => exact ⟨⟨i + 1, by omega, by go_num, Mx.hid ⟨by rw [HS.out, HA.out.1, HB.out]; rfl, by rw [HR.out.1, HA.out.2]; rfl⟩, hq.bare⟩, by simp [intOf]; omega⟩
              | false =>
                have HF := Mx.hid ((HRS.out _ hless).2 rfl)
                have hq1 := less_not hless
                clear hless HRS
                rcases hq1 with p1 | ⟨p1, p2⟩
                · go_wp2_with fail
                  have hsx := hs.madeAt #[.int .i64 m, .string nme, .string hsh] 104 3 1 wr.heap.size (by rfl) (by simp [maxLen]) rfl
                  generalize wr.alloc (.cells #[.int .i64 m, .string nme, .string hsh] 104) = wx at hsx ⊢
                  generalize wr.heap.size = gx at hsx ⊢
                  have x0 : wx.cell? ⟨gx, 0, none⟩ = some (.int .i64 m) := hsx.cell rfl
                  have x1 : wx.cell? ⟨gx, 1, none⟩ = some (.string nme) := hsx.cell rfl
                  have x2 : wx.cell? ⟨gx, 2, none⟩ = some (.string hsh) := hsx.cell rfl
                  refine wp_region_C (fun W' => St w W' [⟨.slice (some ⟨gx, 0, none⟩) 1 1, 104, 3, 1, [.int .i64 m, .string nme, .string hsh]⟩] []) (by kernel_rfl) (by kernel_rfl) (by exact hsx.drew) ?_
                  repeat ((first | (refine cq_y0 (v := ?_) (by with_reducible rfl) ?_ ?_; rotate_left 1; (focus (intro wq hq; (try dsimp only at hq); ((have y0 := hq.cell (j := 0) rfl; have y1 := hq.cell (j := 1) rfl; have y2 := hq.cell (j := 2) rfl); have y3 := HD.out _ _ _ hq); go_simp; (first | done | with_reducible rfl | (go_at_call 101; refine (HNM.out _).mono ?_; rintro e w9 ⟨rfl, rfl⟩; refine ⟨?_, hq⟩; with_reducible rfl) | (go_at_call 71; refine (HVL.out _).mono ?_; rintro e w9 ⟨rfl, hk9⟩; refine ⟨?_, hq.call0 hk9⟩; with_reducible rfl))))) | (refine cq_no (by go_simp; first | done | (intro h9; cases h9)) ?_) | (refine cq_yes (v := ?_) (by go_simp) ?_ ?_; rotate_left 1; (focus (intro wq hq; (try dsimp only at hq); ((have y0 := hq.cell (j := 0) rfl; have y1 := hq.cell (j := 1) rfl; have y2 := hq.cell (j := 2) rfl); have y3 := HD.out _ _ _ hq); go_simp; (first | done | with_reducible rfl | (go_at_call 101; refine (HNM.out _).mono ?_; rintro e w9 ⟨rfl, rfl⟩; refine ⟨?_, hq⟩; with_reducible rfl) | (go_at_call 71; refine (HVL.out _).mono ?_; rintro e w9 ⟨rfl, hk9⟩; refine ⟨?_, hq.call0 hk9⟩; with_reducible rfl)))))); (try simp only [Act.put, List.setIfInBounds_toArray, List.set_cons_zero, List.set_cons_succ]))
                  refine cq_nil ?_
                  intro wq hq
                  (try dsimp only at hq)
                  go_wp2_with fail
                  go_ret
                  exact ⟨by rw [HF.out]; rfl, hq.bare⟩
                · go_wp2_with fail
                  have hsx := hs.madeAt #[.int .i64 m, .string nme, .string hsh] 104 3 1 wr.heap.size (by rfl) (by simp [maxLen]) rfl
                  generalize wr.alloc (.cells #[.int .i64 m, .string nme, .string hsh] 104) = wx at hsx ⊢
                  generalize wr.heap.size = gx at hsx ⊢
                  have x0 : wx.cell? ⟨gx, 0, none⟩ = some (.int .i64 m) := hsx.cell rfl
                  have x1 : wx.cell? ⟨gx, 1, none⟩ = some (.string nme) := hsx.cell rfl
                  have x2 : wx.cell? ⟨gx, 2, none⟩ = some (.string hsh) := hsx.cell rfl
                  refine wp_region_C (fun W' => St w W' [⟨.slice (some ⟨gx, 0, none⟩) 1 1, 104, 3, 1, [.int .i64 m, .string nme, .string hsh]⟩] []) (by kernel_rfl) (by kernel_rfl) (by exact hsx.drew) ?_
                  repeat ((first | (refine cq_y0 (v := ?_) (by with_reducible rfl) ?_ ?_; rotate_left 1; (focus (intro wq hq; (try dsimp only at hq); ((have y0 := hq.cell (j := 0) rfl; have y1 := hq.cell (j := 1) rfl; have y2 := hq.cell (j := 2) rfl); have y3 := HD.out _ _ _ hq); go_simp; (first | done | with_reducible rfl | (go_at_call 101; refine (HNM.out _).mono ?_; rintro e w9 ⟨rfl, rfl⟩; refine ⟨?_, hq⟩; with_reducible rfl) | (go_at_call 71; refine (HVL.out _).mono ?_; rintro e w9 ⟨rfl, hk9⟩; refine ⟨?_, hq.call0 hk9⟩; with_reducible rfl))))) | (refine cq_no (by go_simp; first | done | (intro h9; cases h9)) ?_) | (refine cq_yes (v := ?_) (by go_simp) ?_ ?_; rotate_left 1; (focus (intro wq hq; (try dsimp only at hq); ((have y0 := hq.cell (j := 0) rfl; have y1 := hq.cell (j := 1) rfl; have y2 := hq.cell (j := 2) rfl); have y3 := HD.out _ _ _ hq); go_simp; (first | done | with_reducible rfl | (go_at_call 101; refine (HNM.out _).mono ?_; rintro e w9 ⟨rfl, rfl⟩; refine ⟨?_, hq⟩; with_reducible rfl) | (go_at_call 71; refine (HVL.out _).mono ?_; rintro e w9 ⟨rfl, hk9⟩; refine ⟨?_, hq.call0 hk9⟩; with_reducible rfl)))))); (try simp only [Act.put, List.setIfInBounds_toArray, List.set_cons_zero, List.set_cons_succ]))
                  refine cq_nil ?_
                  intro wq hq
                  (try dsimp only at hq)
                  go_wp2_with fail
                  go_ret
                  exact ⟨by rw [HF.out]; rfl, hq.bare⟩
    · have HF := Mx.hid (show itemsB l = decide (l.length ≤ 256) by
        have h1 := HA.out.1
        have h2 := HA.out.2
        rw [List.take_of_length_le (by omega)] at h1
        rw [List.take_of_length_le (by rw [List.length_map]; omega)] at h2
        unfold itemsB; rw [h1, h2]; rfl)
      go_wp2_with fail
      go_ret
      exact ⟨by rw [HF.out, le_dec]; rfl, hs⟩
end Go.Proofs.YtloogjdafhjheaaGreat
