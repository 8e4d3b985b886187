/- Walks of obj.noCommit, mayItems. -/
import Derived.Test.YtloogjdafhjheaaGreatJ8ObjM
import Derived.Test.YtloogjdafhjheaaGreatJ5RVal
namespace Go.Mx
open Go Go.RowKit
theorem Sl.anyC {w : World} {size : Nat} {v : Value} {n : Nat} {xs : List Value} (h : Sl w size v n xs) : ∃ ao cap blk off, v = .slice ao n cap ∧ n ≤ cap ∧ cap ≤ 9223372036854775807 ∧ xs.length = n * size ∧
    (∀ j u, xs[j]? = some u → ao = some ⟨blk, off, none⟩ ∧ w.cell? ⟨blk, off + j, none⟩ = some u) := by
  obtain ⟨ao, cap, rfl, h1, h2, h3, _, hc⟩ := h.form
  unfold maxLen at h2
  by_cases hnil : xs = []
  · subst hnil; exact ⟨ao, cap, 0, 0, rfl, h1, by omega, by omega, fun j u hu => by simp at hu⟩
  · obtain ⟨blk, off, rfl, hh⟩ := hc hnil
    exact ⟨_, cap, blk, off, rfl, h1, by omega, h3, fun j u hu => ⟨rfl, hh j u hu⟩⟩
theorem rises_items (l : List Itm) (j : Nat) (hj : j + 1 < l.length) (h : Bool) (hh : Op.bytesLess l[j].2.1.toList l[j + 1].2.1.toList = h) :
    risesB ((l.map fun x : Itm => x.2.1).take (j + 1 + 1)) = (risesB ((l.map fun x : Itm => x.2.1).take (j + 1)) && h) ∧ (h = false → itemsB l = false) := by
  obtain ⟨L, hL⟩ : ∃ L, L = l.map fun x : Itm => x.2.1 := ⟨_, rfl⟩
  have hj2 : j + 1 < L.length := by rw [hL, List.length_map]; exact hj
  have e1 : L[j] = l[j].2.1 := by subst hL; simp
  have e2 : L[j + 1] = l[j + 1].2.1 := by subst hL; simp
  have h2 : Op.bytesLess L[j].toList L[j + 1].toList = h := by rw [e1, e2]; exact hh
  rw [← hL]
  refine ⟨by rw [rises_snoc L j hj2, h2], fun h0 => ?_⟩
  unfold itemsB
  rw [← hL, rises_not hj2 (h2.trans h0), Bool.and_false, Bool.false_and]
theorem str_nil_iff (s : ByteArray) : (s = str []) ↔ s.toList.isEmpty = true := by
  rw [ByteArray.toList_eq, List.isEmpty_iff]
  constructor
  · rintro rfl; rfl
  · intro h
    have := str_bL s
    unfold bL at this
    rw [h] at this
    exact this.symm
theorem bare_eq (o : Ob) : bareB o = (o.tree.toList.isEmpty && ((o.parents.length : Int) == 0) && (o.stamp == 0) && (o.author == 0) && o.msg.toList.isEmpty) := by
  unfold bareB
  rw [Bool.eq_iff_iff, decide_eq_true_iff, str_nil_iff, str_nil_iff]
  simp [and_assoc]
end Go.Mx
namespace Go.Proofs.YtloogjdafhjheaaGreat
open Go.RowKit Go.Mx

set_option maxRecDepth 100000 in
set_option maxHeartbeats 2000000 in
theorem noCommit_any (dv iv pv : Value) (o : Ob) (w : World) (h : OB w dv iv pv o) :
    Calls Tryz.prog 56 #[OV dv iv pv o] w fun e w' => e = .returned (.bool (bareB o)) ∧ St w w' [] [] := by
  obtain ⟨d1, d2, rfl, _⟩ := h.d
  obtain ⟨i1, i2, rfl, _⟩ := h.i
  obtain ⟨p1, p2, rfl, _⟩ := h.p
  have hbd := bare_eq o
  have HF := Mx.hid hbd
  clear h hbd
  obtain ⟨kind, data, items, tree, parents, stamp, author, msg⟩ := o
  simp only [OV] at *
  have hs := fun x => (St.refl w).alloc x
  cases h1 : tree.toList.isEmpty with
  | false =>
    go_enter Tryz.func56, Tryz.ntmps56
    go_wp2_with (first | ((with_reducible show wpList _ _ _ _ _ _); refine wpl_want rfl ?_))
    go_ret
    exact ⟨by rw [HF.out, h1]; rfl, hs _⟩
  | true =>
    cases h2 : ((parents.length : Int) == 0) with
    | false =>
      go_enter Tryz.func56, Tryz.ntmps56
      go_wp2_with (first | ((with_reducible show wpList _ _ _ _ _ _); refine wpl_want rfl ?_))
      go_ret
      exact ⟨by rw [HF.out, h1, h2]; rfl, hs _⟩
    | true =>
      cases h3 : (stamp == 0) with
      | false =>
        go_enter Tryz.func56, Tryz.ntmps56
        go_wp2_with (first | ((with_reducible show wpList _ _ _ _ _ _); refine wpl_want rfl ?_))
        go_ret
        exact ⟨by rw [HF.out, h1, h2, h3]; rfl, hs _⟩
      | true =>
        cases h4 : (author == 0) with
        | false =>
          go_enter Tryz.func56, Tryz.ntmps56
          go_wp2_with (first | ((with_reducible show wpList _ _ _ _ _ _); refine wpl_want rfl ?_))
          go_ret
          exact ⟨by rw [HF.out, h1, h2, h3, h4]; rfl, hs _⟩
        | true =>
          cases h5 : msg.toList.isEmpty with
          | false =>
            go_enter Tryz.func56, Tryz.ntmps56
            go_wp2_with (first | ((with_reducible show wpList _ _ _ _ _ _); refine wpl_want rfl ?_))
            go_ret
            exact ⟨by rw [HF.out, h1, h2, h3, h4, h5]; rfl, hs _⟩
          | true =>
            go_enter Tryz.func56, Tryz.ntmps56
            go_wp2_with (first | ((with_reducible show wpList _ _ _ _ _ _); refine wpl_want rfl ?_))
            go_ret
            exact ⟨by rw [HF.out, h1, h2, h3, h4, h5]; rfl, hs _⟩

set_option maxRecDepth 100000 in
set_option maxHeartbeats 4000000 in
theorem mayItems_any (v : Value) (l : List Itm) (w : World) (hv : Sl w 3 v l.length (itms l)) (hl : ∀ x ∈ l, x.2.1.size ≤ 140737488351232 ∧ x.2.2.size ≤ 140737488351232 ∧ -9223372036854775808 ≤ x.1 ∧ x.1 ≤ 9223372036854775807) :
    Calls Tryz.prog 57 #[v] w fun e w' => e = .returned (.bool (itemsB l)) ∧ St w w' [] [] := by
  obtain ⟨ao, cap, blk, off, rfl, hc1, hc2, _, hcell⟩ := hv.anyC
  have HC := Mx.hid (fun (i : Nat) (hi : i < l.length) => (show ao = some ⟨blk, off, none⟩ ∧ w.cell? ⟨blk, off + i * 3, none⟩ = some (.int .i64 l[i].1) ∧ w.cell? ⟨blk, off + i * 3 + 1, none⟩ = some (.string l[i].2.1) ∧ w.cell? ⟨blk, off + i * 3 + 2, none⟩ = some (.string l[i].2.2) from by
    have g0 := hcell (i * 3 + 0) _ ((flat_get (k := 3) (fun _ => rfl) l (by omega) hi).trans (show (itmRow l[i])[0]? = some (.int .i64 l[i].1) from rfl))
    have g1 := hcell (i * 3 + 1) _ ((flat_get (k := 3) (fun _ => rfl) l (by omega) hi).trans (show (itmRow l[i])[1]? = some (.string l[i].2.1) from rfl))
    have g2 := hcell (i * 3 + 2) _ ((flat_get (k := 3) (fun _ => rfl) l (by omega) hi).trans (show (itmRow l[i])[2]? = some (.string l[i].2.2) from rfl))
    exact ⟨g0.1, g0.2, g1.2, g2.2⟩))
  have HZ := Mx.hid (fun (i : Nat) (hi : i < l.length) => hl l[i] (List.getElem_mem hi))
  clear hv hcell hl
  go_enter Tryz.func57, Tryz.ntmps57
  go_wp2_with fail
  go_loopw [7] (fun y wr => ∃ i : Nat, i ≤ l.length ∧ y = .int .i64 i ∧ Hid ((l.take i).all itemB = true ∧ risesB ((l.map fun x => x.2.1).take i) = true) ∧ St w wr [] []) (fun y _ => l.length - (intOf y).toNat)
  case atStart => exact ⟨0, by omega, rfl, Mx.hid ⟨rfl, rfl⟩, St.refl w⟩
  case round =>
    obtain ⟨i, hi, rfl, HA, hs⟩ := hrel
    by_cases hlt : i < l.length
    · obtain ⟨rfl, c0, c1, c2⟩ := HC.out i hlt
      have c0 := hs.keep c0
      have c1 := hs.keep c1
      have c2 := hs.keep c2
      obtain ⟨z1, z2, z3, z4⟩ := HZ.out i hlt
      have HNI := Mx.hid (fun h => (show itemsB l = false by unfold itemsB; rw [lall_not (p := itemB) hlt h]; rfl))
      have HS := Mx.hid (lall_snoc (p := itemB) hlt)
      have HNM := Mx.hid (fun wx => name_any l[i].2.1 wx (by unfold maxLen; omega))
      have HVL := Mx.hid (fun wx => (valid_any l[i].2.2 wx (by omega)).mono fun e w' h => (show e = .returned (.bool (validB l[i].2.2)) ∧ St wx w' [] [] from h))
      have HIB : Hid (itemB l[i] = (decide (1 ≤ l[i].1 ∧ l[i].1 ≤ 4) && nameB (bL l[i].2.1) && validB l[i].2.2)) := rfl
      have HCP : Hid (0 < i → ∃ t, l[i - 1].2.1 = t ∧ (∀ (w' : World) (R : List Row) (Q : List Rd), St w w' R Q → w'.cell? ⟨blk, off + (i - 1) * 3 + 1, none⟩ = some (.string t)) ∧ ∀ h, Op.bytesLess t.toList l[i].2.1.toList = h → risesB ((l.map fun x => x.2.1).take (i + 1)) = (risesB ((l.map fun x => x.2.1).take i) && h) ∧ (h = false → itemsB l = false)) := by
        intro hpos
        obtain ⟨_, _, d1, _⟩ := HC.out (i - 1) (by omega)
        refine ⟨_, rfl, fun w' R Q h => h.keep d1, fun h hh => ?_⟩
        obtain ⟨j, rfl⟩ : ∃ j, i = j + 1 := ⟨i - 1, by omega⟩
        simp only [Nat.add_sub_cancel] at hh
        exact rises_items l j hlt h hh
      have HR0 := Mx.hid (fun (h0 : i = 0) => (show risesB ((l.map fun x => x.2.1).take (i + 1)) = true by subst h0; exact rises_one _))
      by_cases hm : l[i].1 < 1 ∨ 4 < l[i].1
      · have HF := Mx.hid (HNI.out (by rw [HIB.out, decide_eq_false (by omega)]; rfl))
        have hm' : l[i].1 < 1 ∨ (1 ≤ l[i].1 ∧ 4 < l[i].1) := by omega
        clear hm
        clear HNI HS HIB HCP HR0
        generalize l[i] = y at *
        obtain ⟨m, nme, hsh⟩ := y
        simp only [] at *
        rcases hm' with h | ⟨h, h2⟩
        · have q1 : decide (m < 1) = true := decide_eq_true h
          go_wp2_with fail
          have hsx := hs.madeAt #[.int .i64 m, .string nme, .string hsh] 88 3 1 wr.heap.size (by rfl) (by simp [maxLen]) rfl
          generalize wr.alloc (.cells #[.int .i64 m, .string nme, .string hsh] 88) = wx at hsx ⊢
          generalize wr.heap.size = gx at hsx ⊢
          have x0 : wx.cell? ⟨gx, 0, none⟩ = some (.int .i64 m) := hsx.cell rfl
          have x1 : wx.cell? ⟨gx, 1, none⟩ = some (.string nme) := hsx.cell rfl
          have x2 : wx.cell? ⟨gx, 2, none⟩ = some (.string hsh) := hsx.cell rfl
          refine wp_region_C (fun W' => St w W' [⟨.slice (some ⟨gx, 0, none⟩) 1 1, 88, 3, 1, [.int .i64 m, .string nme, .string hsh]⟩] []) (by kernel_rfl) (by kernel_rfl) (by exact hsx.drew) ?_
          repeat ((first | (refine cq_y0 (v := ?_) (by with_reducible rfl) ?_ ?_; rotate_left 1; (focus (intro wq hq; (try dsimp only at hq); (have y0 := hq.cell (j := 0) rfl; have y1 := hq.cell (j := 1) rfl; have y2 := hq.cell (j := 2) rfl); go_simp; (first | done | with_reducible rfl | (go_at_call 77; refine (HNM.out _).mono ?_; rintro e w9 ⟨rfl, rfl⟩; refine ⟨?_, hq⟩; with_reducible rfl) | (go_at_call 58; refine (HVL.out _).mono ?_; rintro e w9 ⟨rfl, hk9⟩; refine ⟨?_, hq.call0 hk9⟩; with_reducible rfl))))) | (refine cq_no (by go_simp; first | done | (intro h9; cases h9)) ?_) | (refine cq_yes (v := ?_) (by go_simp) ?_ ?_; rotate_left 1; (focus (intro wq hq; (try dsimp only at hq); (have y0 := hq.cell (j := 0) rfl; have y1 := hq.cell (j := 1) rfl; have y2 := hq.cell (j := 2) rfl); go_simp; (first | done | with_reducible rfl | (go_at_call 77; refine (HNM.out _).mono ?_; rintro e w9 ⟨rfl, rfl⟩; refine ⟨?_, hq⟩; with_reducible rfl) | (go_at_call 58; refine (HVL.out _).mono ?_; rintro e w9 ⟨rfl, hk9⟩; refine ⟨?_, hq.call0 hk9⟩; with_reducible rfl)))))); (try simp only [Act.put, List.setIfInBounds_toArray, List.set_cons_zero, List.set_cons_succ]))
          refine cq_nil ?_
          intro wq hq
          (try dsimp only at hq)
          go_wp2_with fail
          go_ret
          exact ⟨by rw [HF.out]; rfl, hq.bare⟩
        · have q1 : decide (m < 1) = false := decide_eq_false (by omega)
          have q2 : decide (4 < m) = true := decide_eq_true h2
          go_wp2_with fail
          have hsx := hs.madeAt #[.int .i64 m, .string nme, .string hsh] 88 3 1 wr.heap.size (by rfl) (by simp [maxLen]) rfl
          generalize wr.alloc (.cells #[.int .i64 m, .string nme, .string hsh] 88) = wx at hsx ⊢
          generalize wr.heap.size = gx at hsx ⊢
          have x0 : wx.cell? ⟨gx, 0, none⟩ = some (.int .i64 m) := hsx.cell rfl
          have x1 : wx.cell? ⟨gx, 1, none⟩ = some (.string nme) := hsx.cell rfl
          have x2 : wx.cell? ⟨gx, 2, none⟩ = some (.string hsh) := hsx.cell rfl
          refine wp_region_C (fun W' => St w W' [⟨.slice (some ⟨gx, 0, none⟩) 1 1, 88, 3, 1, [.int .i64 m, .string nme, .string hsh]⟩] []) (by kernel_rfl) (by kernel_rfl) (by exact hsx.drew) ?_
          repeat ((first | (refine cq_y0 (v := ?_) (by with_reducible rfl) ?_ ?_; rotate_left 1; (focus (intro wq hq; (try dsimp only at hq); (have y0 := hq.cell (j := 0) rfl; have y1 := hq.cell (j := 1) rfl; have y2 := hq.cell (j := 2) rfl); go_simp; (first | done | with_reducible rfl | (go_at_call 77; refine (HNM.out _).mono ?_; rintro e w9 ⟨rfl, rfl⟩; refine ⟨?_, hq⟩; with_reducible rfl) | (go_at_call 58; refine (HVL.out _).mono ?_; rintro e w9 ⟨rfl, hk9⟩; refine ⟨?_, hq.call0 hk9⟩; with_reducible rfl))))) | (refine cq_no (by go_simp; first | done | (intro h9; cases h9)) ?_) | (refine cq_yes (v := ?_) (by go_simp) ?_ ?_; rotate_left 1; (focus (intro wq hq; (try dsimp only at hq); (have y0 := hq.cell (j := 0) rfl; have y1 := hq.cell (j := 1) rfl; have y2 := hq.cell (j := 2) rfl); go_simp; (first | done | with_reducible rfl | (go_at_call 77; refine (HNM.out _).mono ?_; rintro e w9 ⟨rfl, rfl⟩; refine ⟨?_, hq⟩; with_reducible rfl) | (go_at_call 58; refine (HVL.out _).mono ?_; rintro e w9 ⟨rfl, hk9⟩; refine ⟨?_, hq.call0 hk9⟩; with_reducible rfl)))))); (try simp only [Act.put, List.setIfInBounds_toArray, List.set_cons_zero, List.set_cons_succ]))
          refine cq_nil ?_
          intro wq hq
          (try dsimp only at hq)
          go_wp2_with fail
          go_ret
          exact ⟨by rw [HF.out]; rfl, hq.bare⟩
      · have hm1 : 1 ≤ l[i].1 := by omega
        have hm2 : l[i].1 ≤ 4 := by omega
        have q1 : decide (l[i].1 < 1) = false := decide_eq_false (by omega)
        have q2 : decide (4 < l[i].1) = false := decide_eq_false (by omega)
        clear hm z1 z2 z3 z4
        cases hn : nameB (bL l[i].2.1) with
        | false =>
          have HF := Mx.hid (HNI.out (by rw [HIB.out, hn, Bool.and_false]; rfl))
          rw [hn] at HNM
          clear hn HNI HS HIB HCP HR0
          generalize l[i] = y at *
          obtain ⟨m, nme, hsh⟩ := y
          simp only [] at *
          go_wp2_with fail
          have hsx := hs.madeAt #[.int .i64 m, .string nme, .string hsh] 88 3 1 wr.heap.size (by rfl) (by simp [maxLen]) rfl
          generalize wr.alloc (.cells #[.int .i64 m, .string nme, .string hsh] 88) = wx at hsx ⊢
          generalize wr.heap.size = gx at hsx ⊢
          have x0 : wx.cell? ⟨gx, 0, none⟩ = some (.int .i64 m) := hsx.cell rfl
          have x1 : wx.cell? ⟨gx, 1, none⟩ = some (.string nme) := hsx.cell rfl
          have x2 : wx.cell? ⟨gx, 2, none⟩ = some (.string hsh) := hsx.cell rfl
          refine wp_region_C (fun W' => St w W' [⟨.slice (some ⟨gx, 0, none⟩) 1 1, 88, 3, 1, [.int .i64 m, .string nme, .string hsh]⟩] []) (by kernel_rfl) (by kernel_rfl) (by exact hsx.drew) ?_
          repeat ((first | (refine cq_y0 (v := ?_) (by with_reducible rfl) ?_ ?_; rotate_left 1; (focus (intro wq hq; (try dsimp only at hq); (have y0 := hq.cell (j := 0) rfl; have y1 := hq.cell (j := 1) rfl; have y2 := hq.cell (j := 2) rfl); go_simp; (first | done | with_reducible rfl | (go_at_call 77; refine (HNM.out _).mono ?_; rintro e w9 ⟨rfl, rfl⟩; refine ⟨?_, hq⟩; with_reducible rfl) | (go_at_call 58; refine (HVL.out _).mono ?_; rintro e w9 ⟨rfl, hk9⟩; refine ⟨?_, hq.call0 hk9⟩; with_reducible rfl))))) | (refine cq_no (by go_simp; first | done | (intro h9; cases h9)) ?_) | (refine cq_yes (v := ?_) (by go_simp) ?_ ?_; rotate_left 1; (focus (intro wq hq; (try dsimp only at hq); (have y0 := hq.cell (j := 0) rfl; have y1 := hq.cell (j := 1) rfl; have y2 := hq.cell (j := 2) rfl); go_simp; (first | done | with_reducible rfl | (go_at_call 77; refine (HNM.out _).mono ?_; rintro e w9 ⟨rfl, rfl⟩; refine ⟨?_, hq⟩; with_reducible rfl) | (go_at_call 58; refine (HVL.out _).mono ?_; rintro e w9 ⟨rfl, hk9⟩; refine ⟨?_, hq.call0 hk9⟩; with_reducible rfl)))))); (try simp only [Act.put, List.setIfInBounds_toArray, List.set_cons_zero, List.set_cons_succ]))
          refine cq_nil ?_
          intro wq hq
          (try dsimp only at hq)
          go_wp2_with fail
          go_ret
          exact ⟨by rw [HF.out]; rfl, hq.bare⟩
        | true =>
          rw [hn] at HNM
          cases hv : validB l[i].2.2 with
          | false =>
            have HF := Mx.hid (HNI.out (by rw [HIB.out, hv, Bool.and_false]))
            rw [hv] at HVL
            clear hn hv HNI HS HIB HCP HR0
            generalize l[i] = y at *
            obtain ⟨m, nme, hsh⟩ := y
            simp only [] at *
            go_wp2_with fail
            have hsx := hs.madeAt #[.int .i64 m, .string nme, .string hsh] 88 3 1 wr.heap.size (by rfl) (by simp [maxLen]) rfl
            generalize wr.alloc (.cells #[.int .i64 m, .string nme, .string hsh] 88) = wx at hsx ⊢
            generalize wr.heap.size = gx at hsx ⊢
            have x0 : wx.cell? ⟨gx, 0, none⟩ = some (.int .i64 m) := hsx.cell rfl
            have x1 : wx.cell? ⟨gx, 1, none⟩ = some (.string nme) := hsx.cell rfl
            have x2 : wx.cell? ⟨gx, 2, none⟩ = some (.string hsh) := hsx.cell rfl
            refine wp_region_C (fun W' => St w W' [⟨.slice (some ⟨gx, 0, none⟩) 1 1, 88, 3, 1, [.int .i64 m, .string nme, .string hsh]⟩] []) (by kernel_rfl) (by kernel_rfl) (by exact hsx.drew) ?_
            repeat ((first | (refine cq_y0 (v := ?_) (by with_reducible rfl) ?_ ?_; rotate_left 1; (focus (intro wq hq; (try dsimp only at hq); (have y0 := hq.cell (j := 0) rfl; have y1 := hq.cell (j := 1) rfl; have y2 := hq.cell (j := 2) rfl); go_simp; (first | done | with_reducible rfl | (go_at_call 77; refine (HNM.out _).mono ?_; rintro e w9 ⟨rfl, rfl⟩; refine ⟨?_, hq⟩; with_reducible rfl) | (go_at_call 58; refine (HVL.out _).mono ?_; rintro e w9 ⟨rfl, hk9⟩; refine ⟨?_, hq.call0 hk9⟩; with_reducible rfl))))) | (refine cq_no (by go_simp; first | done | (intro h9; cases h9)) ?_) | (refine cq_yes (v := ?_) (by go_simp) ?_ ?_; rotate_left 1; (focus (intro wq hq; (try dsimp only at hq); (have y0 := hq.cell (j := 0) rfl; have y1 := hq.cell (j := 1) rfl; have y2 := hq.cell (j := 2) rfl); go_simp; (first | done | with_reducible rfl | (go_at_call 77; refine (HNM.out _).mono ?_; rintro e w9 ⟨rfl, rfl⟩; refine ⟨?_, hq⟩; with_reducible rfl) | (go_at_call 58; refine (HVL.out _).mono ?_; rintro e w9 ⟨rfl, hk9⟩; refine ⟨?_, hq.call0 hk9⟩; with_reducible rfl)))))); (try simp only [Act.put, List.setIfInBounds_toArray, List.set_cons_zero, List.set_cons_succ]))
            refine cq_nil ?_
            intro wq hq
            (try dsimp only at hq)
            go_wp2_with fail
            go_ret
            exact ⟨by rw [HF.out]; rfl, hq.bare⟩
          | true =>
            have HB := Mx.hid (show itemB l[i] = true by rw [HIB.out, hn, hv, decide_eq_true ⟨hm1, hm2⟩]; rfl)
            rw [hv] at HVL
            clear hn hv HNI HIB
            by_cases h0 : i = 0
            · have HR := Mx.hid (HR0.out h0)
              have q0 : decide ((0 : Int) < (i : Int)) = false := decide_eq_false (by omega)
              have q0n : decide (0 < i) = false := decide_eq_false (by omega)
              clear h0 HR0 HCP
              generalize l[i] = y at *
              obtain ⟨m, nme, hsh⟩ := y
              simp only [] at *
              go_wp2_with fail
              have hsx := hs.madeAt #[.int .i64 m, .string nme, .string hsh] 88 3 1 wr.heap.size (by rfl) (by simp [maxLen]) rfl
              generalize wr.alloc (.cells #[.int .i64 m, .string nme, .string hsh] 88) = wx at hsx ⊢
              generalize wr.heap.size = gx at hsx ⊢
              have x0 : wx.cell? ⟨gx, 0, none⟩ = some (.int .i64 m) := hsx.cell rfl
              have x1 : wx.cell? ⟨gx, 1, none⟩ = some (.string nme) := hsx.cell rfl
              have x2 : wx.cell? ⟨gx, 2, none⟩ = some (.string hsh) := hsx.cell rfl
              refine wp_region_C (fun W' => St w W' [⟨.slice (some ⟨gx, 0, none⟩) 1 1, 88, 3, 1, [.int .i64 m, .string nme, .string hsh]⟩] []) (by kernel_rfl) (by kernel_rfl) (by exact hsx.drew) ?_
              repeat ((first | (refine cq_y0 (v := ?_) (by with_reducible rfl) ?_ ?_; rotate_left 1; (focus (intro wq hq; (try dsimp only at hq); (have y0 := hq.cell (j := 0) rfl; have y1 := hq.cell (j := 1) rfl; have y2 := hq.cell (j := 2) rfl); go_simp; (first | done | with_reducible rfl | (go_at_call 77; refine (HNM.out _).mono ?_; rintro e w9 ⟨rfl, rfl⟩; refine ⟨?_, hq⟩; with_reducible rfl) | (go_at_call 58; refine (HVL.out _).mono ?_; rintro e w9 ⟨rfl, hk9⟩; refine ⟨?_, hq.call0 hk9⟩; with_reducible rfl))))) | (refine cq_no (by go_simp; first | done | (intro h9; cases h9)) ?_) | (refine cq_yes (v := ?_) (by go_simp) ?_ ?_; rotate_left 1; (focus (intro wq hq; (try dsimp only at hq); (have y0 := hq.cell (j := 0) rfl; have y1 := hq.cell (j := 1) rfl; have y2 := hq.cell (j := 2) rfl); go_simp; (first | done | with_reducible rfl | (go_at_call 77; refine (HNM.out _).mono ?_; rintro e w9 ⟨rfl, rfl⟩; refine ⟨?_, hq⟩; with_reducible rfl) | (go_at_call 58; refine (HVL.out _).mono ?_; rintro e w9 ⟨rfl, hk9⟩; refine ⟨?_, hq.call0 hk9⟩; with_reducible rfl)))))); (try simp only [Act.put, List.setIfInBounds_toArray, List.set_cons_zero, List.set_cons_succ]))
              refine cq_nil ?_
              intro wq hq
              (try dsimp only at hq)
              go_wp2_with fail
              case roundEnd => exact ⟨⟨i + 1, by omega, by go_num, Mx.hid ⟨by rw [HS.out, HA.out.1, HB.out]; rfl, HR.out⟩, hq.bare⟩, by simp [intOf]; omega⟩
            · have hpos : 0 < i := by omega
              have hi1 : i - 1 < l.length := by omega
              obtain ⟨t, _, hD, hRS⟩ := HCP.out hpos
              have HRS := Mx.hid hRS
              have HD := Mx.hid hD
              have k1 : IntKind.i64.wrap ((i : Int) - 1) = (i : Int) - 1 := IntWalk.i64_in _ (by omega)
              have k2 : ((i : Int) - 1).toNat = i - 1 := by omega
              have k3 : (0 : Int) ≤ (i : Int) - 1 := by omega
              have k4 : (i : Int) - 1 < (l.length : Int) := by omega
              have k5 : (1 : Int) ≤ (i : Int) := by omega
              have q0 : decide ((0 : Int) < (i : Int)) = true := decide_eq_true (by omega)
              have q0n : decide (0 < i) = true := decide_eq_true hpos
              clear hD hRS h0 HR0 HCP
              generalize l[i] = y at *
              obtain ⟨m, nme, hsh⟩ := y
              simp only [] at *
              cases hless : Op.bytesLess t.toList nme.toList with
              | true =>
                have HR := Mx.hid (HRS.out _ hless)
                obtain ⟨p1, p2⟩ := less_le hless
                clear hless HRS
                go_wp2_with fail
                have hsx := hs.madeAt #[.int .i64 m, .string nme, .string hsh] 88 3 1 wr.heap.size (by rfl) (by simp [maxLen]) rfl
                generalize wr.alloc (.cells #[.int .i64 m, .string nme, .string hsh] 88) = wx at hsx ⊢
                generalize wr.heap.size = gx at hsx ⊢
                have x0 : wx.cell? ⟨gx, 0, none⟩ = some (.int .i64 m) := hsx.cell rfl
                have x1 : wx.cell? ⟨gx, 1, none⟩ = some (.string nme) := hsx.cell rfl
                have x2 : wx.cell? ⟨gx, 2, none⟩ = some (.string hsh) := hsx.cell rfl
                refine wp_region_C (fun W' => St w W' [⟨.slice (some ⟨gx, 0, none⟩) 1 1, 88, 3, 1, [.int .i64 m, .string nme, .string hsh]⟩] []) (by kernel_rfl) (by kernel_rfl) (by exact hsx.drew) ?_
                repeat ((first | (refine cq_y0 (v := ?_) (by with_reducible rfl) ?_ ?_; rotate_left 1; (focus (intro wq hq; (try dsimp only at hq); ((have y0 := hq.cell (j := 0) rfl; have y1 := hq.cell (j := 1) rfl; have y2 := hq.cell (j := 2) rfl); have y3 := HD.out _ _ _ hq); go_simp; (first | done | with_reducible rfl | (go_at_call 77; refine (HNM.out _).mono ?_; rintro e w9 ⟨rfl, rfl⟩; refine ⟨?_, hq⟩; with_reducible rfl) | (go_at_call 58; refine (HVL.out _).mono ?_; rintro e w9 ⟨rfl, hk9⟩; refine ⟨?_, hq.call0 hk9⟩; with_reducible rfl))))) | (refine cq_no (by go_simp; first | done | (intro h9; cases h9)) ?_) | (refine cq_yes (v := ?_) (by go_simp) ?_ ?_; rotate_left 1; (focus (intro wq hq; (try dsimp only at hq); ((have y0 := hq.cell (j := 0) rfl; have y1 := hq.cell (j := 1) rfl; have y2 := hq.cell (j := 2) rfl); have y3 := HD.out _ _ _ hq); go_simp; (first | done | with_reducible rfl | (go_at_call 77; refine (HNM.out _).mono ?_; rintro e w9 ⟨rfl, rfl⟩; refine ⟨?_, hq⟩; with_reducible rfl) | (go_at_call 58; refine (HVL.out _).mono ?_; rintro e w9 ⟨rfl, hk9⟩; refine ⟨?_, hq.call0 hk9⟩; with_reducible rfl)))))); (try simp only [Act.put, List.setIfInBounds_toArray, List.set_cons_zero, List.set_cons_succ]))
                refine cq_nil ?_
                intro wq hq
                (try dsimp only at hq)
                go_wp2_with fail
                case roundEnd => exact ⟨⟨i + 1, by omega, by go_num, Mx.hid ⟨by rw [HS.out, HA.out.1, HB.out]; rfl, by rw [HR.out.1, HA.out.2]; rfl⟩, hq.bare⟩, by simp [intOf]; omega⟩
              | false =>
                have HF := Mx.hid ((HRS.out _ hless).2 rfl)
                have hq1 := less_not hless
                clear hless HRS
                rcases hq1 with p1 | ⟨p1, p2⟩
                · go_wp2_with fail
                  have hsx := hs.madeAt #[.int .i64 m, .string nme, .string hsh] 88 3 1 wr.heap.size (by rfl) (by simp [maxLen]) rfl
                  generalize wr.alloc (.cells #[.int .i64 m, .string nme, .string hsh] 88) = wx at hsx ⊢
                  generalize wr.heap.size = gx at hsx ⊢
                  have x0 : wx.cell? ⟨gx, 0, none⟩ = some (.int .i64 m) := hsx.cell rfl
                  have x1 : wx.cell? ⟨gx, 1, none⟩ = some (.string nme) := hsx.cell rfl
                  have x2 : wx.cell? ⟨gx, 2, none⟩ = some (.string hsh) := hsx.cell rfl
                  refine wp_region_C (fun W' => St w W' [⟨.slice (some ⟨gx, 0, none⟩) 1 1, 88, 3, 1, [.int .i64 m, .string nme, .string hsh]⟩] []) (by kernel_rfl) (by kernel_rfl) (by exact hsx.drew) ?_
                  repeat ((first | (refine cq_y0 (v := ?_) (by with_reducible rfl) ?_ ?_; rotate_left 1; (focus (intro wq hq; (try dsimp only at hq); ((have y0 := hq.cell (j := 0) rfl; have y1 := hq.cell (j := 1) rfl; have y2 := hq.cell (j := 2) rfl); have y3 := HD.out _ _ _ hq); go_simp; (first | done | with_reducible rfl | (go_at_call 77; refine (HNM.out _).mono ?_; rintro e w9 ⟨rfl, rfl⟩; refine ⟨?_, hq⟩; with_reducible rfl) | (go_at_call 58; refine (HVL.out _).mono ?_; rintro e w9 ⟨rfl, hk9⟩; refine ⟨?_, hq.call0 hk9⟩; with_reducible rfl))))) | (refine cq_no (by go_simp; first | done | (intro h9; cases h9)) ?_) | (refine cq_yes (v := ?_) (by go_simp) ?_ ?_; rotate_left 1; (focus (intro wq hq; (try dsimp only at hq); ((have y0 := hq.cell (j := 0) rfl; have y1 := hq.cell (j := 1) rfl; have y2 := hq.cell (j := 2) rfl); have y3 := HD.out _ _ _ hq); go_simp; (first | done | with_reducible rfl | (go_at_call 77; refine (HNM.out _).mono ?_; rintro e w9 ⟨rfl, rfl⟩; refine ⟨?_, hq⟩; with_reducible rfl) | (go_at_call 58; refine (HVL.out _).mono ?_; rintro e w9 ⟨rfl, hk9⟩; refine ⟨?_, hq.call0 hk9⟩; with_reducible rfl)))))); (try simp only [Act.put, List.setIfInBounds_toArray, List.set_cons_zero, List.set_cons_succ]))
                  refine cq_nil ?_
                  intro wq hq
                  (try dsimp only at hq)
                  go_wp2_with fail
                  go_ret
                  exact ⟨by rw [HF.out]; rfl, hq.bare⟩
                · go_wp2_with fail
                  have hsx := hs.madeAt #[.int .i64 m, .string nme, .string hsh] 88 3 1 wr.heap.size (by rfl) (by simp [maxLen]) rfl
                  generalize wr.alloc (.cells #[.int .i64 m, .string nme, .string hsh] 88) = wx at hsx ⊢
                  generalize wr.heap.size = gx at hsx ⊢
                  have x0 : wx.cell? ⟨gx, 0, none⟩ = some (.int .i64 m) := hsx.cell rfl
                  have x1 : wx.cell? ⟨gx, 1, none⟩ = some (.string nme) := hsx.cell rfl
                  have x2 : wx.cell? ⟨gx, 2, none⟩ = some (.string hsh) := hsx.cell rfl
                  refine wp_region_C (fun W' => St w W' [⟨.slice (some ⟨gx, 0, none⟩) 1 1, 88, 3, 1, [.int .i64 m, .string nme, .string hsh]⟩] []) (by kernel_rfl) (by kernel_rfl) (by exact hsx.drew) ?_
                  repeat ((first | (refine cq_y0 (v := ?_) (by with_reducible rfl) ?_ ?_; rotate_left 1; (focus (intro wq hq; (try dsimp only at hq); ((have y0 := hq.cell (j := 0) rfl; have y1 := hq.cell (j := 1) rfl; have y2 := hq.cell (j := 2) rfl); have y3 := HD.out _ _ _ hq); go_simp; (first | done | with_reducible rfl | (go_at_call 77; refine (HNM.out _).mono ?_; rintro e w9 ⟨rfl, rfl⟩; refine ⟨?_, hq⟩; with_reducible rfl) | (go_at_call 58; refine (HVL.out _).mono ?_; rintro e w9 ⟨rfl, hk9⟩; refine ⟨?_, hq.call0 hk9⟩; with_reducible rfl))))) | (refine cq_no (by go_simp; first | done | (intro h9; cases h9)) ?_) | (refine cq_yes (v := ?_) (by go_simp) ?_ ?_; rotate_left 1; (focus (intro wq hq; (try dsimp only at hq); ((have y0 := hq.cell (j := 0) rfl; have y1 := hq.cell (j := 1) rfl; have y2 := hq.cell (j := 2) rfl); have y3 := HD.out _ _ _ hq); go_simp; (first | done | with_reducible rfl | (go_at_call 77; refine (HNM.out _).mono ?_; rintro e w9 ⟨rfl, rfl⟩; refine ⟨?_, hq⟩; with_reducible rfl) | (go_at_call 58; refine (HVL.out _).mono ?_; rintro e w9 ⟨rfl, hk9⟩; refine ⟨?_, hq.call0 hk9⟩; with_reducible rfl)))))); (try simp only [Act.put, List.setIfInBounds_toArray, List.set_cons_zero, List.set_cons_succ]))
                  refine cq_nil ?_
                  intro wq hq
                  (try dsimp only at hq)
                  go_wp2_with fail
                  go_ret
                  exact ⟨by rw [HF.out]; rfl, hq.bare⟩
    · have HF := Mx.hid (show itemsB l = decide (l.length ≤ 256) by
        have h1 := HA.out.1
        have h2 := HA.out.2
        rw [List.take_of_length_le (by omega)] at h1
        rw [List.take_of_length_le (by rw [List.length_map]; omega)] at h2
        unfold itemsB; rw [h1, h2]; rfl)
      go_wp2_with fail
      go_ret
      exact ⟨by rw [HF.out, le_dec]; rfl, hs⟩
end Go.Proofs.YtloogjdafhjheaaGreat
