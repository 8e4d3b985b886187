/- marlaw6.ObjRefs. -/
import Derived.Test.YtobpojlophhfaaaO6F
import Derived.Test.YtobpojlophhfaaaRowOb
namespace Go.Mx
open Go Go.RowKit
theorem refs_valid {o : Ob} (h : mayB o = true) : ∀ s ∈ refsL o, validB s = true := by
  intro s hs
  unfold mayB at h
  unfold refsL at hs
  by_cases k2 : o.kind = 2
  · rw [if_pos k2] at hs
    rw [if_neg (by omega), if_pos k2] at h
    simp only [Bool.and_eq_true, itemsB] at h
    obtain ⟨x, hx, rfl⟩ := List.mem_map.1 hs
    have := List.all_eq_true.1 h.1.2.1.1 x hx
    simp only [itemB, Bool.and_eq_true] at this
    exact this.2
  · rw [if_neg k2] at hs
    by_cases k3 : o.kind = 3
    · rw [if_pos k3] at hs
      rw [if_neg (by omega), if_neg k2, if_pos k3] at h
      simp only [Bool.and_eq_true, parentsB] at h
      rcases List.mem_cons.1 hs with rfl | hs
      · exact h.1.1.1.1.2
      · exact List.all_eq_true.1 h.1.1.1.2.1.1 s hs
    · rw [if_neg k3] at hs; cases hs
theorem refs_size {o : Ob} (h : OZ o) : ∀ s ∈ refsL o, s.size ≤ 140737488351232 := by
  intro s hs
  unfold refsL at hs
  split at hs
  · obtain ⟨x, hx, rfl⟩ := List.mem_map.1 hs
    exact (h.it x hx).2.1
  · split at hs
    · rcases List.mem_cons.1 hs with rfl | hs
      · exact h.tr
      · exact h.ps s hs
    · cases hs
theorem refs_len (o : Ob) : (refsL o).length = if o.kind = 2 then o.items.length else if o.kind = 3 then o.parents.length + 1 else 0 := by
  unfold refsL
  split
  · simp
  · split <;> simp
theorem txt_at {w : World} {ao : Option Addr} {n cap : Nat} {l : List ByteArray} (h : Sl w 1 (.slice ao n cap) l.length (ss l)) (i : Nat) (hi : i < l.length) : ∃ blk off, ao = some ⟨blk, off, none⟩ ∧ w.cell? ⟨blk, off + i, none⟩ = some (.string l[i]) := by
  obtain ⟨ao', cap', blk, off, e, _, _, _, hc⟩ := h.txt
  cases e
  obtain ⟨rfl, c⟩ := hc i hi
  exact ⟨blk, off, rfl, c⟩
theorem txt_cell {w : World} {blk off n cap : Nat} {l : List ByteArray} (h : Sl w 1 (.slice (some ⟨blk, off, none⟩) n cap) l.length (ss l)) (i : Nat) (hi : i < l.length) : w.cell? ⟨blk, off + i, none⟩ = some (.string l[i]) := by
  obtain ⟨b, o, e, c⟩ := txt_at h i hi
  cases e
  exact c
end Go.Mx
namespace Go.Proofs.Ytobpojlophhfaaa
open Go.RowKit Go.Mx

set_option maxRecDepth 100000 in
set_option maxHeartbeats 4000000 in
theorem objRefsRow (dv iv pv : Value) (o : Ob) {w : World} (h : OB w dv iv pv o) (_hi : OI o) (hz : OZ o ∧ o.data.length ≤ reachBytes) (_w : World) :
    Calls Try.prog 3 #[OV dv iv pv o] w fun e w' => e = .returned (.bool true) ∧ Below w.heap.size w w' := by
  have HF := Mx.hid (fun wx (hs : St w wx [] []) => few_any dv iv pv o wx (OB.old hs h) hz.1)
  have HMY := Mx.hid (fun wx (hs : St w wx [] []) => may_any dv iv pv o wx (OB.old hs h) hz.1)
  have HR := Mx.hid (fun wx (hs : St w wx [] []) (h1 : o.items.length ≤ 400) (h2 : o.parents.length ≤ 400) => refs_any dv iv pv o wx (OB.old hs h) (by omega) (by omega))
  have HV := Mx.hid (fun (hm : mayB o = true) (i : Nat) (hi : i < (refsL o).length) wx => (valid_any (refsL o)[i] wx (by
    have := refs_size hz.1 (refsL o)[i] (List.getElem_mem hi); omega)).mono fun e w' h => (show e = .returned (.bool true) ∧ St wx w' [] [] from ⟨by rw [h.1]; exact congrArg (fun b => Ending.returned (.bool b)) (refs_valid hm (refsL o)[i] (List.getElem_mem hi)), h.2⟩))
  obtain ⟨d1, d2, rfl, g1, g2, _⟩ := h.d
  obtain ⟨i1, i2, rfl, g3, g4, _⟩ := h.i
  obtain ⟨p1, p2, rfl, g5, g6, _⟩ := h.p
  unfold maxLen at g2 g4 g6
  clear h hz
  have HK := Mx.hid (fun hm => may_kind (o := o) hm)
  have HL := Mx.hid (rfl : refsL o = refsL o)
  generalize hRL : refsL o = RL at *
  have HRL := Mx.hid hRL
  clear hRL HL
  generalize hMB : mayB o = mb at *
  clear hMB
  obtain ⟨kind, data, items, tree, parents, stamp, author, msg⟩ := o
  simp only [OV] at *
  go_enter Try.func3, Try.ntmps3
  go_wp2_with (first | (((with_reducible show wpList _ _ _ _ _ _); refine wpl_box rfl 26 _ rfl (St.refl w) ([.int .i64 kind, .slice d1 data.length d2, .slice i1 items.length i2, .string tree, .slice p1 parents.length p2, .int .i64 stamp, .int .i64 author, .string msg]) (by rfl) ?_; intro gx wx hsx); (have x0 := hsx.cell (j := 0) rfl; have x1 := hsx.cell (j := 1) rfl; have x2 := hsx.cell (j := 2) rfl; have x3 := hsx.cell (j := 3) rfl; have x4 := hsx.cell (j := 4) rfl; have x5 := hsx.cell (j := 5) rfl; have x6 := hsx.cell (j := 6) rfl; have x7 := hsx.cell (j := 7) rfl)) | (go_at_call 8; refine (first_any _).mono ?_; rintro e w9 ⟨rfl, hk9⟩; replace hsx := hsx.call0 hk9; (have x0 := hsx.cell (j := 0) rfl; have x1 := hsx.cell (j := 1) rfl; have x2 := hsx.cell (j := 2) rfl; have x3 := hsx.cell (j := 3) rfl; have x4 := hsx.cell (j := 4) rfl; have x5 := hsx.cell (j := 5) rfl; have x6 := hsx.cell (j := 6) rfl; have x7 := hsx.cell (j := 7) rfl)) | ((with_reducible show wpList _ _ _ _ _ _); refine wpl_loadA rfl 26 _ rfl Try.aObj (gx) (0) rfl ([.int .i64 kind, .slice d1 data.length d2, .slice i1 items.length i2, .string tree, .slice p1 parents.length p2, .int .i64 stamp, .int .i64 author, .string msg]) rfl (fun i u h => by rw [Nat.zero_add]; exact hsx.rcell (List.mem_cons_self ..) h) ?_))
  refine (HF.out _ hsx.bare).mono ?_
  rintro e w3 ⟨b, rfl, hk, hb⟩
  replace hsx := hsx.call0 hk
  (have x0 := hsx.cell (j := 0) rfl; have x1 := hsx.cell (j := 1) rfl; have x2 := hsx.cell (j := 2) rfl; have x3 := hsx.cell (j := 3) rfl; have x4 := hsx.cell (j := 4) rfl; have x5 := hsx.cell (j := 5) rfl; have x6 := hsx.cell (j := 6) rfl; have x7 := hsx.cell (j := 7) rfl)
  cases b with
  | false =>
    clear hb
    go_wp2_with (first | ((with_reducible show wpList _ _ _ _ _ _); refine wpl_want rfl ?_) | (go_at_call 8; refine (first_any _).mono ?_; rintro e w9 ⟨rfl, hk9⟩; replace hsx := hsx.call0 hk9; (have x0 := hsx.cell (j := 0) rfl; have x1 := hsx.cell (j := 1) rfl; have x2 := hsx.cell (j := 2) rfl; have x3 := hsx.cell (j := 3) rfl; have x4 := hsx.cell (j := 4) rfl; have x5 := hsx.cell (j := 5) rfl; have x6 := hsx.cell (j := 6) rfl; have x7 := hsx.cell (j := 7) rfl)))
    go_ret
    exact ⟨rfl, hsx.below⟩
  | true =>
    have HB := Mx.hid (hb rfl)
    clear hb
    go_wp2_with (first | ((with_reducible show wpList _ _ _ _ _ _); refine wpl_want rfl ?_) | ((with_reducible show wpList _ _ _ _ _ _); refine wpl_loadA rfl 26 _ rfl Try.aObj (gx) (0) rfl ([.int .i64 kind, .slice d1 data.length d2, .slice i1 items.length i2, .string tree, .slice p1 parents.length p2, .int .i64 stamp, .int .i64 author, .string msg]) rfl (fun i u h => by rw [Nat.zero_add]; exact hsx.rcell (List.mem_cons_self ..) h) ?_))
    refine (HMY.out _ hsx.bare).mono ?_
    rintro e w4 ⟨rfl, hk⟩
    replace hsx := hsx.call0 hk
    (have x0 := hsx.cell (j := 0) rfl; have x1 := hsx.cell (j := 1) rfl; have x2 := hsx.cell (j := 2) rfl; have x3 := hsx.cell (j := 3) rfl; have x4 := hsx.cell (j := 4) rfl; have x5 := hsx.cell (j := 5) rfl; have x6 := hsx.cell (j := 6) rfl; have x7 := hsx.cell (j := 7) rfl)
    cases mb with
    | false =>
      go_wp2_with (first | ((with_reducible show wpList _ _ _ _ _ _); refine wpl_want rfl ?_) | (go_at_call 8; refine (first_any _).mono ?_; rintro e w9 ⟨rfl, hk9⟩; replace hsx := hsx.call0 hk9; (have x0 := hsx.cell (j := 0) rfl; have x1 := hsx.cell (j := 1) rfl; have x2 := hsx.cell (j := 2) rfl; have x3 := hsx.cell (j := 3) rfl; have x4 := hsx.cell (j := 4) rfl; have x5 := hsx.cell (j := 5) rfl; have x6 := hsx.cell (j := 6) rfl; have x7 := hsx.cell (j := 7) rfl)))
      go_ret
      exact ⟨rfl, hsx.below⟩
    | true =>
      have hkk := HK.out rfl
      go_wp2_with (first | ((with_reducible show wpList _ _ _ _ _ _); refine wpl_want rfl ?_) | ((with_reducible show wpList _ _ _ _ _ _); refine wpl_loadA rfl 26 _ rfl Try.aObj (gx) (0) rfl ([.int .i64 kind, .slice d1 data.length d2, .slice i1 items.length i2, .string tree, .slice p1 parents.length p2, .int .i64 stamp, .int .i64 author, .string msg]) rfl (fun i u h => by rw [Nat.zero_add]; exact hsx.rcell (List.mem_cons_self ..) h) ?_))
      refine (HR.out _ hsx.bare HB.out.1 HB.out.2.1).mono ?_
      rintro e w5 ⟨v, rfl, hk5⟩
      rw [HRL.out] at hk5
      obtain ⟨ao, cap, rfl, l1, l2, _⟩ := id hk5.sl0
      replace hsx := (hsx.call1 hk5).freeze
      simp only [] at hsx
      unfold maxLen at l2
      have HL := Mx.hid (refs_len ⟨kind, data, items, tree, parents, stamp, author, msg⟩)
      have HRLd := Mx.hid HRL.out
      rw [HRL.out] at HL
      have HV2 := Mx.hid (HV.out (by trivial))
      clear HV HMY HF HR
      go_wp2_with fail
      go_loopw [4] (fun y wr => ∃ i : Nat, i ≤ RL.length ∧ y = .int .i64 i ∧ St w wr [(⟨.slice (some ⟨gx, 0, none⟩) 1 1, 26, 8, 1, [.int .i64 kind, .slice d1 data.length d2, .slice i1 items.length i2, .string tree, .slice p1 parents.length p2, .int .i64 stamp, .int .i64 author, .string msg]⟩ : Row)] [⟨.slice ao RL.length cap, 1, RL.length, ss RL⟩]) (fun y _ => RL.length - (intOf y).toNat)
      case atStart => exact ⟨0, by omega, rfl, hsx⟩
      case round =>
        clear x0 x1 x2 x3 x4 x5 x6 x7 hsx
        obtain ⟨i, hi, rfl, hs⟩ := hrel
        by_cases hlt : i < RL.length
        · obtain ⟨blk, off, rfl, c0⟩ := txt_at hs.q0 i hlt
          have HVV := Mx.hid (HV2.out i hlt)
          generalize RL[i] = s at *
          go_wp2_with (go_at_call 12; refine (HVV.out _).mono ?_; rintro e w6 ⟨rfl, hk6⟩)
          go_roundw
          case rel => exact ⟨i + 1, by omega, by go_num, hs.call0 hk6⟩
          case measure => simp [intOf]; omega
        · (have x0 := hs.cell (j := 0) rfl; have x1 := hs.cell (j := 1) rfl; have x2 := hs.cell (j := 2) rfl; have x3 := hs.cell (j := 3) rfl; have x4 := hs.cell (j := 4) rfl; have x5 := hs.cell (j := 5) rfl; have x6 := hs.cell (j := 6) rfl; have x7 := hs.cell (j := 7) rfl)
          rcases hkk with rfl | rfl | rfl
          · have q : ((RL.length : Int) == 0) = true := by have := HL.out; rw [if_neg (by decide), if_neg (by decide)] at this; simp [this]
            go_wp2_with fail
            refine wp_region_C (fun W' => St w W' [(⟨.slice (some ⟨gx, 0, none⟩) 1 1, 26, 8, 1, [.int .i64 1, .slice d1 data.length d2, .slice i1 items.length i2, .string tree, .slice p1 parents.length p2, .int .i64 stamp, .int .i64 author, .string msg]⟩ : Row)] [⟨.slice ao RL.length cap, 1, RL.length, ss RL⟩]) (by kernel_rfl) (by kernel_rfl) (by exact hs.drew) ?_
            repeat ((first | (refine cq_y0 (v := ?_) (by with_reducible rfl) ?_ ?_; rotate_left 1; (focus (intro wq hq; (try dsimp only at hq); ((have x0 := hq.cell (j := 0) rfl; have x1 := hq.cell (j := 1) rfl; have x2 := hq.cell (j := 2) rfl; have x3 := hq.cell (j := 3) rfl; have x4 := hq.cell (j := 4) rfl; have x5 := hq.cell (j := 5) rfl; have x6 := hq.cell (j := 6) rfl; have x7 := hq.cell (j := 7) rfl); skip); go_simp; (first | done | with_reducible rfl | (go_at_call 8; refine (first_any _).mono ?_; rintro e w9 ⟨rfl, hk9⟩; refine ⟨?_, hq.call0 hk9⟩; with_reducible rfl))))) | (refine cq_no (by go_simp; first | done | (intro h9; cases h9)) ?_) | (refine cq_yes (v := ?_) (by go_simp) ?_ ?_; rotate_left 1; (focus (intro wq hq; (try dsimp only at hq); ((have x0 := hq.cell (j := 0) rfl; have x1 := hq.cell (j := 1) rfl; have x2 := hq.cell (j := 2) rfl; have x3 := hq.cell (j := 3) rfl; have x4 := hq.cell (j := 4) rfl; have x5 := hq.cell (j := 5) rfl; have x6 := hq.cell (j := 6) rfl; have x7 := hq.cell (j := 7) rfl); skip); go_simp; (first | done | with_reducible rfl | (go_at_call 8; refine (first_any _).mono ?_; rintro e w9 ⟨rfl, hk9⟩; refine ⟨?_, hq.call0 hk9⟩; with_reducible rfl)))))); (try simp only [Act.put, List.setIfInBounds_toArray, List.set_cons_zero, List.set_cons_succ]))
            refine cq_nil ?_
            intro wq hq
            (try dsimp only at hq)
            go_wp2_with fail
            go_ret
            exact ⟨rfl, hq.below⟩
          · have q : ((RL.length : Int) == (items.length : Int)) = true := by have := HL.out; rw [if_pos rfl] at this; simp [this]
            go_wp2_with fail
            refine wp_region_C (fun W' => St w W' [(⟨.slice (some ⟨gx, 0, none⟩) 1 1, 26, 8, 1, [.int .i64 2, .slice d1 data.length d2, .slice i1 items.length i2, .string tree, .slice p1 parents.length p2, .int .i64 stamp, .int .i64 author, .string msg]⟩ : Row)] [⟨.slice ao RL.length cap, 1, RL.length, ss RL⟩]) (by kernel_rfl) (by kernel_rfl) (by exact hs.drew) ?_
            repeat ((first | (refine cq_y0 (v := ?_) (by with_reducible rfl) ?_ ?_; rotate_left 1; (focus (intro wq hq; (try dsimp only at hq); ((have x0 := hq.cell (j := 0) rfl; have x1 := hq.cell (j := 1) rfl; have x2 := hq.cell (j := 2) rfl; have x3 := hq.cell (j := 3) rfl; have x4 := hq.cell (j := 4) rfl; have x5 := hq.cell (j := 5) rfl; have x6 := hq.cell (j := 6) rfl; have x7 := hq.cell (j := 7) rfl); skip); go_simp; (first | done | with_reducible rfl | (go_at_call 8; refine (first_any _).mono ?_; rintro e w9 ⟨rfl, hk9⟩; refine ⟨?_, hq.call0 hk9⟩; with_reducible rfl))))) | (refine cq_no (by go_simp; first | done | (intro h9; cases h9)) ?_) | (refine cq_yes (v := ?_) (by go_simp) ?_ ?_; rotate_left 1; (focus (intro wq hq; (try dsimp only at hq); ((have x0 := hq.cell (j := 0) rfl; have x1 := hq.cell (j := 1) rfl; have x2 := hq.cell (j := 2) rfl; have x3 := hq.cell (j := 3) rfl; have x4 := hq.cell (j := 4) rfl; have x5 := hq.cell (j := 5) rfl; have x6 := hq.cell (j := 6) rfl; have x7 := hq.cell (j := 7) rfl); skip); go_simp; (first | done | with_reducible rfl | (go_at_call 8; refine (first_any _).mono ?_; rintro e w9 ⟨rfl, hk9⟩; refine ⟨?_, hq.call0 hk9⟩; with_reducible rfl)))))); (try simp only [Act.put, List.setIfInBounds_toArray, List.set_cons_zero, List.set_cons_succ]))
            refine cq_nil ?_
            intro wq hq
            (try dsimp only at hq)
            go_wp2_with fail
            go_ret
            exact ⟨rfl, hq.below⟩
          · have hrl : RL = tree :: parents := HRL.out.symm.trans (by unfold refsL; rw [if_neg (show ¬ (3 : Int) = 2 by decide), if_pos rfl])
            have hpos : 0 < RL.length := by rw [hrl]; simp
            have h0 : RL[0] = tree := by subst hrl; rfl
            have q : ((RL.length : Int) == 1 + (parents.length : Int)) = true := by rw [hrl]; simp; omega
            obtain ⟨blk, off, rfl, _⟩ := txt_at hs.q0 0 hpos
            have H0 := Mx.hid (fun W' (hq : St w W' [(⟨.slice (some ⟨gx, 0, none⟩) 1 1, 26, 8, 1, [.int .i64 3, .slice d1 data.length d2, .slice i1 items.length i2, .string tree, .slice p1 parents.length p2, .int .i64 stamp, .int .i64 author, .string msg]⟩ : Row)] [⟨.slice (some ⟨blk, off, none⟩) RL.length cap, 1, RL.length, ss RL⟩]) => (show W'.cell? ⟨blk, off, none⟩ = some (.string tree) by have := txt_cell hq.q0 0 hpos; rw [h0] at this; simpa using this))
            have hp4 := HB.out.2.1
            have hwp : wrap64 (1 + (parents.length : Int)) = 1 + (parents.length : Int) := by unfold wrap64; omega
            clear hrl h0
            go_wp2_with fail
            refine wp_region_C (fun W' => St w W' [(⟨.slice (some ⟨gx, 0, none⟩) 1 1, 26, 8, 1, [.int .i64 3, .slice d1 data.length d2, .slice i1 items.length i2, .string tree, .slice p1 parents.length p2, .int .i64 stamp, .int .i64 author, .string msg]⟩ : Row)] [⟨.slice (some ⟨blk, off, none⟩) RL.length cap, 1, RL.length, ss RL⟩]) (by kernel_rfl) (by kernel_rfl) (by exact hs.drew) ?_
            repeat ((first | (refine cq_y0 (v := ?_) (by with_reducible rfl) ?_ ?_; rotate_left 1; (focus (intro wq hq; (try dsimp only at hq); ((have x0 := hq.cell (j := 0) rfl; have x1 := hq.cell (j := 1) rfl; have x2 := hq.cell (j := 2) rfl; have x3 := hq.cell (j := 3) rfl; have x4 := hq.cell (j := 4) rfl; have x5 := hq.cell (j := 5) rfl; have x6 := hq.cell (j := 6) rfl; have x7 := hq.cell (j := 7) rfl); have z0 := H0.out _ hq); go_simp; (first | done | with_reducible rfl | (go_at_call 8; refine (first_any _).mono ?_; rintro e w9 ⟨rfl, hk9⟩; refine ⟨?_, hq.call0 hk9⟩; with_reducible rfl))))) | (refine cq_no (by go_simp; first | done | (intro h9; cases h9)) ?_) | (refine cq_yes (v := ?_) (by go_simp) ?_ ?_; rotate_left 1; (focus (intro wq hq; (try dsimp only at hq); ((have x0 := hq.cell (j := 0) rfl; have x1 := hq.cell (j := 1) rfl; have x2 := hq.cell (j := 2) rfl; have x3 := hq.cell (j := 3) rfl; have x4 := hq.cell (j := 4) rfl; have x5 := hq.cell (j := 5) rfl; have x6 := hq.cell (j := 6) rfl; have x7 := hq.cell (j := 7) rfl); have z0 := H0.out _ hq); go_simp; (first | done | with_reducible rfl | (go_at_call 8; refine (first_any _).mono ?_; rintro e w9 ⟨rfl, hk9⟩; refine ⟨?_, hq.call0 hk9⟩; with_reducible rfl)))))); (try simp only [Act.put, List.setIfInBounds_toArray, List.set_cons_zero, List.set_cons_succ]))
            refine cq_nil ?_
            intro wq hq
            (try dsimp only at hq)
            go_wp2_with fail
            go_ret
            exact ⟨rfl, hq.below⟩
end Go.Proofs.Ytobpojlophhfaaa
