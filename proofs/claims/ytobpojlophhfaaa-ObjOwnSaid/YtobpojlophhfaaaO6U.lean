/- marlaw6.ObjUnlike. -/
import Derived.Test.YtobpojlophhfaaaO6F
import Derived.Test.YtobpojlophhfaaaRowOb
namespace Go.Proofs.Ytobpojlophhfaaa
open Go.RowKit Go.Mx

theorem enc_yes {dv iv pv : Value} {o : Ob} {w : World} (h : OB w dv iv pv o) (hz : OZ o) (hm : mayB o = true) : Calls Try.prog 13 #[OV dv iv pv o] w fun e w' => ∃ v, e = .returned (.tuple #[v, .int .i64 0]) ∧ St w w' [(⟨v, 5, 1, (encL o).length, bs (encL o)⟩ : Row)] [] :=
  (encode_any dv iv pv o w h hz).mono fun e w' he => by unfold EncPost at he; rw [if_pos hm] at he; exact he
theorem enc_no {dv iv pv : Value} {o : Ob} {w : World} (h : OB w dv iv pv o) (hz : OZ o) (hm : mayB o = false) : Calls Try.prog 13 #[OV dv iv pv o] w fun e w' => e = .returned (.tuple #[.slice none 0 0, .int .i64 1]) ∧ St w w' [] [] :=
  (encode_any dv iv pv o w h hz).mono fun e w' he => by unfold EncPost at he; rw [if_neg (by simp [hm])] at he; exact he
theorem same_sym (a b : Ob) : sameB b a = sameB a b := by
  rw [Bool.eq_iff_iff, sameB_iff, sameB_iff]
  exact ⟨Eq.symm, Eq.symm⟩
theorem same_enc {a b : Ob} (ha : mayB a = true) (hb : mayB b = true) : decide (encL a = encL b) = sameB a b := by
  rw [Bool.eq_iff_iff, sameB_iff, decide_eq_true_iff]
  exact ⟨enc_inj ha hb, fun h => by rw [h]⟩

set_option maxRecDepth 100000 in
set_option maxHeartbeats 4000000 in
theorem objUnlikeRow (dv iv pv : Value) (o : Ob) {w : World} (h : OB w dv iv pv o) (_hi : OI o) (hz : OZ o ∧ o.data.length ≤ reachBytes) (dv' iv' pv' : Value) (o' : Ob) (h' : OB w dv' iv' pv' o') (_hi' : OI o') (hz' : OZ o' ∧ o'.data.length ≤ reachBytes) (_w : World) :
    Calls Try.prog 4 #[OV dv iv pv o, OV dv' iv' pv' o'] w fun e w' => e = .returned (.bool true) ∧ Below w.heap.size w w' := by
  have HFa := Mx.hid (fun wx (hs : St w wx [] []) => few_any dv iv pv o wx (OB.old hs h) hz.1)
  have HFb := Mx.hid (fun wx (hs : St w wx [] []) => few_any dv' iv' pv' o' wx (OB.old hs h') hz'.1)
  have HYa := Mx.hid (fun wx (hs : St w wx [] []) => enc_yes (OB.old hs h) hz.1)
  have HYb := Mx.hid (fun wx (hs : St w wx [] []) => enc_yes (OB.old hs h') hz'.1)
  have HNa := Mx.hid (fun wx (hs : St w wx [] []) => enc_no (OB.old hs h) hz.1)
  have HNb := Mx.hid (fun wx (hs : St w wx [] []) => enc_no (OB.old hs h') hz'.1)
  have HSab := Mx.hid (fun wx (hs : St w wx [] []) => same_any dv iv pv dv' iv' pv' o o' wx (OB.old hs h) (OB.old hs h'))
  have HSba := Mx.hid (fun wx (hs : St w wx [] []) => same_any dv' iv' pv' dv iv pv o' o wx (OB.old hs h') (OB.old hs h))
  have HSaa := Mx.hid (fun wx (hs : St w wx [] []) => same_any dv iv pv dv iv pv o o wx (OB.old hs h) (OB.old hs h))
  rw [same_sym] at HSba
  rw [(sameB_iff o o).2 rfl] at HSaa
  have HB := Mx.hid (fun (ma : mayB o = true) (mb : mayB o' = true) v v' wx (hv : Sl wx 1 v (encL o).length (bs (encL o))) (hv' : Sl wx 1 v' (encL o').length (bs (encL o'))) => (bytes_any v v' (encL o) (encL o') wx hv hv').mono fun e w' h => (show e = .returned (.bool (sameB o o')) ∧ wx = w' by rw [← same_enc ma mb]; exact h))
  generalize sameB o o' = s at *
  generalize hma : mayB o = mA at *
  generalize hmb : mayB o' = mB at *
  generalize encL o = ea at *
  generalize encL o' = eb at *
  obtain ⟨d1, d2, rfl, g1, g2, _⟩ := h.d
  obtain ⟨i1, i2, rfl, g3, g4, _⟩ := h.i
  obtain ⟨p1, p2, rfl, g5, g6, _⟩ := h.p
  obtain ⟨e1, e2, rfl, g1', g2', _⟩ := h'.d
  obtain ⟨j1, j2, rfl, g3', g4', _⟩ := h'.i
  obtain ⟨q1, q2, rfl, g5', g6', _⟩ := h'.p
  clear h h' hz hz' hma hmb
  obtain ⟨ka, da, ia, ta, pa, sa, aa, ma⟩ := o
  obtain ⟨kb, db, ib, tb, pb, sb, ab, mb⟩ := o'
  simp only [OV] at *
  go_enter Try.func4, Try.ntmps4
  go_wp2_with (first | ((with_reducible show wpList _ _ _ _ _ _); refine wpl_box rfl 26 _ rfl hsx ([.int .i64 kb, .slice e1 db.length e2, .slice j1 ib.length j2, .string tb, .slice q1 pb.length q2, .int .i64 sb, .int .i64 ab, .string mb]) (by rfl) ?_; intro gy wy hsy) | ((with_reducible show wpList _ _ _ _ _ _); refine wpl_box rfl 26 _ rfl (St.refl w) ([.int .i64 ka, .slice d1 da.length d2, .slice i1 ia.length i2, .string ta, .slice p1 pa.length p2, .int .i64 sa, .int .i64 aa, .string ma]) (by rfl) ?_; intro gx wx hsx) | (go_at_call 8; refine (first_any _).mono ?_; rintro e w9 ⟨rfl, hk9⟩; replace hsy := hsy.call0 hk9) | ((with_reducible show wpList _ _ _ _ _ _); refine wpl_loadA rfl 26 _ rfl Try.aObj (gx) (0) rfl ([.int .i64 ka, .slice d1 da.length d2, .slice i1 ia.length i2, .string ta, .slice p1 pa.length p2, .int .i64 sa, .int .i64 aa, .string ma]) rfl (fun i u h => by rw [Nat.zero_add]; exact hsy.rcell (List.mem_cons_of_mem _ (List.mem_cons_self ..)) h) ?_) | ((with_reducible show wpList _ _ _ _ _ _); refine wpl_loadA rfl 26 _ rfl Try.aObj (gy) (0) rfl ([.int .i64 kb, .slice e1 db.length e2, .slice j1 ib.length j2, .string tb, .slice q1 pb.length q2, .int .i64 sb, .int .i64 ab, .string mb]) rfl (fun i u h => by rw [Nat.zero_add]; exact hsy.rcell (List.mem_cons_self ..) h) ?_))
  refine (HFa.out _ hsy.bare).mono ?_
  rintro e w3 ⟨b, rfl, hk, -⟩
  replace hsy := hsy.call0 hk
  cases b with
  | false =>
    go_wp2_with (first | ((with_reducible show wpList _ _ _ _ _ _); refine wpl_want rfl ?_) | (go_at_call 8; refine (first_any _).mono ?_; rintro e w9 ⟨rfl, hk9⟩; replace hsy := hsy.call0 hk9))
    go_ret
    exact ⟨rfl, hsy.below⟩
  | true =>
  go_wp2_with (first | ((with_reducible show wpList _ _ _ _ _ _); refine wpl_want rfl ?_) | ((with_reducible show wpList _ _ _ _ _ _); refine wpl_loadA rfl 26 _ rfl Try.aObj (gx) (0) rfl ([.int .i64 ka, .slice d1 da.length d2, .slice i1 ia.length i2, .string ta, .slice p1 pa.length p2, .int .i64 sa, .int .i64 aa, .string ma]) rfl (fun i u h => by rw [Nat.zero_add]; exact hsy.rcell (List.mem_cons_of_mem _ (List.mem_cons_self ..)) h) ?_) | ((with_reducible show wpList _ _ _ _ _ _); refine wpl_loadA rfl 26 _ rfl Try.aObj (gy) (0) rfl ([.int .i64 kb, .slice e1 db.length e2, .slice j1 ib.length j2, .string tb, .slice q1 pb.length q2, .int .i64 sb, .int .i64 ab, .string mb]) rfl (fun i u h => by rw [Nat.zero_add]; exact hsy.rcell (List.mem_cons_self ..) h) ?_))
  refine (HFb.out _ hsy.bare).mono ?_
  rintro e w4 ⟨b, rfl, hk, -⟩
  replace hsy := hsy.call0 hk
  cases b with
  | false =>
    go_wp2_with (first | ((with_reducible show wpList _ _ _ _ _ _); refine wpl_want rfl ?_) | (go_at_call 8; refine (first_any _).mono ?_; rintro e w9 ⟨rfl, hk9⟩; replace hsy := hsy.call0 hk9))
    go_ret
    exact ⟨rfl, hsy.below⟩
  | true =>
  go_wp2_with (first | ((with_reducible show wpList _ _ _ _ _ _); refine wpl_want rfl ?_) | ((with_reducible show wpList _ _ _ _ _ _); refine wpl_loadA rfl 26 _ rfl Try.aObj (gx) (0) rfl ([.int .i64 ka, .slice d1 da.length d2, .slice i1 ia.length i2, .string ta, .slice p1 pa.length p2, .int .i64 sa, .int .i64 aa, .string ma]) rfl (fun i u h => by rw [Nat.zero_add]; exact hsy.rcell (List.mem_cons_of_mem _ (List.mem_cons_self ..)) h) ?_) | ((with_reducible show wpList _ _ _ _ _ _); refine wpl_loadA rfl 26 _ rfl Try.aObj (gy) (0) rfl ([.int .i64 kb, .slice e1 db.length e2, .slice j1 ib.length j2, .string tb, .slice q1 pb.length q2, .int .i64 sb, .int .i64 ab, .string mb]) rfl (fun i u h => by rw [Nat.zero_add]; exact hsy.rcell (List.mem_cons_self ..) h) ?_))
  cases mA with
  | false =>
    refine (HNa.out _ hsy.bare rfl).mono ?_
    rintro e w5 ⟨rfl, hk⟩
    replace hsy := hsy.call0 hk
    go_wp2_with (first | ((with_reducible show wpList _ _ _ _ _ _); refine wpl_want rfl ?_) | ((with_reducible show wpList _ _ _ _ _ _); refine wpl_loadA rfl 26 _ rfl Try.aObj (gx) (0) rfl ([.int .i64 ka, .slice d1 da.length d2, .slice i1 ia.length i2, .string ta, .slice p1 pa.length p2, .int .i64 sa, .int .i64 aa, .string ma]) rfl (fun i u h => by rw [Nat.zero_add]; exact hsy.rcell (List.mem_cons_of_mem _ (List.mem_cons_self ..)) h) ?_) | ((with_reducible show wpList _ _ _ _ _ _); refine wpl_loadA rfl 26 _ rfl Try.aObj (gy) (0) rfl ([.int .i64 kb, .slice e1 db.length e2, .slice j1 ib.length j2, .string tb, .slice q1 pb.length q2, .int .i64 sb, .int .i64 ab, .string mb]) rfl (fun i u h => by rw [Nat.zero_add]; exact hsy.rcell (List.mem_cons_self ..) h) ?_))
    cases mB with
    | false =>
      refine (HNb.out _ hsy.bare rfl).mono ?_
      rintro e w6 ⟨rfl, hk⟩
      replace hsy := hsy.call0 hk
      go_wp2_with (first | ((with_reducible show wpList _ _ _ _ _ _); refine wpl_want rfl ?_))
      have hs8 : St w _ [(⟨.slice (some ⟨gy, 0, none⟩) 1 1, 26, 8, 1, [.int .i64 kb, .slice e1 db.length e2, .slice j1 ib.length j2, .string tb, .slice q1 pb.length q2, .int .i64 sb, .int .i64 ab, .string mb]⟩ : Row), (⟨.slice (some ⟨gx, 0, none⟩) 1 1, 26, 8, 1, [.int .i64 ka, .slice d1 da.length d2, .slice i1 ia.length i2, .string ta, .slice p1 pa.length p2, .int .i64 sa, .int .i64 aa, .string ma]⟩ : Row)] [] := hsy.noQ
      refine wp_region_C (fun W' => St w W' [(⟨.slice (some ⟨gy, 0, none⟩) 1 1, 26, 8, 1, [.int .i64 kb, .slice e1 db.length e2, .slice j1 ib.length j2, .string tb, .slice q1 pb.length q2, .int .i64 sb, .int .i64 ab, .string mb]⟩ : Row), (⟨.slice (some ⟨gx, 0, none⟩) 1 1, 26, 8, 1, [.int .i64 ka, .slice d1 da.length d2, .slice i1 ia.length i2, .string ta, .slice p1 pa.length p2, .int .i64 sa, .int .i64 aa, .string ma]⟩ : Row)] []) (by kernel_rfl) (by kernel_rfl) (by exact hs8.drew) ?_
      repeat ((first | (refine cq_y0 (v := ?_) (by with_reducible rfl) ?_ ?_; rotate_left 1; (focus (intro wq hq; (try dsimp only at hq); (have x0 := hq.rcell (j := 0) (List.mem_cons_of_mem _ (List.mem_cons_self ..)) rfl; have x1 := hq.rcell (j := 1) (List.mem_cons_of_mem _ (List.mem_cons_self ..)) rfl; have x2 := hq.rcell (j := 2) (List.mem_cons_of_mem _ (List.mem_cons_self ..)) rfl; have x3 := hq.rcell (j := 3) (List.mem_cons_of_mem _ (List.mem_cons_self ..)) rfl; have x4 := hq.rcell (j := 4) (List.mem_cons_of_mem _ (List.mem_cons_self ..)) rfl; have x5 := hq.rcell (j := 5) (List.mem_cons_of_mem _ (List.mem_cons_self ..)) rfl; have x6 := hq.rcell (j := 6) (List.mem_cons_of_mem _ (List.mem_cons_self ..)) rfl; have x7 := hq.rcell (j := 7) (List.mem_cons_of_mem _ (List.mem_cons_self ..)) rfl; have y0 := hq.cell (j := 0) rfl; have y1 := hq.cell (j := 1) rfl; have y2 := hq.cell (j := 2) rfl; have y3 := hq.cell (j := 3) rfl; have y4 := hq.cell (j := 4) rfl; have y5 := hq.cell (j := 5) rfl; have y6 := hq.cell (j := 6) rfl; have y7 := hq.cell (j := 7) rfl); go_simp; (first | done | with_reducible rfl | (go_at_call 8; refine (first_any _).mono ?_; rintro e w9 ⟨rfl, hk9⟩; refine ⟨?_, hq.call0 hk9⟩; with_reducible rfl) | (go_at_call 14; (with_reducible show Calls _ _ #[Value.agg #[Value.int _ ka, _, _, _, _, _, _, _], Value.agg #[Value.int _ kb, _, _, _, _, _, _, _]] _ _); refine (HSab.out _ hq.bare).mono ?_; rintro e w9 ⟨rfl, hk9⟩; refine ⟨?_, hq.call0 hk9⟩; with_reducible rfl) | (go_at_call 14; (with_reducible show Calls _ _ #[Value.agg #[Value.int _ kb, _, _, _, _, _, _, _], Value.agg #[Value.int _ ka, _, _, _, _, _, _, _]] _ _); refine (HSba.out _ hq.bare).mono ?_; rintro e w9 ⟨rfl, hk9⟩; refine ⟨?_, hq.call0 hk9⟩; with_reducible rfl))))) | (refine cq_no (by go_simp; first | done | (intro h9; cases h9)) ?_) | (refine cq_yes (v := ?_) (by go_simp) ?_ ?_; rotate_left 1; (focus (intro wq hq; (try dsimp only at hq); (have x0 := hq.rcell (j := 0) (List.mem_cons_of_mem _ (List.mem_cons_self ..)) rfl; have x1 := hq.rcell (j := 1) (List.mem_cons_of_mem _ (List.mem_cons_self ..)) rfl; have x2 := hq.rcell (j := 2) (List.mem_cons_of_mem _ (List.mem_cons_self ..)) rfl; have x3 := hq.rcell (j := 3) (List.mem_cons_of_mem _ (List.mem_cons_self ..)) rfl; have x4 := hq.rcell (j := 4) (List.mem_cons_of_mem _ (List.mem_cons_self ..)) rfl; have x5 := hq.rcell (j := 5) (List.mem_cons_of_mem _ (List.mem_cons_self ..)) rfl; have x6 := hq.rcell (j := 6) (List.mem_cons_of_mem _ (List.mem_cons_self ..)) rfl; have x7 := hq.rcell (j := 7) (List.mem_cons_of_mem _ (List.mem_cons_self ..)) rfl; have y0 := hq.cell (j := 0) rfl; have y1 := hq.cell (j := 1) rfl; have y2 := hq.cell (j := 2) rfl; have y3 := hq.cell (j := 3) rfl; have y4 := hq.cell (j := 4) rfl; have y5 := hq.cell (j := 5) rfl; have y6 := hq.cell (j := 6) rfl; have y7 := hq.cell (j := 7) rfl); go_simp; (first | done | with_reducible rfl | (go_at_call 8; refine (first_any _).mono ?_; rintro e w9 ⟨rfl, hk9⟩; refine ⟨?_, hq.call0 hk9⟩; with_reducible rfl) | (go_at_call 14; (with_reducible show Calls _ _ #[Value.agg #[Value.int _ ka, _, _, _, _, _, _, _], Value.agg #[Value.int _ kb, _, _, _, _, _, _, _]] _ _); refine (HSab.out _ hq.bare).mono ?_; rintro e w9 ⟨rfl, hk9⟩; refine ⟨?_, hq.call0 hk9⟩; with_reducible rfl) | (go_at_call 14; (with_reducible show Calls _ _ #[Value.agg #[Value.int _ kb, _, _, _, _, _, _, _], Value.agg #[Value.int _ ka, _, _, _, _, _, _, _]] _ _); refine (HSba.out _ hq.bare).mono ?_; rintro e w9 ⟨rfl, hk9⟩; refine ⟨?_, hq.call0 hk9⟩; with_reducible rfl)))))); (try simp only [Act.put, List.setIfInBounds_toArray, List.set_cons_zero, List.set_cons_succ]))
      refine cq_nil ?_
      intro wq hq
      (try dsimp only at hq)
      go_wp2_with fail
      go_ret
      exact ⟨by simp, hq.below⟩
    | true =>
      refine (HYb.out _ hsy.bare rfl).mono ?_
      rintro e w6 ⟨vb, rfl, hk⟩
      replace hsy := (hsy.call1 hk).freeze
      go_wp2_with (first | ((with_reducible show wpList _ _ _ _ _ _); refine wpl_want rfl ?_))
      have hs8 : St w _ [(⟨.slice (some ⟨gy, 0, none⟩) 1 1, 26, 8, 1, [.int .i64 kb, .slice e1 db.length e2, .slice j1 ib.length j2, .string tb, .slice q1 pb.length q2, .int .i64 sb, .int .i64 ab, .string mb]⟩ : Row), (⟨.slice (some ⟨gx, 0, none⟩) 1 1, 26, 8, 1, [.int .i64 ka, .slice d1 da.length d2, .slice i1 ia.length i2, .string ta, .slice p1 pa.length p2, .int .i64 sa, .int .i64 aa, .string ma]⟩ : Row)] [] := hsy.noQ
      refine wp_region_C (fun W' => St w W' [(⟨.slice (some ⟨gy, 0, none⟩) 1 1, 26, 8, 1, [.int .i64 kb, .slice e1 db.length e2, .slice j1 ib.length j2, .string tb, .slice q1 pb.length q2, .int .i64 sb, .int .i64 ab, .string mb]⟩ : Row), (⟨.slice (some ⟨gx, 0, none⟩) 1 1, 26, 8, 1, [.int .i64 ka, .slice d1 da.length d2, .slice i1 ia.length i2, .string ta, .slice p1 pa.length p2, .int .i64 sa, .int .i64 aa, .string ma]⟩ : Row)] []) (by kernel_rfl) (by kernel_rfl) (by exact hs8.drew) ?_
      repeat ((first | (refine cq_y0 (v := ?_) (by with_reducible rfl) ?_ ?_; rotate_left 1; (focus (intro wq hq; (try dsimp only at hq); (have x0 := hq.rcell (j := 0) (List.mem_cons_of_mem _ (List.mem_cons_self ..)) rfl; have x1 := hq.rcell (j := 1) (List.mem_cons_of_mem _ (List.mem_cons_self ..)) rfl; have x2 := hq.rcell (j := 2) (List.mem_cons_of_mem _ (List.mem_cons_self ..)) rfl; have x3 := hq.rcell (j := 3) (List.mem_cons_of_mem _ (List.mem_cons_self ..)) rfl; have x4 := hq.rcell (j := 4) (List.mem_cons_of_mem _ (List.mem_cons_self ..)) rfl; have x5 := hq.rcell (j := 5) (List.mem_cons_of_mem _ (List.mem_cons_self ..)) rfl; have x6 := hq.rcell (j := 6) (List.mem_cons_of_mem _ (List.mem_cons_self ..)) rfl; have x7 := hq.rcell (j := 7) (List.mem_cons_of_mem _ (List.mem_cons_self ..)) rfl; have y0 := hq.cell (j := 0) rfl; have y1 := hq.cell (j := 1) rfl; have y2 := hq.cell (j := 2) rfl; have y3 := hq.cell (j := 3) rfl; have y4 := hq.cell (j := 4) rfl; have y5 := hq.cell (j := 5) rfl; have y6 := hq.cell (j := 6) rfl; have y7 := hq.cell (j := 7) rfl); go_simp; (first | done | with_reducible rfl | (go_at_call 8; refine (first_any _).mono ?_; rintro e w9 ⟨rfl, hk9⟩; refine ⟨?_, hq.call0 hk9⟩; with_reducible rfl) | (go_at_call 14; (with_reducible show Calls _ _ #[Value.agg #[Value.int _ ka, _, _, _, _, _, _, _], Value.agg #[Value.int _ kb, _, _, _, _, _, _, _]] _ _); refine (HSab.out _ hq.bare).mono ?_; rintro e w9 ⟨rfl, hk9⟩; refine ⟨?_, hq.call0 hk9⟩; with_reducible rfl) | (go_at_call 14; (with_reducible show Calls _ _ #[Value.agg #[Value.int _ kb, _, _, _, _, _, _, _], Value.agg #[Value.int _ ka, _, _, _, _, _, _, _]] _ _); refine (HSba.out _ hq.bare).mono ?_; rintro e w9 ⟨rfl, hk9⟩; refine ⟨?_, hq.call0 hk9⟩; with_reducible rfl))))) | (refine cq_no (by go_simp; first | done | (intro h9; cases h9)) ?_) | (refine cq_yes (v := ?_) (by go_simp) ?_ ?_; rotate_left 1; (focus (intro wq hq; (try dsimp only at hq); (have x0 := hq.rcell (j := 0) (List.mem_cons_of_mem _ (List.mem_cons_self ..)) rfl; have x1 := hq.rcell (j := 1) (List.mem_cons_of_mem _ (List.mem_cons_self ..)) rfl; have x2 := hq.rcell (j := 2) (List.mem_cons_of_mem _ (List.mem_cons_self ..)) rfl; have x3 := hq.rcell (j := 3) (List.mem_cons_of_mem _ (List.mem_cons_self ..)) rfl; have x4 := hq.rcell (j := 4) (List.mem_cons_of_mem _ (List.mem_cons_self ..)) rfl; have x5 := hq.rcell (j := 5) (List.mem_cons_of_mem _ (List.mem_cons_self ..)) rfl; have x6 := hq.rcell (j := 6) (List.mem_cons_of_mem _ (List.mem_cons_self ..)) rfl; have x7 := hq.rcell (j := 7) (List.mem_cons_of_mem _ (List.mem_cons_self ..)) rfl; have y0 := hq.cell (j := 0) rfl; have y1 := hq.cell (j := 1) rfl; have y2 := hq.cell (j := 2) rfl; have y3 := hq.cell (j := 3) rfl; have y4 := hq.cell (j := 4) rfl; have y5 := hq.cell (j := 5) rfl; have y6 := hq.cell (j := 6) rfl; have y7 := hq.cell (j := 7) rfl); go_simp; (first | done | with_reducible rfl | (go_at_call 8; refine (first_any _).mono ?_; rintro e w9 ⟨rfl, hk9⟩; refine ⟨?_, hq.call0 hk9⟩; with_reducible rfl) | (go_at_call 14; (with_reducible show Calls _ _ #[Value.agg #[Value.int _ ka, _, _, _, _, _, _, _], Value.agg #[Value.int _ kb, _, _, _, _, _, _, _]] _ _); refine (HSab.out _ hq.bare).mono ?_; rintro e w9 ⟨rfl, hk9⟩; refine ⟨?_, hq.call0 hk9⟩; with_reducible rfl) | (go_at_call 14; (with_reducible show Calls _ _ #[Value.agg #[Value.int _ kb, _, _, _, _, _, _, _], Value.agg #[Value.int _ ka, _, _, _, _, _, _, _]] _ _); refine (HSba.out _ hq.bare).mono ?_; rintro e w9 ⟨rfl, hk9⟩; refine ⟨?_, hq.call0 hk9⟩; with_reducible rfl)))))); (try simp only [Act.put, List.setIfInBounds_toArray, List.set_cons_zero, List.set_cons_succ]))
      refine cq_nil ?_
      intro wq hq
      (try dsimp only at hq)
      go_wp2_with fail
      go_ret
      exact ⟨by simp, hq.below⟩
  | true =>
    refine (HYa.out _ hsy.bare rfl).mono ?_
    rintro e w5 ⟨va, rfl, hk⟩
    replace hsy := (hsy.call1 hk).freeze
    go_wp2_with (first | ((with_reducible show wpList _ _ _ _ _ _); refine wpl_want rfl ?_) | ((with_reducible show wpList _ _ _ _ _ _); refine wpl_loadA rfl 26 _ rfl Try.aObj (gx) (0) rfl ([.int .i64 ka, .slice d1 da.length d2, .slice i1 ia.length i2, .string ta, .slice p1 pa.length p2, .int .i64 sa, .int .i64 aa, .string ma]) rfl (fun i u h => by rw [Nat.zero_add]; exact hsy.rcell (List.mem_cons_of_mem _ (List.mem_cons_self ..)) h) ?_) | ((with_reducible show wpList _ _ _ _ _ _); refine wpl_loadA rfl 26 _ rfl Try.aObj (gy) (0) rfl ([.int .i64 kb, .slice e1 db.length e2, .slice j1 ib.length j2, .string tb, .slice q1 pb.length q2, .int .i64 sb, .int .i64 ab, .string mb]) rfl (fun i u h => by rw [Nat.zero_add]; exact hsy.rcell (List.mem_cons_self ..) h) ?_))
    cases mB with
    | false =>
      refine (HNb.out _ hsy.bare rfl).mono ?_
      rintro e w6 ⟨rfl, hk⟩
      replace hsy := hsy.call0 hk
      go_wp2_with (first | ((with_reducible show wpList _ _ _ _ _ _); refine wpl_want rfl ?_))
      have hs8 : St w _ [(⟨.slice (some ⟨gy, 0, none⟩) 1 1, 26, 8, 1, [.int .i64 kb, .slice e1 db.length e2, .slice j1 ib.length j2, .string tb, .slice q1 pb.length q2, .int .i64 sb, .int .i64 ab, .string mb]⟩ : Row), (⟨.slice (some ⟨gx, 0, none⟩) 1 1, 26, 8, 1, [.int .i64 ka, .slice d1 da.length d2, .slice i1 ia.length i2, .string ta, .slice p1 pa.length p2, .int .i64 sa, .int .i64 aa, .string ma]⟩ : Row)] [] := hsy.noQ
      refine wp_region_C (fun W' => St w W' [(⟨.slice (some ⟨gy, 0, none⟩) 1 1, 26, 8, 1, [.int .i64 kb, .slice e1 db.length e2, .slice j1 ib.length j2, .string tb, .slice q1 pb.length q2, .int .i64 sb, .int .i64 ab, .string mb]⟩ : Row), (⟨.slice (some ⟨gx, 0, none⟩) 1 1, 26, 8, 1, [.int .i64 ka, .slice d1 da.length d2, .slice i1 ia.length i2, .string ta, .slice p1 pa.length p2, .int .i64 sa, .int .i64 aa, .string ma]⟩ : Row)] []) (by kernel_rfl) (by kernel_rfl) (by exact hs8.drew) ?_
      repeat ((first | (refine cq_y0 (v := ?_) (by with_reducible rfl) ?_ ?_; rotate_left 1; (focus (intro wq hq; (try dsimp only at hq); (have x0 := hq.rcell (j := 0) (List.mem_cons_of_mem _ (List.mem_cons_self ..)) rfl; have x1 := hq.rcell (j := 1) (List.mem_cons_of_mem _ (List.mem_cons_self ..)) rfl; have x2 := hq.rcell (j := 2) (List.mem_cons_of_mem _ (List.mem_cons_self ..)) rfl; have x3 := hq.rcell (j := 3) (List.mem_cons_of_mem _ (List.mem_cons_self ..)) rfl; have x4 := hq.rcell (j := 4) (List.mem_cons_of_mem _ (List.mem_cons_self ..)) rfl; have x5 := hq.rcell (j := 5) (List.mem_cons_of_mem _ (List.mem_cons_self ..)) rfl; have x6 := hq.rcell (j := 6) (List.mem_cons_of_mem _ (List.mem_cons_self ..)) rfl; have x7 := hq.rcell (j := 7) (List.mem_cons_of_mem _ (List.mem_cons_self ..)) rfl; have y0 := hq.cell (j := 0) rfl; have y1 := hq.cell (j := 1) rfl; have y2 := hq.cell (j := 2) rfl; have y3 := hq.cell (j := 3) rfl; have y4 := hq.cell (j := 4) rfl; have y5 := hq.cell (j := 5) rfl; have y6 := hq.cell (j := 6) rfl; have y7 := hq.cell (j := 7) rfl); go_simp; (first | done | with_reducible rfl | (go_at_call 8; refine (first_any _).mono ?_; rintro e w9 ⟨rfl, hk9⟩; refine ⟨?_, hq.call0 hk9⟩; with_reducible rfl) | (go_at_call 14; (with_reducible show Calls _ _ #[Value.agg #[Value.int _ ka, _, _, _, _, _, _, _], Value.agg #[Value.int _ kb, _, _, _, _, _, _, _]] _ _); refine (HSab.out _ hq.bare).mono ?_; rintro e w9 ⟨rfl, hk9⟩; refine ⟨?_, hq.call0 hk9⟩; with_reducible rfl) | (go_at_call 14; (with_reducible show Calls _ _ #[Value.agg #[Value.int _ kb, _, _, _, _, _, _, _], Value.agg #[Value.int _ ka, _, _, _, _, _, _, _]] _ _); refine (HSba.out _ hq.bare).mono ?_; rintro e w9 ⟨rfl, hk9⟩; refine ⟨?_, hq.call0 hk9⟩; with_reducible rfl))))) | (refine cq_no (by go_simp; first | done | (intro h9; cases h9)) ?_) | (refine cq_yes (v := ?_) (by go_simp) ?_ ?_; rotate_left 1; (focus (intro wq hq; (try dsimp only at hq); (have x0 := hq.rcell (j := 0) (List.mem_cons_of_mem _ (List.mem_cons_self ..)) rfl; have x1 := hq.rcell (j := 1) (List.mem_cons_of_mem _ (List.mem_cons_self ..)) rfl; have x2 := hq.rcell (j := 2) (List.mem_cons_of_mem _ (List.mem_cons_self ..)) rfl; have x3 := hq.rcell (j := 3) (List.mem_cons_of_mem _ (List.mem_cons_self ..)) rfl; have x4 := hq.rcell (j := 4) (List.mem_cons_of_mem _ (List.mem_cons_self ..)) rfl; have x5 := hq.rcell (j := 5) (List.mem_cons_of_mem _ (List.mem_cons_self ..)) rfl; have x6 := hq.rcell (j := 6) (List.mem_cons_of_mem _ (List.mem_cons_self ..)) rfl; have x7 := hq.rcell (j := 7) (List.mem_cons_of_mem _ (List.mem_cons_self ..)) rfl; have y0 := hq.cell (j := 0) rfl; have y1 := hq.cell (j := 1) rfl; have y2 := hq.cell (j := 2) rfl; have y3 := hq.cell (j := 3) rfl; have y4 := hq.cell (j := 4) rfl; have y5 := hq.cell (j := 5) rfl; have y6 := hq.cell (j := 6) rfl; have y7 := hq.cell (j := 7) rfl); go_simp; (first | done | with_reducible rfl | (go_at_call 8; refine (first_any _).mono ?_; rintro e w9 ⟨rfl, hk9⟩; refine ⟨?_, hq.call0 hk9⟩; with_reducible rfl) | (go_at_call 14; (with_reducible show Calls _ _ #[Value.agg #[Value.int _ ka, _, _, _, _, _, _, _], Value.agg #[Value.int _ kb, _, _, _, _, _, _, _]] _ _); refine (HSab.out _ hq.bare).mono ?_; rintro e w9 ⟨rfl, hk9⟩; refine ⟨?_, hq.call0 hk9⟩; with_reducible rfl) | (go_at_call 14; (with_reducible show Calls _ _ #[Value.agg #[Value.int _ kb, _, _, _, _, _, _, _], Value.agg #[Value.int _ ka, _, _, _, _, _, _, _]] _ _); refine (HSba.out _ hq.bare).mono ?_; rintro e w9 ⟨rfl, hk9⟩; refine ⟨?_, hq.call0 hk9⟩; with_reducible rfl)))))); (try simp only [Act.put, List.setIfInBounds_toArray, List.set_cons_zero, List.set_cons_succ]))
      refine cq_nil ?_
      intro wq hq
      (try dsimp only at hq)
      go_wp2_with fail
      go_ret
      exact ⟨by simp, hq.below⟩
    | true =>
      refine (HYb.out _ hsy.bare rfl).mono ?_
      rintro e w6 ⟨vb, rfl, hk⟩
      replace hsy := (hsy.call1 hk).freeze
      simp only [] at hsy
      have HB2 := Mx.hid (HB.out (by trivial) (by trivial))
      go_wp2_with (first | ((with_reducible show wpList _ _ _ _ _ _); refine wpl_want rfl ?_) | (go_at_call 8; refine (first_any _).mono ?_; rintro e w9 ⟨rfl, hk9⟩; replace hsy := hsy.call0 hk9) | ((with_reducible show wpList _ _ _ _ _ _); refine wpl_loadA rfl 26 _ rfl Try.aObj (gx) (0) rfl ([.int .i64 ka, .slice d1 da.length d2, .slice i1 ia.length i2, .string ta, .slice p1 pa.length p2, .int .i64 sa, .int .i64 aa, .string ma]) rfl (fun i u h => by rw [Nat.zero_add]; exact hsy.rcell (List.mem_cons_of_mem _ (List.mem_cons_self ..)) h) ?_) | ((with_reducible show wpList _ _ _ _ _ _); refine wpl_loadA rfl 26 _ rfl Try.aObj (gy) (0) rfl ([.int .i64 kb, .slice e1 db.length e2, .slice j1 ib.length j2, .string tb, .slice q1 pb.length q2, .int .i64 sb, .int .i64 ab, .string mb]) rfl (fun i u h => by rw [Nat.zero_add]; exact hsy.rcell (List.mem_cons_self ..) h) ?_) | (go_at_call 14; (with_reducible show Calls _ _ #[Value.agg #[Value.int _ ka, _, _, _, _, _, _, _], Value.agg #[Value.int _ kb, _, _, _, _, _, _, _]] _ _); refine (HSab.out _ hsy.bare).mono ?_; rintro e w9 ⟨rfl, hk9⟩; replace hsy := hsy.call0 hk9) | (go_at_call 14; (with_reducible show Calls _ _ #[Value.agg #[Value.int _ ka, _, _, _, _, _, _, _], Value.agg #[Value.int _ ka, _, _, _, _, _, _, _]] _ _); refine (HSaa.out _ hsy.bare).mono ?_; rintro e w9 ⟨rfl, hk9⟩; replace hsy := hsy.call0 hk9) | (go_at_call 15; refine (HB2.out _ _ _ hsy.q1 hsy.q0).mono ?_; rintro e w9 ⟨rfl, rfl⟩))
      go_ret
      exact ⟨by simp, hsy.below⟩
end Go.Proofs.Ytobpojlophhfaaa
