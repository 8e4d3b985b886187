/- marlaw6.ObjOwn. -/
import Derived.Test.YtobpojlophhfaaaO6C
namespace Go.Mx
open Go Go.RowKit
/-- A row of one element or more lies at the head of its block. -/
theorem St.headAt {w0 w : World} {R : List Row} {Q : List Rd} {ao : Option Addr} {n cap : Nat} {e : TypeId} {size : Nat} {xs : List Value} (h : St w0 w (⟨.slice ao n cap, e, size, n, xs⟩ :: R) Q) (hn : 0 < n) : ∃ g, ao = some ⟨g, 0, none⟩ ∧ n ≤ cap ∧ cap ≤ maxLen ∧ xs.length = n * size := by
  have ho := h.own _ (List.mem_cons_self ..)
  rcases ho.2 with ⟨_, h0⟩ | ⟨g, c, _, _, hv, _, _, _, hn, hm, _⟩
  · exact absurd h0 (by simp only []; omega)
  · cases hv
    exact ⟨g, rfl, hn, hm, ho.1⟩
/-- Cells that are read alone. -/
theorem sl_cells {w : World} {g n cap size : Nat} {xs : List Value} (h : Sl w size (.slice (some ⟨g, 0, none⟩) n cap) n xs) : ∀ i u, xs[i]? = some u → w.cell? ⟨g, 0 + i, none⟩ = some u := by
  obtain ⟨ao, c, hv, _, _, _, _, hc⟩ := h
  cases hv
  intro i u hu
  obtain ⟨a, ha, hh⟩ := hc i u hu
  cases ha
  rwa [Addr.add_lit] at hh
theorem int_set {xs : List Value} (h : ∀ u ∈ xs, ∃ z : Int, u = .int .u8 z) (i : Nat) (z : Int) : ∀ u ∈ xs.take i ++ [Value.int .u8 z] ++ xs.drop (i + 1), ∃ z : Int, u = .int .u8 z := by
  intro u hu
  simp only [List.mem_append, List.mem_singleton] at hu
  rcases hu with (hu | rfl) | hu
  · exact h u (List.mem_of_mem_take hu)
  · exact ⟨z, rfl⟩
  · exact h u (List.mem_of_mem_drop hu)
theorem bs_int (l : List UInt8) : ∀ u ∈ bs l, ∃ z : Int, u = .int .u8 z := by
  intro u hu
  obtain ⟨x, _, rfl⟩ := List.mem_map.1 hu
  exact ⟨_, rfl⟩
end Go.Mx
namespace Go.Proofs.Ytobpojlophhfaaa
open Go.RowKit Go.Mx

theorem dec_good {w0 w : World} {R : List Row} {Q : List Rd} (v : Value) (o : Ob) (hs : St w0 w R Q) (hv : Sl w 1 v (encL o).length (bs (encL o))) (hm : mayB o = true) :
    Calls Try.prog 16 #[v] w fun e w' => ∃ da dc ia ic pa pc, e = .returned (.tuple #[OV (.slice da o.data.length dc) (.slice ia o.items.length ic) (.slice pa o.parents.length pc) o, .int .i64 0]) ∧ St w0 w' (obR (.slice da o.data.length dc) (.slice ia o.items.length ic) (.slice pa o.parents.length pc) o ++ R) Q :=
  (decode_any v (encL o) w hv (by have := enc_len hm; omega)).mono fun e w' ⟨dv, iv, pv, he, h⟩ => by
    rw [dec_enc hm] at he h
    obtain ⟨da, dc, rfl, _⟩ := h.sl0
    obtain ⟨ia, ic, rfl, _⟩ := h.sl1
    obtain ⟨pa, pc, rfl, _⟩ := h.sl2
    exact ⟨da, dc, ia, ic, pa, pc, he, hs.call h⟩

set_option maxRecDepth 100000 in
set_option maxHeartbeats 4000000 in
theorem objOwnRow (dv iv pv : Value) (o : Ob) {w : World} (h : OB w dv iv pv o) (_hi : OI o) (hz : OZ o ∧ o.data.length ≤ reachBytes) (_w : World) :
    Calls Try.prog 6 #[OV dv iv pv o] w fun e w' => e = .returned (.bool true) ∧ Below w.heap.size w w' := by
  have HF := Mx.hid (fun wx (hs : St w wx [] []) => few_any dv iv pv o wx (OB.old hs h) hz.1)
  have HY := Mx.hid (fun wx (hs : St w wx [] []) => enc_yes (OB.old hs h) hz.1)
  have HN := Mx.hid (fun wx (hs : St w wx [] []) => enc_no (OB.old hs h) hz.1)
  have HD := Mx.hid (fun (hm : mayB o = true) wx R Q v (hs : St w wx R Q) (hv : Sl wx 1 v (encL o).length (bs (encL o))) => dec_good v o hs hv hm)
  have HS := Mx.hid (fun wx dv' iv' pv' (hs : St w wx [] []) (h' : OB wx dv' iv' pv' o) => (same_any dv' iv' pv' dv iv pv o o wx h' (OB.old hs h)).mono fun e w' hh => (show e = .returned (.bool true) ∧ St wx w' [] [] by rw [(sameB_iff o o).2 rfl] at hh; exact hh))
  have HL := Mx.hid (fun (hm : mayB o = true) => enc_len hm)
  obtain ⟨d1, d2, rfl, g1, g2, _⟩ := h.d
  obtain ⟨i1, i2, rfl, g3, g4, _⟩ := h.i
  obtain ⟨p1, p2, rfl, g5, g6, _⟩ := h.p
  clear h hz
  generalize hma : mayB o = mA at *
  clear hma
  generalize encL o = b at *
  obtain ⟨kind, data, items, tree, parents, stamp, author, msg⟩ := o
  simp only [OV] at *
  go_enter Try.func6, Try.ntmps6
  go_wp2_with (first | (((with_reducible show wpList _ _ _ _ _ _); refine wpl_box rfl 26 _ rfl (St.refl w) ([.int .i64 kind, .slice d1 data.length d2, .slice i1 items.length i2, .string tree, .slice p1 parents.length p2, .int .i64 stamp, .int .i64 author, .string msg]) (by rfl) ?_; intro gx wx hsx); (have x0 := hsx.cell (j := 0) rfl; have x1 := hsx.cell (j := 1) rfl; have x2 := hsx.cell (j := 2) rfl; have x3 := hsx.cell (j := 3) rfl; have x4 := hsx.cell (j := 4) rfl; have x5 := hsx.cell (j := 5) rfl; have x6 := hsx.cell (j := 6) rfl; have x7 := hsx.cell (j := 7) rfl)) | (go_at_call 8; refine (first_any _).mono ?_; rintro e w9 ⟨rfl, hk9⟩; replace hsx := hsx.call0 hk9; (have x0 := hsx.cell (j := 0) rfl; have x1 := hsx.cell (j := 1) rfl; have x2 := hsx.cell (j := 2) rfl; have x3 := hsx.cell (j := 3) rfl; have x4 := hsx.cell (j := 4) rfl; have x5 := hsx.cell (j := 5) rfl; have x6 := hsx.cell (j := 6) rfl; have x7 := hsx.cell (j := 7) rfl)) | ((with_reducible show wpList _ _ _ _ _ _); refine wpl_loadA rfl 26 _ rfl Try.aObj (gx) (0) rfl ([.int .i64 kind, .slice d1 data.length d2, .slice i1 items.length i2, .string tree, .slice p1 parents.length p2, .int .i64 stamp, .int .i64 author, .string msg]) rfl (fun i u h => by rw [Nat.zero_add]; exact hsx.rcell (List.mem_cons_self ..) h) ?_))
  refine (HF.out _ hsx.bare).mono ?_
  rintro e w3 ⟨fb, rfl, hk, hfb⟩
  replace hsx := hsx.call0 hk
  (have x0 := hsx.cell (j := 0) rfl; have x1 := hsx.cell (j := 1) rfl; have x2 := hsx.cell (j := 2) rfl; have x3 := hsx.cell (j := 3) rfl; have x4 := hsx.cell (j := 4) rfl; have x5 := hsx.cell (j := 5) rfl; have x6 := hsx.cell (j := 6) rfl; have x7 := hsx.cell (j := 7) rfl)
  cases fb with
  | false =>
    clear hfb
    go_wp2_with (first | ((with_reducible show wpList _ _ _ _ _ _); refine wpl_want rfl ?_) | (go_at_call 8; refine (first_any _).mono ?_; rintro e w9 ⟨rfl, hk9⟩; replace hsx := hsx.call0 hk9; (have x0 := hsx.cell (j := 0) rfl; have x1 := hsx.cell (j := 1) rfl; have x2 := hsx.cell (j := 2) rfl; have x3 := hsx.cell (j := 3) rfl; have x4 := hsx.cell (j := 4) rfl; have x5 := hsx.cell (j := 5) rfl; have x6 := hsx.cell (j := 6) rfl; have x7 := hsx.cell (j := 7) rfl)))
    go_ret
    exact ⟨rfl, hsx.below⟩
  | true =>
  have HB := Mx.hid (hfb rfl)
  clear hfb
  go_wp2_with (first | ((with_reducible show wpList _ _ _ _ _ _); refine wpl_want rfl ?_) | ((with_reducible show wpList _ _ _ _ _ _); refine wpl_loadA rfl 26 _ rfl Try.aObj (gx) (0) rfl ([.int .i64 kind, .slice d1 data.length d2, .slice i1 items.length i2, .string tree, .slice p1 parents.length p2, .int .i64 stamp, .int .i64 author, .string msg]) rfl (fun i u h => by rw [Nat.zero_add]; exact hsx.rcell (List.mem_cons_self ..) h) ?_))
  cases mA with
  | false =>
    refine (HN.out _ hsx.bare rfl).mono ?_
    rintro e w4 ⟨rfl, hk⟩
    replace hsx := hsx.call0 hk
    (have x0 := hsx.cell (j := 0) rfl; have x1 := hsx.cell (j := 1) rfl; have x2 := hsx.cell (j := 2) rfl; have x3 := hsx.cell (j := 3) rfl; have x4 := hsx.cell (j := 4) rfl; have x5 := hsx.cell (j := 5) rfl; have x6 := hsx.cell (j := 6) rfl; have x7 := hsx.cell (j := 7) rfl)
    go_wp2_with (first | ((with_reducible show wpList _ _ _ _ _ _); refine wpl_want rfl ?_) | (go_at_call 8; refine (first_any _).mono ?_; rintro e w9 ⟨rfl, hk9⟩; replace hsx := hsx.call0 hk9; (have x0 := hsx.cell (j := 0) rfl; have x1 := hsx.cell (j := 1) rfl; have x2 := hsx.cell (j := 2) rfl; have x3 := hsx.cell (j := 3) rfl; have x4 := hsx.cell (j := 4) rfl; have x5 := hsx.cell (j := 5) rfl; have x6 := hsx.cell (j := 6) rfl; have x7 := hsx.cell (j := 7) rfl)))
    go_ret
    exact ⟨rfl, hsx.below⟩
  | true =>
  refine (HY.out _ hsx.bare rfl).mono ?_
  rintro e w4 ⟨vb, rfl, hk⟩
  obtain ⟨ba, bc, rfl, hbc, hbm, _⟩ := id hk.sl0
  unfold maxLen at hbm
  have hs1 : St w w4 [(⟨.slice ba b.length bc, 5, 1, (b).length, bs (b)⟩ : Row)] [⟨.slice (some ⟨gx, 0, none⟩) 1 1, 8, 1, [.int .i64 kind, .slice d1 data.length d2, .slice i1 items.length i2, .string tree, .slice p1 parents.length p2, .int .i64 stamp, .int .i64 author, .string msg]⟩] := (hsx.call1 hk).swap.freeze
  have hbl := HL.out (by trivial)
  have HD2 := Mx.hid (HD.out (by trivial))
  clear HD HL HY HN HF hsx x0 x1 x2 x3 x4 x5 x6 x7
  simp only [List.cons_append, List.nil_append] at HD2
  go_wp2_with (first | ((with_reducible show wpList _ _ _ _ _ _); refine wpl_want rfl ?_))
  refine (HD2.out _ _ _ _ hs1 hs1.sl0).mono ?_
  rintro e w5 ⟨pda, pdc, pia, pic, ppa, ppc, rfl, hs2⟩
  go_wp2_with (first | ((with_reducible show wpList _ _ _ _ _ _); refine wpl_want rfl ?_) | (((with_reducible show wpList _ _ _ _ _ _); refine wpl_storeA rfl 26 _ _ rfl Try.aObj (hs2.made ([.int .i64 (0), .slice none 0 0, .slice none 0 0, .string (str []), .slice none 0 0, .int .i64 (0), .int .i64 (0), .string (str [])]).toArray 26 8 1 rfl (by simp [maxLen])) (0) rfl ([.int .i64 kind, .slice pda data.length pdc, .slice pia items.length pic, .string tree, .slice ppa parents.length ppc, .int .i64 stamp, .int .i64 author, .string msg]) rfl (by rfl) (by simp) (by intro u hu; simp at hu; rcases hu with rfl | rfl | rfl | rfl | rfl | rfl | rfl | rfl <;> rfl) ?_; intro w6 hs3); replace hs3 := hs3.cast rfl (show _ = [.int .i64 kind, .slice pda data.length pdc, .slice pia items.length pic, .string tree, .slice ppa parents.length ppc, .int .i64 stamp, .int .i64 author, .string msg] by simp)))
  generalize w5.heap.size = gp at hs3 ⊢
  refine (HD2.out _ _ _ _ hs3 (hs3.sl (r := ⟨.slice ba b.length bc, 5, 1, b.length, bs b⟩) (by simp))).mono ?_
  rintro e w7 ⟨qda, qdc, qia, qic, qpa, qpc, rfl, hs4⟩
  go_wp2_with (first | ((with_reducible show wpList _ _ _ _ _ _); refine wpl_want rfl ?_) | (((with_reducible show wpList _ _ _ _ _ _); refine wpl_storeA rfl 26 _ _ rfl Try.aObj (hs4.made ([.int .i64 (0), .slice none 0 0, .slice none 0 0, .string (str []), .slice none 0 0, .int .i64 (0), .int .i64 (0), .string (str [])]).toArray 26 8 1 rfl (by simp [maxLen])) (0) rfl ([.int .i64 kind, .slice qda data.length qdc, .slice qia items.length qic, .string tree, .slice qpa parents.length qpc, .int .i64 stamp, .int .i64 author, .string msg]) rfl (by rfl) (by simp) (by intro u hu; simp at hu; rcases hu with rfl | rfl | rfl | rfl | rfl | rfl | rfl | rfl <;> rfl) ?_; intro w8 hs5); replace hs5 := hs5.cast rfl (show _ = [.int .i64 kind, .slice qda data.length qdc, .slice qia items.length qic, .string tree, .slice qpa parents.length qpc, .int .i64 stamp, .int .i64 author, .string msg] by simp)))
  generalize w7.heap.size = gq at hs5 ⊢
  have hs7 : St w w8 [(⟨.slice ba b.length bc, 5, 1, (b).length, bs (b)⟩ : Row), (⟨.slice (some ⟨gp, 0, none⟩) 1 1, 26, 8, 1, [.int .i64 kind, .slice pda data.length pdc, .slice pia items.length pic, .string tree, .slice ppa parents.length ppc, .int .i64 stamp, .int .i64 author, .string msg]⟩ : Row), (⟨.slice pda data.length pdc, 5, 1, data.length, bs data⟩ : Row), (⟨.slice pia items.length pic, 41, 3, items.length, itms items⟩ : Row), (⟨.slice ppa parents.length ppc, 9, 1, parents.length, ss parents⟩ : Row)] [⟨.slice qpa parents.length qpc, 1, parents.length, ss parents⟩, ⟨.slice qia items.length qic, 3, items.length, itms items⟩, ⟨.slice qda data.length qdc, 1, data.length, bs data⟩, ⟨.slice (some ⟨gq, 0, none⟩) 1 1, 8, 1, [.int .i64 kind, .slice qda data.length qdc, .slice qia items.length qic, .string tree, .slice qpa parents.length qpc, .int .i64 stamp, .int .i64 author, .string msg]⟩, ⟨.slice (some ⟨gx, 0, none⟩) 1 1, 8, 1, [.int .i64 kind, .slice d1 data.length d2, .slice i1 items.length i2, .string tree, .slice p1 parents.length p2, .int .i64 stamp, .int .i64 author, .string msg]⟩] := hs5.freeze.freeze.freeze.freeze.perm (R' := [_, _, _, _, _]) (List.perm_append_comm (l₁ := [_, _, _, _]) (l₂ := [_]))
  clear hs1 hs2 hs3 hs4 hs5 HD2
  go_loopw [9] (fun y wr => ∃ (i : Nat) (xs : List Value), i ≤ b.length ∧ y = .int .i64 i ∧ Hid (∀ u ∈ xs, ∃ z : Int, u = .int .u8 z) ∧ St w wr [⟨.slice ba b.length bc, 5, 1, b.length, xs⟩, (⟨.slice (some ⟨gp, 0, none⟩) 1 1, 26, 8, 1, [.int .i64 kind, .slice pda data.length pdc, .slice pia items.length pic, .string tree, .slice ppa parents.length ppc, .int .i64 stamp, .int .i64 author, .string msg]⟩ : Row), (⟨.slice pda data.length pdc, 5, 1, data.length, bs data⟩ : Row), (⟨.slice pia items.length pic, 41, 3, items.length, itms items⟩ : Row), (⟨.slice ppa parents.length ppc, 9, 1, parents.length, ss parents⟩ : Row)] [⟨.slice qpa parents.length qpc, 1, parents.length, ss parents⟩, ⟨.slice qia items.length qic, 3, items.length, itms items⟩, ⟨.slice qda data.length qdc, 1, data.length, bs data⟩, ⟨.slice (some ⟨gq, 0, none⟩) 1 1, 8, 1, [.int .i64 kind, .slice qda data.length qdc, .slice qia items.length qic, .string tree, .slice qpa parents.length qpc, .int .i64 stamp, .int .i64 author, .string msg]⟩, ⟨.slice (some ⟨gx, 0, none⟩) 1 1, 8, 1, [.int .i64 kind, .slice d1 data.length d2, .slice i1 items.length i2, .string tree, .slice p1 parents.length p2, .int .i64 stamp, .int .i64 author, .string msg]⟩]) (fun y _ => b.length - (intOf y).toNat)
  case atStart => exact ⟨0, bs b, by omega, rfl, bs_int b, hs7⟩
  case round =>
    clear hs7
    obtain ⟨i, xs, hi, rfl, HX, hs⟩ := hrel
    by_cases hlt : i < b.length
    · obtain ⟨g, rfl, hc1, hc2, hxl⟩ := hs.headAt (by omega)
      unfold maxLen at hc2
      have hxi : i < xs.length := by omega
      obtain ⟨z, hz⟩ := HX.out xs[i] (List.getElem_mem hxi)
      have c0 : wr.cell? ⟨g, i, none⟩ = some (.int .u8 z) := hs.cell (j := i) (by rw [List.getElem?_eq_getElem hxi, hz])
      have HXI := Mx.hid hxi
      clear hz hxl hxi
      go_wp2_with ((with_reducible show wpList _ _ _ _ _ _); refine wpl_store1 rfl 5 _ _ rfl hs (i) rfl _ rfl rfl (by kernel_rfl) HXI.out rfl ?_; intro w9 hs9)
      go_roundw
      case rel => exact ⟨i + 1, _, by omega, by go_num, int_set HX.out i _, hs9⟩
      case measure => simp [intOf]; omega
    · have x1 := hs.rcell (j := 1) (List.mem_cons_of_mem _ (List.mem_cons_self ..)) rfl
      have x2 := hs.rcell (j := 2) (List.mem_cons_of_mem _ (List.mem_cons_self ..)) rfl
      go_wp2_with fail
      have hd0 : St w wr [(⟨.slice pda data.length pdc, 5, 1, data.length, bs data⟩ : Row), (⟨.slice (some ⟨gp, 0, none⟩) 1 1, 26, 8, 1, [.int .i64 kind, .slice pda data.length pdc, .slice pia items.length pic, .string tree, .slice ppa parents.length ppc, .int .i64 stamp, .int .i64 author, .string msg]⟩ : Row), (⟨.slice pia items.length pic, 41, 3, items.length, itms items⟩ : Row), (⟨.slice ppa parents.length ppc, 9, 1, parents.length, ss parents⟩ : Row)] [⟨.slice qpa parents.length qpc, 1, parents.length, ss parents⟩, ⟨.slice qia items.length qic, 3, items.length, itms items⟩, ⟨.slice qda data.length qdc, 1, data.length, bs data⟩, ⟨.slice (some ⟨gq, 0, none⟩) 1 1, 8, 1, [.int .i64 kind, .slice qda data.length qdc, .slice qia items.length qic, .string tree, .slice qpa parents.length qpc, .int .i64 stamp, .int .i64 author, .string msg]⟩, ⟨.slice (some ⟨gx, 0, none⟩) 1 1, 8, 1, [.int .i64 kind, .slice d1 data.length d2, .slice i1 items.length i2, .string tree, .slice p1 parents.length p2, .int .i64 stamp, .int .i64 author, .string msg]⟩] := hs.tail.swap
      clear hs x1 x2 HX hlt hi
      go_loopw [10] (fun y wr => ∃ (i : Nat) (xs : List Value), i ≤ data.length ∧ y = .int .i64 i ∧ Hid (∀ u ∈ xs, ∃ z : Int, u = .int .u8 z) ∧ St w wr [(⟨.slice pda data.length pdc, 5, 1, data.length, xs⟩ : Row), (⟨.slice (some ⟨gp, 0, none⟩) 1 1, 26, 8, 1, [.int .i64 kind, .slice pda data.length pdc, .slice pia items.length pic, .string tree, .slice ppa parents.length ppc, .int .i64 stamp, .int .i64 author, .string msg]⟩ : Row), (⟨.slice pia items.length pic, 41, 3, items.length, itms items⟩ : Row), (⟨.slice ppa parents.length ppc, 9, 1, parents.length, ss parents⟩ : Row)] [⟨.slice qpa parents.length qpc, 1, parents.length, ss parents⟩, ⟨.slice qia items.length qic, 3, items.length, itms items⟩, ⟨.slice qda data.length qdc, 1, data.length, bs data⟩, ⟨.slice (some ⟨gq, 0, none⟩) 1 1, 8, 1, [.int .i64 kind, .slice qda data.length qdc, .slice qia items.length qic, .string tree, .slice qpa parents.length qpc, .int .i64 stamp, .int .i64 author, .string msg]⟩, ⟨.slice (some ⟨gx, 0, none⟩) 1 1, 8, 1, [.int .i64 kind, .slice d1 data.length d2, .slice i1 items.length i2, .string tree, .slice p1 parents.length p2, .int .i64 stamp, .int .i64 author, .string msg]⟩]) (fun y _ => data.length - (intOf y).toNat)
      case atStart => exact ⟨0, bs data, by omega, rfl, bs_int data, hd0⟩
      case round =>
        clear hd0
        obtain ⟨i, xs, hi, rfl, HX, hs⟩ := hrel
        have x1 := hs.rcell (j := 1) (List.mem_cons_of_mem _ (List.mem_cons_self ..)) rfl
        by_cases hlt : i < data.length
        · obtain ⟨g, rfl, hc1, hc2, hxl⟩ := hs.headAt (by omega)
          unfold maxLen at hc2
          have hxi : i < xs.length := by omega
          obtain ⟨z, hz⟩ := HX.out xs[i] (List.getElem_mem hxi)
          have c0 : wr.cell? ⟨g, i, none⟩ = some (.int .u8 z) := hs.cell (j := i) (by rw [List.getElem?_eq_getElem hxi, hz])
          have HXI := Mx.hid hxi
          clear hz hxl hxi
          go_wp2_with ((with_reducible show wpList _ _ _ _ _ _); refine wpl_store1 rfl 5 _ _ rfl hs (i) rfl _ rfl rfl (by kernel_rfl) HXI.out rfl ?_; intro w9 hs9)
          go_roundw
          case rel => exact ⟨i + 1, _, by omega, by go_num, int_set HX.out i _, hs9⟩
          case measure => simp [intOf]; omega
        · go_wp2_with fail
          have hi0 : St w wr [(⟨.slice pia items.length pic, 41, 3, items.length, itms items⟩ : Row), (⟨.slice (some ⟨gp, 0, none⟩) 1 1, 26, 8, 1, [.int .i64 kind, .slice pda data.length pdc, .slice pia items.length pic, .string tree, .slice ppa parents.length ppc, .int .i64 stamp, .int .i64 author, .string msg]⟩ : Row), (⟨.slice ppa parents.length ppc, 9, 1, parents.length, ss parents⟩ : Row)] [⟨.slice qpa parents.length qpc, 1, parents.length, ss parents⟩, ⟨.slice qia items.length qic, 3, items.length, itms items⟩, ⟨.slice qda data.length qdc, 1, data.length, bs data⟩, ⟨.slice (some ⟨gq, 0, none⟩) 1 1, 8, 1, [.int .i64 kind, .slice qda data.length qdc, .slice qia items.length qic, .string tree, .slice qpa parents.length qpc, .int .i64 stamp, .int .i64 author, .string msg]⟩, ⟨.slice (some ⟨gx, 0, none⟩) 1 1, 8, 1, [.int .i64 kind, .slice d1 data.length d2, .slice i1 items.length i2, .string tree, .slice p1 parents.length p2, .int .i64 stamp, .int .i64 author, .string msg]⟩] := hs.tail.swap
          clear hs x1 HX hlt hi
          go_loopw [11] (fun y wr => ∃ (i : Nat) (xs : List Value), i ≤ items.length ∧ y = .int .i64 i ∧ St w wr [(⟨.slice pia items.length pic, 41, 3, items.length, xs⟩ : Row), (⟨.slice (some ⟨gp, 0, none⟩) 1 1, 26, 8, 1, [.int .i64 kind, .slice pda data.length pdc, .slice pia items.length pic, .string tree, .slice ppa parents.length ppc, .int .i64 stamp, .int .i64 author, .string msg]⟩ : Row), (⟨.slice ppa parents.length ppc, 9, 1, parents.length, ss parents⟩ : Row)] [⟨.slice qpa parents.length qpc, 1, parents.length, ss parents⟩, ⟨.slice qia items.length qic, 3, items.length, itms items⟩, ⟨.slice qda data.length qdc, 1, data.length, bs data⟩, ⟨.slice (some ⟨gq, 0, none⟩) 1 1, 8, 1, [.int .i64 kind, .slice qda data.length qdc, .slice qia items.length qic, .string tree, .slice qpa parents.length qpc, .int .i64 stamp, .int .i64 author, .string msg]⟩, ⟨.slice (some ⟨gx, 0, none⟩) 1 1, 8, 1, [.int .i64 kind, .slice d1 data.length d2, .slice i1 items.length i2, .string tree, .slice p1 parents.length p2, .int .i64 stamp, .int .i64 author, .string msg]⟩]) (fun y _ => items.length - (intOf y).toNat)
          case atStart => exact ⟨0, itms items, by omega, rfl, hi0⟩
          case round =>
            clear hi0
            obtain ⟨i, xs, hi, rfl, hs⟩ := hrel
            have x2 := hs.rcell (j := 2) (List.mem_cons_of_mem _ (List.mem_cons_self ..)) rfl
            by_cases hlt : i < items.length
            · obtain ⟨g, rfl, hc1, hc2, hxl⟩ := hs.headAt (by omega)
              unfold maxLen at hc2
              have HXI := Mx.hid (show i * 3 + 1 < xs.length by omega)
              clear hxl
              go_wp2_with ((with_reducible show wpList _ _ _ _ _ _); refine wpl_store1 rfl 9 _ _ rfl hs ((i * 3 + 1)) rfl _ rfl rfl (by kernel_rfl) HXI.out rfl ?_; intro w9 hs9)
              go_roundw
              case rel => exact ⟨i + 1, _, by omega, by go_num, hs9⟩
              case measure => simp [intOf]; omega
            · have hp0 : St w wr [(⟨.slice ppa parents.length ppc, 9, 1, parents.length, ss parents⟩ : Row), (⟨.slice (some ⟨gp, 0, none⟩) 1 1, 26, 8, 1, [.int .i64 kind, .slice pda data.length pdc, .slice pia items.length pic, .string tree, .slice ppa parents.length ppc, .int .i64 stamp, .int .i64 author, .string msg]⟩ : Row)] [⟨.slice qpa parents.length qpc, 1, parents.length, ss parents⟩, ⟨.slice qia items.length qic, 3, items.length, itms items⟩, ⟨.slice qda data.length qdc, 1, data.length, bs data⟩, ⟨.slice (some ⟨gq, 0, none⟩) 1 1, 8, 1, [.int .i64 kind, .slice qda data.length qdc, .slice qia items.length qic, .string tree, .slice qpa parents.length qpc, .int .i64 stamp, .int .i64 author, .string msg]⟩, ⟨.slice (some ⟨gx, 0, none⟩) 1 1, 8, 1, [.int .i64 kind, .slice d1 data.length d2, .slice i1 items.length i2, .string tree, .slice p1 parents.length p2, .int .i64 stamp, .int .i64 author, .string msg]⟩] := hs.tail.swap
              have x4 := hp0.rcell (j := 4) (List.mem_cons_of_mem _ (List.mem_cons_self ..)) rfl
              have hp4 := HB.out.2.1
              clear hs
              go_wp2_with (first | ((with_reducible show wpList _ _ _ _ _ _); refine wpl_want rfl ?_) | ((with_reducible show wpList _ _ _ _ _ _); refine wpl_lit1 rfl 24 _ rfl Try.elStr hp0 (.string ⟨#[120]⟩) (by rfl) (by rfl) ?_; intro gl w10 hs10) | (at_builtin; refine wpl_app rfl _ _ 24 rfl Try.elStr hs10.swap rfl (by exact hs10.sl0) (by intro u hu; simp at hu; subst hu; rfl) (by omega) ?_; intro v11 w11 hs11 _; obtain ⟨vo, vc, rfl, _⟩ := id hs11.sl0) | ((with_reducible show wpList _ _ _ _ _ _); refine wpl_store1 rfl 24 _ _ rfl (hs11.perm (R' := [_, _, _]) (List.perm_append_comm (l₁ := [_, _]) (l₂ := [_]))) (4) rfl (.slice vo (parents.length + 1) vc) rfl rfl (by kernel_rfl) (by simp) rfl ?_; intro w12 hs12) | (go_at_call 8; refine (first_any _).mono ?_; rintro e w13 ⟨rfl, hk13⟩; have hs13 := hs12.bare.call0 hk13; have hq13 := hs12.call0 hk13) | ((with_reducible show wpList _ _ _ _ _ _); refine wpl_loadA rfl 26 _ rfl Try.aObj (gq) (0) rfl ([.int .i64 kind, .slice qda data.length qdc, .slice qia items.length qic, .string tree, .slice qpa parents.length qpc, .int .i64 stamp, .int .i64 author, .string msg]) rfl (fun i u h => sl_cells (hq13.rd ⟨.slice (some ⟨gq, 0, none⟩) 1 1, 8, 1, [.int .i64 kind, .slice qda data.length qdc, .slice qia items.length qic, .string tree, .slice qpa parents.length qpc, .int .i64 stamp, .int .i64 author, .string msg]⟩ (by simp)) i u h) ?_) | ((with_reducible show wpList _ _ _ _ _ _); refine wpl_loadA rfl 26 _ rfl Try.aObj (gx) (0) rfl ([.int .i64 kind, .slice d1 data.length d2, .slice i1 items.length i2, .string tree, .slice p1 parents.length p2, .int .i64 stamp, .int .i64 author, .string msg]) rfl (fun i u h => sl_cells (hq13.rd ⟨.slice (some ⟨gx, 0, none⟩) 1 1, 8, 1, [.int .i64 kind, .slice d1 data.length d2, .slice i1 items.length i2, .string tree, .slice p1 parents.length p2, .int .i64 stamp, .int .i64 author, .string msg]⟩ (by simp)) i u h) ?_) | (go_at_call 14; refine (HS.out _ (.slice qda data.length qdc) (.slice qia items.length qic) (.slice qpa parents.length qpc) hs13 ⟨hq13.rd ⟨.slice qda data.length qdc, 1, data.length, bs data⟩ (by simp), hq13.rd ⟨.slice qia items.length qic, 3, items.length, itms items⟩ (by simp), hq13.rd ⟨.slice qpa parents.length qpc, 1, parents.length, ss parents⟩ (by simp)⟩).mono ?_; rintro e w14 ⟨rfl, hk14⟩; have hs14 := hs13.call0 hk14))
              go_ret
              exact ⟨rfl, hs14.below⟩
end Go.Proofs.Ytobpojlophhfaaa
