/- marlaw6.ObjBack. -/
import Derived.Test.YtobpojlophhfaaaDoorO6D
import Derived.Test.YtobpojlophhfaaaDoorShaY
import Derived.Test.YtobpojlophhfaaaDoorRowOb
namespace Go.Proofs.YtobpojlophhfaaaDoor
open Go.RowKit Go.Mx

set_option maxRecDepth 100000 in
set_option maxHeartbeats 4000000 in
theorem objBackRow (dv iv pv : Value) (o : Ob) {w : World} (h : OB w dv iv pv o) (_hi : OI o) (hz : OZ o ∧ o.data.length ≤ reachBytes) (vb : Value) (b : List UInt8) (hb : Sl w 1 vb b.length (bs b)) (_w : World) (hL : Laid w) :
    Calls Tryd.prog 3 #[OV dv iv pv o, vb] w fun e w' => e = .returned (.bool true) ∧ Below w.heap.size w w' := by
  have HF := Mx.hid (fun wx (hs : St w wx [] []) => few_any dv iv pv o wx (OB.old hs h) hz.1)
  have HY := Mx.hid (fun wx (hs : St w wx [] []) => enc_yes (OB.old hs h) hz.1)
  have HN := Mx.hid (fun wx (hs : St w wx [] []) => enc_no (OB.old hs h) hz.1)
  have HIY := Mx.hid (fun wx (hs : St w wx [] []) => id_yes (OB.old hs h) hz.1 (fun w' h' => hL.keep (hs.call0 h')))
  have HIN := Mx.hid (fun wx (hs : St w wx [] []) => id_no (OB.old hs h) hz.1)
  have HMO := Mx.hid (fun wx (hs : St w wx [] []) => may_any dv iv pv o wx (OB.old hs h) hz.1)
  have HD := Mx.hid (fun (hm : mayB o = true) wx R Q v (hs : St w wx R Q) (hv : Sl wx 1 v (encL o).length (bs (encL o))) => decGood v o hs hv hm)
  have HS := Mx.hid (fun wx dv' iv' pv' (hs : St w wx [] []) (h' : OB wx dv' iv' pv' o) => (same_any dv' iv' pv' dv iv pv o o wx h' (OB.old hs h)).mono fun e w' hh => (show e = .returned (.bool true) ∧ St wx w' [] [] by rw [(sameB_iff o o).2 rfl] at hh; exact hh))
  have HID := Mx.hid (fun (hm : mayB o = true) wx v (hs : St w wx [] []) (hv : Sl wx 1 v (encL o).length (bs (encL o))) => id_any v (encL o) wx hv (by have := enc_len hm; omega) (fun w' h' => hL.keep (hs.call0 h')))
  have HBV := Mx.hid hb
  have hdc : (∃ er, decO b = (noOb, er) ∧ (er != 0) = true) ∨ ∃ y, mayB y = true ∧ encL y = b := by
    rcases dec_cases b with ⟨_, hd⟩ | ⟨_, hd⟩ | ⟨y, _, hm, he⟩
    · exact .inl ⟨2, hd, rfl⟩
    · exact .inl ⟨4, hd, rfl⟩
    · exact .inr ⟨y, hm, he⟩
  have HL := Mx.hid (fun (hm : mayB o = true) => enc_len hm)
  have HZY := Mx.hid (fun y (hm : mayB y = true) (_ : encL y = b) => obz_enc hm)
  have HB0 := Mx.hid (fun (hbl : b.length ≤ 30000) er (h : decO b = (noOb, er)) wx (hs : St w wx [] []) => decBad _ b wx (hs.old hb) (by omega) h)
  have HB1 := Mx.hid (fun y (hm : mayB y = true) (he : encL y = b) wx R Q (hs : St w wx R Q) => decGood (vb) y hs (by rw [he]; exact hs.old hb) hm)
  obtain ⟨ba, bc, rfl, hbc, hbm, _⟩ := id hb
  unfold maxLen at hbm
  obtain ⟨d1, d2, rfl, g1, g2, _⟩ := h.d
  obtain ⟨i1, i2, rfl, g3, g4, _⟩ := h.i
  obtain ⟨p1, p2, rfl, g5, g6, _⟩ := h.p
  clear h hz hb
  generalize mayB o = mA at *
  generalize encL o = x at *
  obtain ⟨kind, data, items, tree, parents, stamp, author, msg⟩ := o
  simp only [OV] at *
  go_enter Tryd.func3, Tryd.ntmps3
  go_wp2_with (first | (((with_reducible show wpList _ _ _ _ _ _); refine wpl_box rfl 26 _ rfl (St.refl w) ([.int .i64 kind, .slice d1 data.length d2, .slice i1 items.length i2, .string tree, .slice p1 parents.length p2, .int .i64 stamp, .int .i64 author, .string msg]) (by rfl) ?_; intro gx wx hsx); (have x0 := hsx.cell (j := 0) rfl; have x1 := hsx.cell (j := 1) rfl; have x2 := hsx.cell (j := 2) rfl; have x3 := hsx.cell (j := 3) rfl; have x4 := hsx.cell (j := 4) rfl; have x5 := hsx.cell (j := 5) rfl; have x6 := hsx.cell (j := 6) rfl; have x7 := hsx.cell (j := 7) rfl)) | (go_at_call 10; refine (first_any _).mono ?_; rintro e w9 ⟨rfl, hk9⟩; replace hsx := hsx.call0 hk9) | ((with_reducible show wpList _ _ _ _ _ _); refine wpl_loadA rfl 26 _ rfl Tryd.aObj (gx) (0) rfl ([.int .i64 kind, .slice d1 data.length d2, .slice i1 items.length i2, .string tree, .slice p1 parents.length p2, .int .i64 stamp, .int .i64 author, .string msg]) rfl (fun i u h => by rw [Nat.zero_add]; exact hsx.rcell (List.mem_cons_self ..) h) ?_))
  refine (HF.out _ hsx.bare).mono ?_
  rintro e w3 ⟨fb, rfl, hk, -⟩
  replace hsx := hsx.call0 hk
  cases fb with
  | false =>
    go_wp2_with (first | ((with_reducible show wpList _ _ _ _ _ _); refine wpl_want rfl ?_) | (go_at_call 10; refine (first_any _).mono ?_; rintro e w9 ⟨rfl, hk9⟩; replace hsx := hsx.call0 hk9))
    go_ret
    exact ⟨rfl, hsx.below⟩
  | true =>
  by_cases hbl : 30000 < b.length
  · have q3 : decide ((30000 : Int) < (b.length : Int)) = true := decide_eq_true (by omega)
    have q4 : decide (30000 < b.length) = true := decide_eq_true (by omega)
    go_wp2_with (first | ((with_reducible show wpList _ _ _ _ _ _); refine wpl_want rfl ?_) | (go_at_call 10; refine (first_any _).mono ?_; rintro e w9 ⟨rfl, hk9⟩; replace hsx := hsx.call0 hk9))
    go_ret
    exact ⟨rfl, hsx.below⟩
  have q3 : decide ((30000 : Int) < (b.length : Int)) = false := decide_eq_false (by omega)
  have q4 : decide (30000 < b.length) = false := decide_eq_false (by omega)
  go_wp2_with (first | ((with_reducible show wpList _ _ _ _ _ _); refine wpl_want rfl ?_) | ((with_reducible show wpList _ _ _ _ _ _); refine wpl_loadA rfl 26 _ rfl Tryd.aObj (gx) (0) rfl ([.int .i64 kind, .slice d1 data.length d2, .slice i1 items.length i2, .string tree, .slice p1 parents.length p2, .int .i64 stamp, .int .i64 author, .string msg]) rfl (fun i u h => by rw [Nat.zero_add]; exact hsx.rcell (List.mem_cons_self ..) h) ?_))
  cases mA with
  | false =>
    refine (HN.out _ hsx.bare (by trivial)).mono ?_
    rintro e w4 ⟨rfl, hk⟩
    replace hsx := hsx.call0 hk
    go_wp2_with (first | ((with_reducible show wpList _ _ _ _ _ _); refine wpl_want rfl ?_) | ((with_reducible show wpList _ _ _ _ _ _); refine wpl_loadA rfl 26 _ rfl Tryd.aObj (gx) (0) rfl ([.int .i64 kind, .slice d1 data.length d2, .slice i1 items.length i2, .string tree, .slice p1 parents.length p2, .int .i64 stamp, .int .i64 author, .string msg]) rfl (fun i u h => by rw [Nat.zero_add]; exact hsx.rcell (List.mem_cons_self ..) h) ?_))
    refine (HIN.out _ hsx.bare (by trivial)).mono ?_
    rintro e w5 ⟨rfl, hk⟩
    replace hsx := hsx.call0 hk
    go_wp2_with (first | ((with_reducible show wpList _ _ _ _ _ _); refine wpl_want rfl ?_) | ((with_reducible show wpList _ _ _ _ _ _); refine wpl_loadA rfl 26 _ rfl Tryd.aObj (gx) (0) rfl ([.int .i64 kind, .slice d1 data.length d2, .slice i1 items.length i2, .string tree, .slice p1 parents.length p2, .int .i64 stamp, .int .i64 author, .string msg]) rfl (fun i u h => by rw [Nat.zero_add]; exact hsx.rcell (List.mem_cons_self ..) h) ?_))
    refine (HMO.out _ hsx.bare).mono ?_
    rintro e w6 ⟨rfl, hk⟩
    replace hsx := hsx.call0 hk
    go_wp2_with (first | ((with_reducible show wpList _ _ _ _ _ _); refine wpl_want rfl ?_) | ((with_reducible show wpList _ _ _ _ _ _); refine wpl_loadA rfl 26 _ rfl Tryd.aObj (gx) (0) rfl ([.int .i64 kind, .slice d1 data.length d2, .slice i1 items.length i2, .string tree, .slice p1 parents.length p2, .int .i64 stamp, .int .i64 author, .string msg]) rfl (fun i u h => by rw [Nat.zero_add]; exact hsx.rcell (List.mem_cons_self ..) h) ?_))
    have hbl2 : b.length ≤ 30000 := by omega
    clear hbl
    rcases hdc with ⟨er, hbad, her⟩ | ⟨y, hmy, hey⟩
    · refine (HB0.out hbl2 er hbad _ hsx.bare).mono ?_
      rintro e w20 ⟨t1, t2, t3, t4, t5, t6, rfl, hk20⟩
      replace hsx := hsx.call0 hk20
      clear hbad
      go_wp2_with (first | ((with_reducible show wpList _ _ _ _ _ _); refine wpl_want rfl ?_) | (((with_reducible show wpList _ _ _ _ _ _); refine wpl_storeA rfl 26 _ _ rfl Tryd.aObj (hsx.made ([.int .i64 (0), .slice none 0 0, .slice none 0 0, .string (str []), .slice none 0 0, .int .i64 (0), .int .i64 (0), .string (str [])]).toArray 26 8 1 rfl (by simp [maxLen])) (0) rfl ([.int .i64 (0), .slice t1 0 t2, .slice t3 0 t4, .string (str []), .slice t5 0 t6, .int .i64 (0), .int .i64 (0), .string (str [])]) rfl (by rfl) (by simp) (by intro u hu; simp at hu; rcases hu with rfl | rfl | rfl | rfl | rfl | rfl | rfl | rfl <;> rfl) ?_; intro w21 hs21); replace hs21 := hs21.cast rfl (show _ = [.int .i64 (0), .slice t1 0 t2, .slice t3 0 t4, .string (str []), .slice t5 0 t6, .int .i64 (0), .int .i64 (0), .string (str [])] by simp)) | (go_at_call 10; refine (first_any _).mono ?_; rintro e w22 ⟨rfl, hk22⟩; have hs22 := hs21.call0 hk22; have y0 := hs22.cell (j := 0) rfl))
      go_ret
      exact ⟨by show Ending.returned (.bool (str []).toList.isEmpty) = _; rw [str_toL]; rfl, hs22.below⟩
    · refine (HB1.out y hmy hey _ _ _ hsx).mono ?_
      rintro e w20 ⟨ya, yb, yc, yb2, yp, yp2, rfl, hs20⟩
      have HEY := Mx.hid (fun wx (hs : St w20 wx [] []) => enc_yes (OB.old hs ⟨hs20.sl0, hs20.tail.sl0, hs20.tail.tail.sl0⟩) (HZY.out y hmy hey) hmy)
      have HMY := Mx.hid (fun wx (hs : St w20 wx [] []) => may_any _ _ _ y wx (OB.old hs ⟨hs20.sl0, hs20.tail.sl0, hs20.tail.tail.sl0⟩) (HZY.out y hmy hey))
      rw [hmy] at HMY
      rw [hey] at HEY
      clear hmy hey
      obtain ⟨yk, yd, yi, yt, yps, ys, yau, ym⟩ := y
      simp only [OV] at *
      have hs30 := (St.refl w20)
      have hsb := hs20.bare
      clear hs20 hsx
      go_wp2_with (first | ((with_reducible show wpList _ _ _ _ _ _); refine wpl_want rfl ?_) | (((with_reducible show wpList _ _ _ _ _ _); refine wpl_storeA rfl 26 _ _ rfl Tryd.aObj (hs30.made ([.int .i64 (0), .slice none 0 0, .slice none 0 0, .string (str []), .slice none 0 0, .int .i64 (0), .int .i64 (0), .string (str [])]).toArray 26 8 1 rfl (by simp [maxLen])) (0) rfl ([.int .i64 yk, .slice ya yd.length yb, .slice yc yi.length yb2, .string yt, .slice yp yps.length yp2, .int .i64 ys, .int .i64 yau, .string ym]) rfl (by rfl) (by simp) (by intro u hu; simp at hu; rcases hu with rfl | rfl | rfl | rfl | rfl | rfl | rfl | rfl <;> rfl) ?_; intro w21 hs21); replace hs21 := (hs21.cast rfl (show _ = [.int .i64 yk, .slice ya yd.length yb, .slice yc yi.length yb2, .string yt, .slice yp yps.length yp2, .int .i64 ys, .int .i64 yau, .string ym] by simp)); obtain ⟨gy, hgy⟩ : ∃ gy, gy = w20.heap.size := ⟨_, rfl⟩; rw [← hgy] at hs21 ⊢; clear hgy) | ((with_reducible show wpList _ _ _ _ _ _); refine wpl_loadA rfl 26 _ rfl Tryd.aObj (gy) (0) rfl ([.int .i64 yk, .slice ya yd.length yb, .slice yc yi.length yb2, .string yt, .slice yp yps.length yp2, .int .i64 ys, .int .i64 yau, .string ym]) rfl (fun i u h => by rw [Nat.zero_add]; exact hs21.rcell (List.mem_cons_self ..) h) ?_) | (go_at_call 12; refine (HEY.out _ hs21.bare).mono ?_; rintro e w22 ⟨ve, rfl, hk22⟩; have hs22 := hs21.call1 hk22; obtain ⟨ea, ec, rfl, hec, hem, _⟩ := id hk22.sl0; unfold maxLen at hem) | (go_at_call 10; refine (first_any _).mono ?_; rintro e w23 ⟨rfl, hk23⟩; have hs23 := hs22.call0 hk23) | (go_at_call 18; refine (bytes_any _ _ b b _ hs23.sl0 ((hsb.call0 hs23.bare).old HBV.out)).mono ?_; rintro e w24 ⟨rfl, rfl⟩) | (go_at_call 14; refine (HMY.out _ hs23.bare).mono ?_; rintro e w25 ⟨rfl, hk25⟩; have hs25 := hs23.call0 hk25) | ((with_reducible show wpList _ _ _ _ _ _); refine wpl_loadA rfl 26 _ rfl Tryd.aObj (gy) (0) rfl ([.int .i64 yk, .slice ya yd.length yb, .slice yc yi.length yb2, .string yt, .slice yp yps.length yp2, .int .i64 ys, .int .i64 yau, .string ym]) rfl (fun i u h => by rw [Nat.zero_add]; exact hs23.rcell (List.mem_cons_of_mem _ (List.mem_cons_self ..)) h) ?_))
      go_ret
      exact ⟨by first | rfl | simp, (hsb.call0 hs25.bare).below⟩
  | true =>
    refine (HY.out _ hsx.bare (by trivial)).mono ?_
    rintro e w4 ⟨v4, rfl, hk⟩
    obtain ⟨xa, xc, rfl, hxc, hxm, _⟩ := id hk.sl0
    unfold maxLen at hxm
    replace hsx := hsx.call1 hk
    have HD2 := Mx.hid (HD.out (by trivial))
    simp only [List.cons_append, List.nil_append] at HD2
    have HID2 := Mx.hid (HID.out (by trivial))
    clear HD HID
    go_wp2_with (first | ((with_reducible show wpList _ _ _ _ _ _); refine wpl_want rfl ?_) | ((with_reducible show wpList _ _ _ _ _ _); refine wpl_loadA rfl 26 _ rfl Tryd.aObj (gx) (0) rfl ([.int .i64 kind, .slice d1 data.length d2, .slice i1 items.length i2, .string tree, .slice p1 parents.length p2, .int .i64 stamp, .int .i64 author, .string msg]) rfl (fun i u h => by rw [Nat.zero_add]; exact hsx.rcell (List.mem_cons_of_mem _ (List.mem_cons_self ..)) h) ?_))
    refine (HIY.out _ hsx.bare (by trivial)).mono ?_
    rintro e w5 ⟨rfl, hk⟩
    replace hsx := hsx.call0 hk
    go_wp2_with (first | ((with_reducible show wpList _ _ _ _ _ _); refine wpl_want rfl ?_) | ((with_reducible show wpList _ _ _ _ _ _); refine wpl_loadA rfl 26 _ rfl Tryd.aObj (gx) (0) rfl ([.int .i64 kind, .slice d1 data.length d2, .slice i1 items.length i2, .string tree, .slice p1 parents.length p2, .int .i64 stamp, .int .i64 author, .string msg]) rfl (fun i u h => by rw [Nat.zero_add]; exact hsx.rcell (List.mem_cons_of_mem _ (List.mem_cons_self ..)) h) ?_))
    refine (HMO.out _ hsx.bare).mono ?_
    rintro e w6 ⟨rfl, hk⟩
    replace hsx := hsx.call0 hk
    go_wp2_with (first | ((with_reducible show wpList _ _ _ _ _ _); refine wpl_want rfl ?_) | ((with_reducible show wpList _ _ _ _ _ _); refine wpl_loadA rfl 26 _ rfl Tryd.aObj (gx) (0) rfl ([.int .i64 kind, .slice d1 data.length d2, .slice i1 items.length i2, .string tree, .slice p1 parents.length p2, .int .i64 stamp, .int .i64 author, .string msg]) rfl (fun i u h => by rw [Nat.zero_add]; exact hsx.rcell (List.mem_cons_of_mem _ (List.mem_cons_self ..)) h) ?_))
    refine (HD2.out _ _ _ _ hsx hsx.sl0).mono ?_
    rintro e w7 ⟨pda, pdc, pia, pic, ppa, ppc, rfl, hs8⟩
    clear hsx
    go_wp2_with (first | ((with_reducible show wpList _ _ _ _ _ _); refine wpl_want rfl ?_) | (((with_reducible show wpList _ _ _ _ _ _); refine wpl_storeA rfl 26 _ _ rfl Tryd.aObj (hs8.made ([.int .i64 (0), .slice none 0 0, .slice none 0 0, .string (str []), .slice none 0 0, .int .i64 (0), .int .i64 (0), .string (str [])]).toArray 26 8 1 rfl (by simp [maxLen])) (0) rfl ([.int .i64 kind, .slice pda data.length pdc, .slice pia items.length pic, .string tree, .slice ppa parents.length ppc, .int .i64 stamp, .int .i64 author, .string msg]) rfl (by rfl) (by simp) (by intro u hu; simp at hu; rcases hu with rfl | rfl | rfl | rfl | rfl | rfl | rfl | rfl <;> rfl) ?_; intro w9 hs9); replace hs9 := hs9.cast rfl (show _ = [.int .i64 kind, .slice pda data.length pdc, .slice pia items.length pic, .string tree, .slice ppa parents.length ppc, .int .i64 stamp, .int .i64 author, .string msg] by simp); obtain ⟨gp, hgp⟩ : ∃ gp, gp = w7.heap.size := ⟨_, rfl⟩; rw [← hgp] at hs9 ⊢; clear hgp) | ((with_reducible show wpList _ _ _ _ _ _); refine wpl_loadA rfl 26 _ rfl Tryd.aObj (gp) (0) rfl ([.int .i64 kind, .slice pda data.length pdc, .slice pia items.length pic, .string tree, .slice ppa parents.length ppc, .int .i64 stamp, .int .i64 author, .string msg]) rfl (fun i u h => by rw [Nat.zero_add]; exact hs9.rcell (List.mem_cons_self ..) h) ?_) | ((with_reducible show wpList _ _ _ _ _ _); refine wpl_loadA rfl 26 _ rfl Tryd.aObj (gx) (0) rfl ([.int .i64 kind, .slice d1 data.length d2, .slice i1 items.length i2, .string tree, .slice p1 parents.length p2, .int .i64 stamp, .int .i64 author, .string msg]) rfl (fun i u h => by rw [Nat.zero_add]; exact hs9.rcell (List.mem_cons_of_mem _ (List.mem_cons_of_mem _ (List.mem_cons_of_mem _ (List.mem_cons_of_mem _ (List.mem_cons_of_mem _ (List.mem_cons_self ..)))))) h) ?_) | (go_at_call 16; refine (HS.out _ (.slice pda data.length pdc) (.slice pia items.length pic) (.slice ppa parents.length ppc) hs9.bare ⟨hs9.tail.sl0, hs9.tail.tail.sl0, hs9.tail.tail.tail.sl0⟩).mono ?_; rintro e w10 ⟨rfl, hk10⟩; have hs10 := hs9.call0 hk10) | (go_at_call 17; refine (HID2.out _ _ hs10.bare hs10.tail.tail.tail.tail.sl0).mono ?_; rintro e w11 ⟨rfl, hk11⟩; have hsx := hs10.call0 hk11))
    have hbl2 : b.length ≤ 30000 := by omega
    clear hbl
    rcases hdc with ⟨er, hbad, her⟩ | ⟨y, hmy, hey⟩
    · refine (HB0.out hbl2 er hbad _ hsx.bare).mono ?_
      rintro e w20 ⟨t1, t2, t3, t4, t5, t6, rfl, hk20⟩
      replace hsx := hsx.call0 hk20
      clear hbad
      go_wp2_with (first | ((with_reducible show wpList _ _ _ _ _ _); refine wpl_want rfl ?_) | (((with_reducible show wpList _ _ _ _ _ _); refine wpl_storeA rfl 26 _ _ rfl Tryd.aObj (hsx.made ([.int .i64 (0), .slice none 0 0, .slice none 0 0, .string (str []), .slice none 0 0, .int .i64 (0), .int .i64 (0), .string (str [])]).toArray 26 8 1 rfl (by simp [maxLen])) (0) rfl ([.int .i64 (0), .slice t1 0 t2, .slice t3 0 t4, .string (str []), .slice t5 0 t6, .int .i64 (0), .int .i64 (0), .string (str [])]) rfl (by rfl) (by simp) (by intro u hu; simp at hu; rcases hu with rfl | rfl | rfl | rfl | rfl | rfl | rfl | rfl <;> rfl) ?_; intro w21 hs21); replace hs21 := hs21.cast rfl (show _ = [.int .i64 (0), .slice t1 0 t2, .slice t3 0 t4, .string (str []), .slice t5 0 t6, .int .i64 (0), .int .i64 (0), .string (str [])] by simp)) | (go_at_call 10; refine (first_any _).mono ?_; rintro e w22 ⟨rfl, hk22⟩; have hs22 := hs21.call0 hk22; have y0 := hs22.cell (j := 0) rfl))
      go_ret
      exact ⟨rfl, hs22.below⟩
    · refine (HB1.out y hmy hey _ _ _ hsx).mono ?_
      rintro e w20 ⟨ya, yb, yc, yb2, yp, yp2, rfl, hs20⟩
      have HEY := Mx.hid (fun wx (hs : St w20 wx [] []) => enc_yes (OB.old hs ⟨hs20.sl0, hs20.tail.sl0, hs20.tail.tail.sl0⟩) (HZY.out y hmy hey) hmy)
      have HMY := Mx.hid (fun wx (hs : St w20 wx [] []) => may_any _ _ _ y wx (OB.old hs ⟨hs20.sl0, hs20.tail.sl0, hs20.tail.tail.sl0⟩) (HZY.out y hmy hey))
      rw [hmy] at HMY
      rw [hey] at HEY
      clear hmy hey
      obtain ⟨yk, yd, yi, yt, yps, ys, yau, ym⟩ := y
      simp only [OV] at *
      have hs30 := (St.refl w20)
      have hsb := hs20.bare
      clear hs20 hsx
      go_wp2_with (first | ((with_reducible show wpList _ _ _ _ _ _); refine wpl_want rfl ?_) | (((with_reducible show wpList _ _ _ _ _ _); refine wpl_storeA rfl 26 _ _ rfl Tryd.aObj (hs30.made ([.int .i64 (0), .slice none 0 0, .slice none 0 0, .string (str []), .slice none 0 0, .int .i64 (0), .int .i64 (0), .string (str [])]).toArray 26 8 1 rfl (by simp [maxLen])) (0) rfl ([.int .i64 yk, .slice ya yd.length yb, .slice yc yi.length yb2, .string yt, .slice yp yps.length yp2, .int .i64 ys, .int .i64 yau, .string ym]) rfl (by rfl) (by simp) (by intro u hu; simp at hu; rcases hu with rfl | rfl | rfl | rfl | rfl | rfl | rfl | rfl <;> rfl) ?_; intro w21 hs21); replace hs21 := (hs21.cast rfl (show _ = [.int .i64 yk, .slice ya yd.length yb, .slice yc yi.length yb2, .string yt, .slice yp yps.length yp2, .int .i64 ys, .int .i64 yau, .string ym] by simp)); obtain ⟨gy, hgy⟩ : ∃ gy, gy = w20.heap.size := ⟨_, rfl⟩; rw [← hgy] at hs21 ⊢; clear hgy) | ((with_reducible show wpList _ _ _ _ _ _); refine wpl_loadA rfl 26 _ rfl Tryd.aObj (gy) (0) rfl ([.int .i64 yk, .slice ya yd.length yb, .slice yc yi.length yb2, .string yt, .slice yp yps.length yp2, .int .i64 ys, .int .i64 yau, .string ym]) rfl (fun i u h => by rw [Nat.zero_add]; exact hs21.rcell (List.mem_cons_self ..) h) ?_) | (go_at_call 12; refine (HEY.out _ hs21.bare).mono ?_; rintro e w22 ⟨ve, rfl, hk22⟩; have hs22 := hs21.call1 hk22; obtain ⟨ea, ec, rfl, hec, hem, _⟩ := id hk22.sl0; unfold maxLen at hem) | (go_at_call 10; refine (first_any _).mono ?_; rintro e w23 ⟨rfl, hk23⟩; have hs23 := hs22.call0 hk23) | (go_at_call 18; refine (bytes_any _ _ b b _ hs23.sl0 ((hsb.call0 hs23.bare).old HBV.out)).mono ?_; rintro e w24 ⟨rfl, rfl⟩) | (go_at_call 14; refine (HMY.out _ hs23.bare).mono ?_; rintro e w25 ⟨rfl, hk25⟩; have hs25 := hs23.call0 hk25) | ((with_reducible show wpList _ _ _ _ _ _); refine wpl_loadA rfl 26 _ rfl Tryd.aObj (gy) (0) rfl ([.int .i64 yk, .slice ya yd.length yb, .slice yc yi.length yb2, .string yt, .slice yp yps.length yp2, .int .i64 ys, .int .i64 yau, .string ym]) rfl (fun i u h => by rw [Nat.zero_add]; exact hs23.rcell (List.mem_cons_of_mem _ (List.mem_cons_self ..)) h) ?_))
      go_ret
      exact ⟨by first | rfl | simp, (hsb.call0 hs25.bare).below⟩
end Go.Proofs.YtobpojlophhfaaaDoor
