/- Walks of the document's num, raw; of its Encode: what may not be, blobs. The walk of the document's Encode: trees. -/
import Derived.Test.YtloogjdafhjheaaGreatR6M
import Derived.Test.YtloogjdafhjheaaGreatJ10ObjE
import Derived.Test.YtloogjdafhjheaaGreatJ22WireK
namespace Go.Proofs.YtloogjdafhjheaaGreat
open Go.RowKit Go.Mx

theorem rnum_any (n : Nat) (w : World) (hn : n ≤ 72057594037927936) : Calls Tryz.prog 75 #[.int .i64 (n : Int)] w fun e w' => ∃ v, e = .returned v ∧ St w w' [(⟨v, 5, 1, (putL n).length, bs (putL n)⟩ : Row)] [] := by
  have HP := Mx.hid (refPut_good n w hn)
  generalize putL n = p at *
  generalize (n : Int) = nn at *
  go_enter Tryz.func75, Tryz.ntmps75
  go_wp2_with (go_at_call 88; refine HP.out.mono ?_; rintro e w1 ⟨x, rfl, hk⟩)
  go_ret
  exact ⟨_, rfl, hk⟩
theorem rraw_any (s : ByteArray) (w : World) (hz : s.size ≤ 140737488351232) : Calls Tryz.prog 76 #[.string s] w fun e w' => ∃ v, e = .returned v ∧ St w w' [(⟨v, 5, 1, (rawL s).length, bs (rawL s)⟩ : Row)] [] := by
  have HP : Hid (Calls Tryz.prog 86 #[.string s] w fun e w' => ∃ v b, e = .returned (.tuple #[v, .bool b]) ∧ St w w' [(⟨v, 5, 1, (rawL s).length, bs (rawL s)⟩ : Row)] []) := (unhex_any s w (by omega)).mono fun e w' ⟨v, h1, h2⟩ => ⟨v, _, h1, h2⟩
  generalize rawL s = p at *
  go_enter Tryz.func76, Tryz.ntmps76
  go_wp2_with (go_at_call 86; refine HP.out.mono ?_; rintro e w1 ⟨x, b, rfl, hk⟩)
  go_ret
  exact ⟨_, rfl, hk⟩

set_option maxRecDepth 100000 in
set_option maxHeartbeats 2000000 in
theorem renc_bad (dv iv pv : Value) (o : Ob) (w : World) (h : OB w dv iv pv o) (hz : OZ o) (hdl : o.data.length ≤ 1000000000000) (hil : o.items.length ≤ 1000000000000) (hm : mayB o = false) :
    Calls Tryz.prog 54 #[OV dv iv pv o] w fun e w' => e = .returned (.tuple #[.slice none 0 0, .int .i64 1]) ∧ St w w' [] [] := by
  have HMY := Mx.hid (fun wx (hs : St w wx [] []) => rmay_any dv iv pv o wx (OB.old hs h) hz hdl hil)
  rw [hm] at HMY
  obtain ⟨d1, d2, rfl, g1, g2, _⟩ := h.d
  obtain ⟨i1, i2, rfl, g3, g4, _⟩ := h.i
  obtain ⟨p1, p2, rfl, g5, g6, _⟩ := h.p
  clear h hz hm
  obtain ⟨kind, data, items, tree, parents, stamp, author, msg⟩ := o
  simp only [OV] at *
  go_enter Tryz.func54, Tryz.ntmps54
  go_wp2_with (first | (((with_reducible show wpList _ _ _ _ _ _); refine wpl_box rfl 76 _ rfl (St.refl w) ([.int .i64 kind, .slice d1 data.length d2, .slice i1 items.length i2, .string tree, .slice p1 parents.length p2, .int .i64 stamp, .int .i64 author, .string msg]) (by rfl) ?_; intro gx wx hsx); (have x0 := hsx.cell (j := 0) rfl; have x1 := hsx.cell (j := 1) rfl; have x2 := hsx.cell (j := 2) rfl; have x3 := hsx.cell (j := 3) rfl; have x4 := hsx.cell (j := 4) rfl; have x5 := hsx.cell (j := 5) rfl; have x6 := hsx.cell (j := 6) rfl; have x7 := hsx.cell (j := 7) rfl)) | ((with_reducible show wpList _ _ _ _ _ _); refine wpl_loadA rfl 76 _ rfl Tryz.aObj6 (gx) (0) rfl ([.int .i64 kind, .slice d1 data.length d2, .slice i1 items.length i2, .string tree, .slice p1 parents.length p2, .int .i64 stamp, .int .i64 author, .string msg]) rfl (fun i u h => by rw [Nat.zero_add]; exact hsx.rcell (List.mem_cons_self ..) h) ?_) | (go_at_call 74; refine (HMY.out _ hsx.bare).mono ?_; rintro e w2 ⟨rfl, hk⟩; replace hsx := hsx.call0 hk; (have x0 := hsx.cell (j := 0) rfl; have x1 := hsx.cell (j := 1) rfl; have x2 := hsx.cell (j := 2) rfl; have x3 := hsx.cell (j := 3) rfl; have x4 := hsx.cell (j := 4) rfl; have x5 := hsx.cell (j := 5) rfl; have x6 := hsx.cell (j := 6) rfl; have x7 := hsx.cell (j := 7) rfl)) | (((with_reducible show wpList _ _ _ _ _ _); refine wpl_lit1 rfl 51 _ rfl Tryz.elU8 hsx (.int .u8 kind) (by rfl) (by rfl) ?_; intro gl w3 hs3); have x0 := hs3.rcell (j := 0) (List.mem_cons_of_mem _ (List.mem_cons_self ..)) rfl; have x1 := hs3.rcell (j := 1) (List.mem_cons_of_mem _ (List.mem_cons_self ..)) rfl; have x2 := hs3.rcell (j := 2) (List.mem_cons_of_mem _ (List.mem_cons_self ..)) rfl; have x3 := hs3.rcell (j := 3) (List.mem_cons_of_mem _ (List.mem_cons_self ..)) rfl; have x4 := hs3.rcell (j := 4) (List.mem_cons_of_mem _ (List.mem_cons_self ..)) rfl; have x5 := hs3.rcell (j := 5) (List.mem_cons_of_mem _ (List.mem_cons_self ..)) rfl; have x6 := hs3.rcell (j := 6) (List.mem_cons_of_mem _ (List.mem_cons_self ..)) rfl; have x7 := hs3.rcell (j := 7) (List.mem_cons_of_mem _ (List.mem_cons_self ..)) rfl) | fail)
  go_ret2
  exact ⟨rfl, hsx.bare⟩

set_option maxRecDepth 100000 in
set_option maxHeartbeats 2000000 in
theorem renc_blob (dv iv pv : Value) (o : Ob) (w : World) (h : OB w dv iv pv o) (hz : OZ o) (hdl : o.data.length ≤ 1000000000000) (hil : o.items.length ≤ 1000000000000) (hm : mayB o = true) (hk : o.kind = 1) :
    Calls Tryz.prog 54 #[OV dv iv pv o] w fun e w' => ∃ v, e = .returned (.tuple #[v, .int .i64 0]) ∧ St w w' [(⟨v, 5, 1, (encL o).length, bs (encL o)⟩ : Row)] [] := by
  have HMY := Mx.hid (fun wx (hs : St w wx [] []) => rmay_any dv iv pv o wx (OB.old hs h) hz hdl hil)
  have hb : o.data.length ≤ 20000 := by
    unfold mayB at hm
    rw [if_pos hk] at hm
    simp only [Bool.and_eq_true, decide_eq_true_eq] at hm
    exact hm.1.1
  rw [hm] at HMY
  have HE := Mx.hid (show encL o = 1 :: o.data by unfold encL; rw [if_pos hk])
  have HD := Mx.hid h.d
  obtain ⟨d1, d2, rfl, g1, g2, _⟩ := h.d
  obtain ⟨i1, i2, rfl, g3, g4, _⟩ := h.i
  obtain ⟨p1, p2, rfl, g5, g6, _⟩ := h.p
  clear h hz hm
  obtain ⟨kind, data, items, tree, parents, stamp, author, msg⟩ := o
  simp only [OV] at *
  subst hk
  go_enter Tryz.func54, Tryz.ntmps54
  go_wp2_with (first | (((with_reducible show wpList _ _ _ _ _ _); refine wpl_box rfl 76 _ rfl (St.refl w) ([.int .i64 1, .slice d1 data.length d2, .slice i1 items.length i2, .string tree, .slice p1 parents.length p2, .int .i64 stamp, .int .i64 author, .string msg]) (by rfl) ?_; intro gx wx hsx); (have x0 := hsx.cell (j := 0) rfl; have x1 := hsx.cell (j := 1) rfl; have x2 := hsx.cell (j := 2) rfl; have x3 := hsx.cell (j := 3) rfl; have x4 := hsx.cell (j := 4) rfl; have x5 := hsx.cell (j := 5) rfl; have x6 := hsx.cell (j := 6) rfl; have x7 := hsx.cell (j := 7) rfl)) | ((with_reducible show wpList _ _ _ _ _ _); refine wpl_loadA rfl 76 _ rfl Tryz.aObj6 (gx) (0) rfl ([.int .i64 1, .slice d1 data.length d2, .slice i1 items.length i2, .string tree, .slice p1 parents.length p2, .int .i64 stamp, .int .i64 author, .string msg]) rfl (fun i u h => by rw [Nat.zero_add]; exact hsx.rcell (List.mem_cons_self ..) h) ?_) | (go_at_call 74; refine (HMY.out _ hsx.bare).mono ?_; rintro e w2 ⟨rfl, hk⟩; replace hsx := hsx.call0 hk; (have x0 := hsx.cell (j := 0) rfl; have x1 := hsx.cell (j := 1) rfl; have x2 := hsx.cell (j := 2) rfl; have x3 := hsx.cell (j := 3) rfl; have x4 := hsx.cell (j := 4) rfl; have x5 := hsx.cell (j := 5) rfl; have x6 := hsx.cell (j := 6) rfl; have x7 := hsx.cell (j := 7) rfl)) | (((with_reducible show wpList _ _ _ _ _ _); refine wpl_lit1 rfl 51 _ rfl Tryz.elU8 hsx (.int .u8 1) (by rfl) (by rfl) ?_; intro gl w3 hs3); have x0 := hs3.rcell (j := 0) (List.mem_cons_of_mem _ (List.mem_cons_self ..)) rfl; have x1 := hs3.rcell (j := 1) (List.mem_cons_of_mem _ (List.mem_cons_self ..)) rfl; have x2 := hs3.rcell (j := 2) (List.mem_cons_of_mem _ (List.mem_cons_self ..)) rfl; have x3 := hs3.rcell (j := 3) (List.mem_cons_of_mem _ (List.mem_cons_self ..)) rfl; have x4 := hs3.rcell (j := 4) (List.mem_cons_of_mem _ (List.mem_cons_self ..)) rfl; have x5 := hs3.rcell (j := 5) (List.mem_cons_of_mem _ (List.mem_cons_self ..)) rfl; have x6 := hs3.rcell (j := 6) (List.mem_cons_of_mem _ (List.mem_cons_self ..)) rfl; have x7 := hs3.rcell (j := 7) (List.mem_cons_of_mem _ (List.mem_cons_self ..)) rfl) | (at_builtin; refine wpl_app rfl _ _ 51 rfl Tryz.elU8 hs3 rfl (by exact hs3.old HD.out) (bs_one _) (by omega) ?_; intro v9 w9 hs9 _))
  go_ret2
  exact ⟨_, rfl, by rw [HE.out]; exact hs9.head.cast (by rw [List.length_cons]; omega) rfl⟩
end Go.Proofs.YtloogjdafhjheaaGreat

namespace Go.Proofs.YtloogjdafhjheaaGreat
open Go.RowKit Go.Mx

set_option maxRecDepth 100000 in
set_option maxHeartbeats 4000000 in
theorem renc_tree (dv iv pv : Value) (o : Ob) (w : World) (h : OB w dv iv pv o) (hz : OZ o) (hdl : o.data.length ≤ 1000000000000) (hil : o.items.length ≤ 1000000000000) (hm : mayB o = true) (hk : o.kind = 2) :
    Calls Tryz.prog 54 #[OV dv iv pv o] w fun e w' => ∃ v, e = .returned (.tuple #[v, .int .i64 0]) ∧ St w w' [(⟨v, 5, 1, (encL o).length, bs (encL o)⟩ : Row)] [] := by
  have HMY := Mx.hid (fun wx (hs : St w wx [] []) => rmay_any dv iv pv o wx (OB.old hs h) hz hdl hil)
  have hb : itemsB o.items = true := by
    unfold mayB at hm
    rw [if_neg (by omega), if_pos hk] at hm
    simp only [Bool.and_eq_true, decide_eq_true_eq] at hm
    exact hm.1.2
  have hlen : o.items.length ≤ 256 := by
    unfold itemsB at hb
    simp only [Bool.and_eq_true, decide_eq_true_eq] at hb
    exact hb.2
  have HB := Mx.hid (fun (i : Nat) (hi : i < o.items.length) => (show itemB o.items[i] = true by
    unfold itemsB at hb
    simp only [Bool.and_eq_true, decide_eq_true_eq] at hb
    exact List.all_eq_true.1 hb.1.1 _ (List.getElem_mem hi)))
  rw [hm] at HMY
  have HE := Mx.hid (show encL o = 2 :: (putL o.items.length ++ o.items.flatMap itemL) by unfold encL; rw [if_neg (by omega), if_pos hk])
  have HZ := Mx.hid (fun (i : Nat) (hi : i < o.items.length) => hz.it o.items[i] (List.getElem_mem hi))
  obtain ⟨d1, d2, rfl, g1, g2, _⟩ := h.d
  obtain ⟨i1, i2, blk, off, hiv, g3, g4, _, hcell⟩ := h.i.anyC
  have HC := Mx.hid (fun (i : Nat) (hi : i < o.items.length) => (show i1 = some ⟨blk, off, none⟩ ∧ w.cell? ⟨blk, off + i * 3, none⟩ = some (.int .i64 o.items[i].1) ∧ w.cell? ⟨blk, off + i * 3 + 1, none⟩ = some (.string o.items[i].2.1) ∧ w.cell? ⟨blk, off + i * 3 + 2, none⟩ = some (.string o.items[i].2.2) from by
    have g0 := hcell (i * 3 + 0) _ ((flat_get (k := 3) (fun _ => rfl) o.items (by omega) hi).trans (show (itmRow o.items[i])[0]? = some (.int .i64 o.items[i].1) from rfl))
    have g1 := hcell (i * 3 + 1) _ ((flat_get (k := 3) (fun _ => rfl) o.items (by omega) hi).trans (show (itmRow o.items[i])[1]? = some (.string o.items[i].2.1) from rfl))
    have g2 := hcell (i * 3 + 2) _ ((flat_get (k := 3) (fun _ => rfl) o.items (by omega) hi).trans (show (itmRow o.items[i])[2]? = some (.string o.items[i].2.2) from rfl))
    exact ⟨g0.1, g0.2, g1.2, g2.2⟩))
  subst hiv
  obtain ⟨p1, p2, rfl, g5, g6, _⟩ := h.p
  clear h hz hm hcell hb
  obtain ⟨kind, data, items, tree, parents, stamp, author, msg⟩ := o
  simp only [OV] at *
  subst hk
  have h9 := putL_9 (show items.length ≤ 72057594037927936 by omega)
  have HNL := Mx.hid (fun wx => rnum_any items.length wx (by omega))
  go_enter Tryz.func54, Tryz.ntmps54
  go_wp2_with (first | (((with_reducible show wpList _ _ _ _ _ _); refine wpl_box rfl 76 _ rfl (St.refl w) ([.int .i64 2, .slice d1 data.length d2, .slice i1 items.length i2, .string tree, .slice p1 parents.length p2, .int .i64 stamp, .int .i64 author, .string msg]) (by rfl) ?_; intro gx wx hsx); (have x0 := hsx.cell (j := 0) rfl; have x1 := hsx.cell (j := 1) rfl; have x2 := hsx.cell (j := 2) rfl; have x3 := hsx.cell (j := 3) rfl; have x4 := hsx.cell (j := 4) rfl; have x5 := hsx.cell (j := 5) rfl; have x6 := hsx.cell (j := 6) rfl; have x7 := hsx.cell (j := 7) rfl)) | ((with_reducible show wpList _ _ _ _ _ _); refine wpl_loadA rfl 76 _ rfl Tryz.aObj6 (gx) (0) rfl ([.int .i64 2, .slice d1 data.length d2, .slice i1 items.length i2, .string tree, .slice p1 parents.length p2, .int .i64 stamp, .int .i64 author, .string msg]) rfl (fun i u h => by rw [Nat.zero_add]; exact hsx.rcell (List.mem_cons_self ..) h) ?_) | (go_at_call 74; refine (HMY.out _ hsx.bare).mono ?_; rintro e w2 ⟨rfl, hk⟩; replace hsx := hsx.call0 hk; (have x0 := hsx.cell (j := 0) rfl; have x1 := hsx.cell (j := 1) rfl; have x2 := hsx.cell (j := 2) rfl; have x3 := hsx.cell (j := 3) rfl; have x4 := hsx.cell (j := 4) rfl; have x5 := hsx.cell (j := 5) rfl; have x6 := hsx.cell (j := 6) rfl; have x7 := hsx.cell (j := 7) rfl)) | (((with_reducible show wpList _ _ _ _ _ _); refine wpl_lit1 rfl 51 _ rfl Tryz.elU8 hsx (.int .u8 2) (by rfl) (by rfl) ?_; intro gl w3 hs3); have x0 := hs3.rcell (j := 0) (List.mem_cons_of_mem _ (List.mem_cons_self ..)) rfl; have x1 := hs3.rcell (j := 1) (List.mem_cons_of_mem _ (List.mem_cons_self ..)) rfl; have x2 := hs3.rcell (j := 2) (List.mem_cons_of_mem _ (List.mem_cons_self ..)) rfl; have x3 := hs3.rcell (j := 3) (List.mem_cons_of_mem _ (List.mem_cons_self ..)) rfl; have x4 := hs3.rcell (j := 4) (List.mem_cons_of_mem _ (List.mem_cons_self ..)) rfl; have x5 := hs3.rcell (j := 5) (List.mem_cons_of_mem _ (List.mem_cons_self ..)) rfl; have x6 := hs3.rcell (j := 6) (List.mem_cons_of_mem _ (List.mem_cons_self ..)) rfl; have x7 := hs3.rcell (j := 7) (List.mem_cons_of_mem _ (List.mem_cons_self ..)) rfl) | (go_at_call 75; refine (HNL.out _).mono ?_; rintro e w4 ⟨xv, rfl, hk4⟩; have hs4 := (hs3.call1 hk4).freeze; simp only [] at hs4) | (at_builtin; refine wpl_app rfl _ _ 51 rfl Tryz.elU8 hs4 rfl (by exact hs4.q0) (bs_one _) (by omega) ?_; intro v4 w5 hs5 _))
  replace hs5 := hs5.noQ
  have x0 := hs5.rcell (j := 0) (List.mem_cons_of_mem _ (List.mem_cons_self ..)) rfl
  have x2 := hs5.rcell (j := 2) (List.mem_cons_of_mem _ (List.mem_cons_self ..)) rfl
  go_loopw [4, 5] (fun x y wr => ∃ (i : Nat) (acc : List UInt8), i ≤ items.length ∧ y = .int .i64 i ∧ acc.length ≤ 10 + 106 * i ∧ Hid (acc = 2 :: (putL items.length ++ (items.take i).flatMap itemL)) ∧ St w wr [(⟨x, 5, 1, (acc).length, bs (acc)⟩ : Row), (⟨.slice (some ⟨gx, 0, none⟩) 1 1, 76, 8, 1, [.int .i64 2, .slice d1 data.length d2, .slice i1 items.length i2, .string tree, .slice p1 parents.length p2, .int .i64 stamp, .int .i64 author, .string msg]⟩ : Row)] []) (fun _ y _ => items.length - (intOf y).toNat)
  case atStart => exact ⟨0, [2] ++ putL items.length, by omega, rfl, by simp; omega, by simp [Hid], hs5.cast (by simp; omega) (by rw [bs_app]; rfl)⟩
  case round =>
    obtain ⟨i, acc, hi, rfl, hac, He, hs⟩ := hrel
    have c9 := hs.rcell (j := 2) (List.mem_cons_of_mem _ (List.mem_cons_self ..)) rfl
    by_cases hlt : i < items.length
    · obtain ⟨rfl, c0, c1, c2⟩ := HC.out i hlt
      have c0 := hs.keep c0
      have c1 := hs.keep c1
      have c2 := hs.keep c2
      obtain ⟨z1, z2, z3, z4⟩ := HZ.out i hlt
      have hib := HB.out i hlt
      have HT := Mx.hid (show (items.take (i + 1)).flatMap itemL = (items.take i).flatMap itemL ++ itemL items[i] by rw [List.take_succ_eq_append_getElem hlt, List.flatMap_append]; simp)
      generalize items[i] = y at *
      obtain ⟨m, nme, hsh⟩ := y
      simp only [itemB, Bool.and_eq_true, decide_eq_true_eq] at hib
      obtain ⟨⟨hm, hn⟩, hv⟩ := hib
      simp only [] at *
      have hsz : nme.size ≤ 64 := by
        simp only [nameB, Bool.and_eq_true, decide_eq_true_eq] at hn
        have := hn.2.2.1
        simpa [bL] using this
      have h9b := putL_9 (show nme.size ≤ 72057594037927936 by omega)
      have hm8 : m % 256 = m := by omega
      have h32 := raw_len hv
      have Hm1 := Mx.hid (show [Value.int .u8 (IntKind.u8.wrap m)] = bs [UInt8.ofNat m.toNat] by
        rw [IntWalk.u8_in m (by omega)]
        show _ = [Value.int .u8 _]
        rw [UInt8.toNat_ofNat']; congr 2; omega)
      have Hv := Mx.hid hv
      have H32 := Mx.hid h32
      clear hn hv h32 hm
      have HNU := Mx.hid (fun wx => rnum_any nme.size wx (by omega))
      have HRA := Mx.hid (fun wx => rraw_any hsh wx z2)
      go_wp2_with fail
      have hsy := (hs.madeAt #[.int .i64 m, .string nme, .string hsh] 104 3 1 wr.heap.size (by rfl) (by simp [maxLen]) rfl).swap
      generalize wr.alloc (.cells #[.int .i64 m, .string nme, .string hsh] 104) = wy at hsy ⊢
      generalize wr.heap.size = gy at hsy ⊢
      have y0 : wy.cell? ⟨gy, 0, none⟩ = some (.int .i64 m) := hsy.rcell (j := 0) (List.mem_cons_of_mem _ (List.mem_cons_self ..)) rfl
      have y1 : wy.cell? ⟨gy, 1, none⟩ = some (.string nme) := hsy.rcell (j := 1) (List.mem_cons_of_mem _ (List.mem_cons_self ..)) rfl
      have y2 : wy.cell? ⟨gy, 2, none⟩ = some (.string hsh) := hsy.rcell (j := 2) (List.mem_cons_of_mem _ (List.mem_cons_self ..)) rfl
      go_region_held3 (fun W => W.cell? ⟨gy, 0, none⟩ = some (.int .i64 m) ∧ W.cell? ⟨gy, 1, none⟩ = some (.string nme) ∧ W.cell? ⟨gy, 2, none⟩ = some (.string hsh)) (first | exact ⟨hsG.rcell (j := 0) (List.mem_cons_of_mem _ (List.mem_cons_self ..)) rfl, hsG.rcell (j := 1) (List.mem_cons_of_mem _ (List.mem_cons_self ..)) rfl, hsG.rcell (j := 2) (List.mem_cons_of_mem _ (List.mem_cons_self ..)) rfl⟩ | exact ⟨hsF.rcell (j := 0) (List.mem_cons_of_mem _ (List.mem_cons_self ..)) rfl, hsF.rcell (j := 1) (List.mem_cons_of_mem _ (List.mem_cons_self ..)) rfl, hsF.rcell (j := 2) (List.mem_cons_of_mem _ (List.mem_cons_self ..)) rfl⟩ | exact ⟨hsP.rcell (j := 0) (List.mem_cons_of_mem _ (List.mem_cons_self ..)) rfl, hsP.rcell (j := 1) (List.mem_cons_of_mem _ (List.mem_cons_self ..)) rfl, hsP.rcell (j := 2) (List.mem_cons_of_mem _ (List.mem_cons_self ..)) rfl⟩ | exact ⟨hsBC.rcell (j := 0) (List.mem_cons_of_mem _ (List.mem_cons_self ..)) rfl, hsBC.rcell (j := 1) (List.mem_cons_of_mem _ (List.mem_cons_self ..)) rfl, hsBC.rcell (j := 2) (List.mem_cons_of_mem _ (List.mem_cons_self ..)) rfl⟩ | exact ⟨hsC.rcell (j := 0) (List.mem_cons_of_mem _ (List.mem_cons_self ..)) rfl, hsC.rcell (j := 1) (List.mem_cons_of_mem _ (List.mem_cons_self ..)) rfl, hsC.rcell (j := 2) (List.mem_cons_of_mem _ (List.mem_cons_self ..)) rfl⟩ | exact ⟨hsA.rcell (j := 0) (List.mem_cons_of_mem _ (List.mem_cons_self ..)) rfl, hsA.rcell (j := 1) (List.mem_cons_of_mem _ (List.mem_cons_self ..)) rfl, hsA.rcell (j := 2) (List.mem_cons_of_mem _ (List.mem_cons_self ..)) rfl⟩ | go_keep) (first
        | (refine step_app_str rfl _ _ 51 9 rfl Tryz.elU8 Tryz.underlying9 (by exact hsF) rfl rfl (by omega) ?_; intro vG wG hsG _)
        | (refine step_app rfl _ _ 51 rfl Tryz.elU8 (by exact hsP) rfl (by exact hsP.q0) (bs_one _) (by omega) ?_; intro vF wF hsF _)
        | (go_at_call 75; have hsA2 := hsA; refine (HNU.out _).mono ?_; rintro e w4 ⟨xv, rfl, hk4⟩; have hsP := (hsA.call1 hk4).freeze; simp only [] at hsP)
        | (refine step_app rfl _ _ 51 rfl Tryz.elU8 (by exact hsBC) rfl (by exact hsBC.q1) (by intro u hu; simp at hu; subst hu; rfl) (by omega) ?_; intro vP wP hsP _)
        | (refine step_app rfl _ _ 51 rfl Tryz.elU8 (by exact hsC.alloc _) rfl (by exact Sl.one _ _ _) (by intro u hu; simp at hu; subst hu; rfl) (by omega) ?_; intro vP wP hsP _)
        | (go_at_call 75; (with_reducible show Calls _ _ _ (World.drew (World.alloc _ _)) _); refine (HNU.out _).mono ?_; rintro e w4 ⟨xv, rfl, hk4⟩; have hsBC := ((hsy.bq (.int .u8 (IntKind.u8.wrap m)) 5).drew.call1 hk4).freeze; simp only [] at hsBC)
        | (go_at_call 75; refine (HNU.out _).mono ?_; rintro e w4 ⟨xv, rfl, hk4⟩; have hsC := (hsy.drew.call1 hk4).freeze; simp only [] at hsC)
        | (refine step_app rfl _ _ 51 rfl Tryz.elU8 (by exact hsy.drew.alloc _) rfl (by exact Sl.one _ _ _) (by intro u hu; simp at hu; subst hu; rfl) (by omega) ?_; intro vA wA hsA _))
      all_goals
        have hsH : St w wG ((⟨vG, 5, 1, (acc ++ [UInt8.ofNat m.toNat] ++ putL nme.size ++ bL nme).length, bs (acc ++ [UInt8.ofNat m.toNat] ++ putL nme.size ++ bL nme)⟩ : Row) :: _) [] := hsG.noQ.cast (by simp [bL]; omega) (by rw [bs_app, bs_app, bs_app, ← Hm1.out]; simp [bL])
        have y3 : wG.cell? ⟨gy, 2, none⟩ = some (.string hsh) := hsH.rcell (j := 2) (List.mem_cons_of_mem _ (List.mem_cons_self ..)) rfl
        have x9 : wG.cell? ⟨gx, 2, none⟩ = some (.slice (some ⟨blk, off, none⟩) items.length i2) := hsH.rcell (j := 2) (List.mem_cons_of_mem _ (List.mem_cons_of_mem _ (List.mem_cons_self ..))) rfl
        have HL2 := Mx.hid (show (acc ++ [UInt8.ofNat m.toNat] ++ putL nme.size ++ bL nme).length ≤ acc.length + 74 by simp [bL]; omega)
        generalize hA2 : acc ++ [UInt8.ofNat m.toNat] ++ putL nme.size ++ bL nme = A2 at *
        have HA2 := Mx.hid hA2
        have hl2 := HL2.out
        have h32 := H32.out
        clear hA2 hsy
        go_wp2_with (first | (go_at_call 76; refine (HRA.out _).mono ?_; rintro e w6 ⟨xw, rfl, hk6⟩; have hs6 := (hsH.call1 hk6).freeze; simp only [] at hs6) | (at_builtin; refine wpl_app rfl _ _ 51 rfl Tryz.elU8 hs6 rfl (by exact hs6.q0) (bs_one _) (by omega) ?_; intro v7 w7 hs7 _))
        refine ⟨⟨i + 1, A2 ++ rawL hsh, by omega, by go_num, by simp; omega, by rw [HT.out, ← HA2.out, He.out]; simp [itemL, Hid], ((hs7.noQ.cast (by simp) (by rw [bs_app])).perm ((List.Perm.swap _ _ _).trans (List.Perm.refl _))).tail⟩, by simp [intOf]; omega⟩
    · have HF := Mx.hid (show encL ⟨2, data, items, tree, parents, stamp, author, msg⟩ = acc by
        rw [HE.out, He.out, List.take_of_length_le (by omega)])
      go_wp2_with fail
      go_ret2
      exact ⟨_, rfl, by rw [HF.out]; exact hs.head⟩
end Go.Proofs.YtloogjdafhjheaaGreat
