/- marlaw6.ObjBack: obj.ID. -/
import Derived.Test.YtobpojlophhfaaaDoorO6C
import Derived.Test.YtobpojlophhfaaaDoorShaH
namespace Go.Mx
open Go Go.RowKit
/-- Cells that are read alone. -/
theorem slCells {w : World} {g n cap size : Nat} {xs : List Value} (h : Sl w size (.slice (some ⟨g, 0, none⟩) n cap) n xs) : ∀ i u, xs[i]? = some u → w.cell? ⟨g, 0 + i, none⟩ = some u := by
  obtain ⟨ao, c, hv, _, _, _, _, hc⟩ := h
  cases hv
  intro i u hu
  obtain ⟨a, ha, hh⟩ := hc i u hu
  cases ha
  rwa [Addr.add_lit] at hh
end Go.Mx
namespace Go.Proofs.YtobpojlophhfaaaDoor
open Go.RowKit Go.Mx

/-- What may be is no longer than memory. -/
theorem obz_enc {y : Ob} (hm : mayB y = true) : OZ y := by
  have h := dec_enc hm
  have hl := enc_len hm
  unfold decO at h
  split at h
  · simp at h
  · next k r he =>
    split at h
    · rw [Prod.mk.injEq] at h
      rw [← h.1]
      exact read_oz _ _ (by rw [he] at hl; simp at hl; omega)
    · simp at h

theorem decBad (v : Value) (l : List UInt8) (w : World) (hv : Sl w 1 v l.length (bs l)) (hl : l.length ≤ 1000000000) {er : Int} (h : decO l = (noOb, er)) :
    Calls Tryd.prog 15 #[v] w fun e w' => ∃ a b c d a' b', e = .returned (.tuple #[.agg #[.int .i64 0, .slice a 0 b, .slice c 0 d, .string (str []), .slice a' 0 b', .int .i64 0, .int .i64 0, .string (str [])], .int .i64 er]) ∧ St w w' [] [] :=
  (decode_any v l w hv hl).mono fun e w' ⟨dv, iv, pv, he, hs⟩ => by
    rw [h] at he hs
    obtain ⟨a, b, rfl, _⟩ := hs.sl0
    obtain ⟨c, d, rfl, _⟩ := hs.sl1
    obtain ⟨a', b', rfl, _⟩ := hs.sl2
    exact ⟨a, b, c, d, a', b', he, hs.bare⟩

theorem decGood {w0 w : World} {R : List Row} {Q : List Rd} (v : Value) (o : Ob) (hs : St w0 w R Q) (hv : Sl w 1 v (encL o).length (bs (encL o))) (hm : mayB o = true) :
    Calls Tryd.prog 15 #[v] w fun e w' => ∃ da dc ia ic pa pc, e = .returned (.tuple #[OV (.slice da o.data.length dc) (.slice ia o.items.length ic) (.slice pa o.parents.length pc) o, .int .i64 0]) ∧ St w0 w' (obR (.slice da o.data.length dc) (.slice ia o.items.length ic) (.slice pa o.parents.length pc) o ++ R) Q :=
  (decode_any v (encL o) w hv (by have := enc_len hm; omega)).mono fun e w' ⟨dv, iv, pv, he, h⟩ => by
    rw [dec_enc hm] at he h
    obtain ⟨da, dc, rfl, _⟩ := h.sl0
    obtain ⟨ia, ic, rfl, _⟩ := h.sl1
    obtain ⟨pa, pc, rfl, _⟩ := h.sl2
    exact ⟨da, dc, ia, ic, pa, pc, he, hs.call h⟩

set_option maxRecDepth 100000 in
set_option maxHeartbeats 1000000 in
theorem id_yes {dv iv pv : Value} {o : Ob} {w : World} (h : OB w dv iv pv o) (hz : OZ o) (hL : ∀ w', St w w' [] [] → Laid w') (hm : mayB o = true) :
    Calls Tryd.prog 13 #[OV dv iv pv o] w fun e w' => e = .returned (.tuple #[.string (str (hexL (sha (encL o)))), .int .i64 0]) ∧ St w w' [] [] := by
  have HY := Mx.hid (fun wx (hs : St w wx [] []) => enc_yes (OB.old hs h) hz hm)
  have HI := Mx.hid (fun wx v (hs : St w wx [] []) (hv : Sl wx 1 v (encL o).length (bs (encL o))) => id_any v (encL o) wx hv (by have := enc_len hm; omega) (fun w' h' => hL w' (hs.call0 h')))
  obtain ⟨d1, d2, rfl, g1, g2, _⟩ := h.d
  obtain ⟨i1, i2, rfl, g3, g4, _⟩ := h.i
  obtain ⟨p1, p2, rfl, g5, g6, _⟩ := h.p
  clear h hz hm
  generalize encL o = b at *
  obtain ⟨kind, data, items, tree, parents, stamp, author, msg⟩ := o
  simp only [OV] at *
  go_enter Tryd.func13, Tryd.ntmps13
  go_wp2_with (first | (((with_reducible show wpList _ _ _ _ _ _); refine wpl_box rfl 26 _ rfl (St.refl w) ([.int .i64 kind, .slice d1 data.length d2, .slice i1 items.length i2, .string tree, .slice p1 parents.length p2, .int .i64 stamp, .int .i64 author, .string msg]) (by rfl) ?_; intro gx wx hsx); (have x0 := hsx.cell (j := 0) rfl; have x1 := hsx.cell (j := 1) rfl; have x2 := hsx.cell (j := 2) rfl; have x3 := hsx.cell (j := 3) rfl; have x4 := hsx.cell (j := 4) rfl; have x5 := hsx.cell (j := 5) rfl; have x6 := hsx.cell (j := 6) rfl; have x7 := hsx.cell (j := 7) rfl)) | ((with_reducible show wpList _ _ _ _ _ _); refine wpl_loadA rfl 26 _ rfl Tryd.aObj (gx) (0) rfl ([.int .i64 kind, .slice d1 data.length d2, .slice i1 items.length i2, .string tree, .slice p1 parents.length p2, .int .i64 stamp, .int .i64 author, .string msg]) rfl (fun i u h => by rw [Nat.zero_add]; exact hsx.rcell (List.mem_cons_self ..) h) ?_) | (go_at_call 12; refine (HY.out _ hsx.bare).mono ?_; rintro e w2 ⟨vb, rfl, hk⟩; have hs2 := hsx.call1 hk) | (go_at_call 17; refine (HI.out _ _ hs2.bare hs2.sl0).mono ?_; rintro e w3 ⟨rfl, hk3⟩; have hs3 := hs2.bare.call0 hk3))
  go_ret2
  exact ⟨rfl, hs3⟩

set_option maxRecDepth 100000 in
set_option maxHeartbeats 1000000 in
theorem id_no {dv iv pv : Value} {o : Ob} {w : World} (h : OB w dv iv pv o) (hz : OZ o) (hm : mayB o = false) :
    Calls Tryd.prog 13 #[OV dv iv pv o] w fun e w' => e = .returned (.tuple #[.string (str []), .int .i64 1]) ∧ St w w' [] [] := by
  have HN := Mx.hid (fun wx (hs : St w wx [] []) => enc_no (OB.old hs h) hz hm)
  obtain ⟨d1, d2, rfl, g1, g2, _⟩ := h.d
  obtain ⟨i1, i2, rfl, g3, g4, _⟩ := h.i
  obtain ⟨p1, p2, rfl, g5, g6, _⟩ := h.p
  clear h hz hm
  obtain ⟨kind, data, items, tree, parents, stamp, author, msg⟩ := o
  simp only [OV] at *
  go_enter Tryd.func13, Tryd.ntmps13
  go_wp2_with (first | (((with_reducible show wpList _ _ _ _ _ _); refine wpl_box rfl 26 _ rfl (St.refl w) ([.int .i64 kind, .slice d1 data.length d2, .slice i1 items.length i2, .string tree, .slice p1 parents.length p2, .int .i64 stamp, .int .i64 author, .string msg]) (by rfl) ?_; intro gx wx hsx); (have x0 := hsx.cell (j := 0) rfl; have x1 := hsx.cell (j := 1) rfl; have x2 := hsx.cell (j := 2) rfl; have x3 := hsx.cell (j := 3) rfl; have x4 := hsx.cell (j := 4) rfl; have x5 := hsx.cell (j := 5) rfl; have x6 := hsx.cell (j := 6) rfl; have x7 := hsx.cell (j := 7) rfl)) | ((with_reducible show wpList _ _ _ _ _ _); refine wpl_loadA rfl 26 _ rfl Tryd.aObj (gx) (0) rfl ([.int .i64 kind, .slice d1 data.length d2, .slice i1 items.length i2, .string tree, .slice p1 parents.length p2, .int .i64 stamp, .int .i64 author, .string msg]) rfl (fun i u h => by rw [Nat.zero_add]; exact hsx.rcell (List.mem_cons_self ..) h) ?_) | (go_at_call 12; refine (HN.out _ hsx.bare).mono ?_; rintro e w2 ⟨rfl, hk⟩; have hs2 := hsx.call0 hk))
  go_ret2
  exact ⟨rfl, hs2.bare⟩
end Go.Proofs.YtobpojlophhfaaaDoor
