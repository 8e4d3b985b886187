/- Walks of the document's Refs. -/
import Derived.Test.YtlfdnlomlbbicaaJIR6R
import Derived.Test.YtlfdnlomlbbicaaObjW
namespace Go.Proofs.Ytlfdnlomlbbicaa
open Go.RowKit Go.Mx

set_option maxRecDepth 100000 in
set_option maxHeartbeats 2000000 in
theorem rrefs_any (dv iv pv : Value) (o : Ob) (w : World) (h : OB w dv iv pv o) (hi : o.items.length ≤ 4294967296) (hp : o.parents.length ≤ 4294967296) :
    Calls Try.prog 22 #[OV dv iv pv o] w (RefsPost w o) := by
  obtain ⟨d1, d2, rfl, g1, g2, _⟩ := h.d
  obtain ⟨i1, i2, blk, off, hiv, g3, g4, hc⟩ := itm_cells h.i
  subst hiv
  have HP := Mx.hid h.p
  obtain ⟨p1, p2, rfl, g5, g6, _⟩ := h.p
  have HC := Mx.hid hc
  clear hc h
  obtain ⟨kind, data, items, tree, parents, stamp, author, msg⟩ := o
  simp only [OV] at *
  by_cases k2 : kind = 2
  · subst k2
    have HF := Mx.hid (show refsL ⟨2, data, items, tree, parents, stamp, author, msg⟩ = items.map (fun x => x.2.2) by unfold refsL; rw [if_pos rfl])
    go_enter Try.func22, Try.ntmps22
    go_wp2_with (first | (((with_reducible show wpList _ _ _ _ _ _); refine wpl_box rfl 35 _ rfl (St.refl w) ([.int .i64 2, .slice d1 data.length d2, .slice i1 items.length i2, .string tree, .slice p1 parents.length p2, .int .i64 stamp, .int .i64 author, .string msg]) (by rfl) ?_; intro gx wx hsx); (have x0 := hsx.cell (j := 0) rfl; have x1 := hsx.cell (j := 1) rfl; have x2 := hsx.cell (j := 2) rfl; have x3 := hsx.cell (j := 3) rfl; have x4 := hsx.cell (j := 4) rfl; have x5 := hsx.cell (j := 5) rfl; have x6 := hsx.cell (j := 6) rfl; have x7 := hsx.cell (j := 7) rfl)) | fail)
    go_loopw [3, 4] (fun x y wr => ∃ i : Nat, i ≤ items.length ∧ y = .int .i64 i ∧ St w wr [⟨x, 9, 1, i, ss ((items.take i).map (fun x => x.2.2))⟩, (⟨.slice (some ⟨gx, 0, none⟩) 1 1, 35, 8, 1, [.int .i64 2, .slice d1 data.length d2, .slice i1 items.length i2, .string tree, .slice p1 parents.length p2, .int .i64 stamp, .int .i64 author, .string msg]⟩ : Row)] []) (fun _ y _ => items.length - (intOf y).toNat)
    case atStart => exact ⟨0, by omega, rfl, (hsx.addNil _ _)⟩
    case round =>
      obtain ⟨i, hi, rfl, hs⟩ := hrel
      have c9 := hs.rcell (j := 2) (List.mem_cons_of_mem _ (List.mem_cons_self ..)) rfl
      by_cases hlt : i < items.length
      · obtain ⟨rfl, c0, c1, c2⟩ := HC.out i hlt
        have c0 := hs.keep c0
        have c1 := hs.keep c1
        have c2 := hs.keep c2
        have HT := Mx.hid (show (items.take (i + 1)).map (fun x : Itm => x.2.2) = (items.take i).map (fun x => x.2.2) ++ [items[i].2.2] by rw [List.take_succ_eq_append_getElem hlt, List.map_append]; rfl)
        generalize items[i] = y at *
        obtain ⟨m, nme, hsh⟩ := y
        simp only [] at *
        go_wp2_with (first | ((with_reducible show wpList _ _ _ _ _ _); refine wpl_lit1 rfl 24 _ rfl Try.elStr hs (.string hsh) (by rfl) (by rfl) ?_; intro gl w3 hs3) | (at_builtin; refine wpl_app rfl _ _ 24 rfl Try.elStr hs3.swap rfl (by exact hs3.sl0) (by intro u hu; simp at hu; subst hu; rfl) (by omega) ?_; intro v4 w4 hs4 _))
        go_roundw
        case rel => exact ⟨i + 1, by omega, by go_num, by rw [HT.out, ss_app]; exact hs4.swap.tail.cast rfl rfl⟩
        case measure => simp [intOf]; omega
      · go_wp2_with fail
        go_ret
        exact ⟨_, rfl, by rw [HF.out]; have := hs.head; rw [List.take_of_length_le (by omega)] at this; exact this.cast (by simp; omega) rfl⟩
  · by_cases k3 : kind = 3
    · subst k3
      have HF := Mx.hid (show refsL ⟨3, data, items, tree, parents, stamp, author, msg⟩ = tree :: parents by unfold refsL; rw [if_neg (show ¬ (3 : Int) = 2 by decide), if_pos rfl])
      clear k2
      go_enter Try.func22, Try.ntmps22
      go_wp2_with (first | (((with_reducible show wpList _ _ _ _ _ _); refine wpl_box rfl 35 _ rfl (St.refl w) ([.int .i64 3, .slice d1 data.length d2, .slice i1 items.length i2, .string tree, .slice p1 parents.length p2, .int .i64 stamp, .int .i64 author, .string msg]) (by rfl) ?_; intro gx wx hsx); (have x0 := hsx.cell (j := 0) rfl; have x1 := hsx.cell (j := 1) rfl; have x2 := hsx.cell (j := 2) rfl; have x3 := hsx.cell (j := 3) rfl; have x4 := hsx.cell (j := 4) rfl; have x5 := hsx.cell (j := 5) rfl; have x6 := hsx.cell (j := 6) rfl; have x7 := hsx.cell (j := 7) rfl)) | ((with_reducible show wpList _ _ _ _ _ _); refine wpl_lit1 rfl 24 _ rfl Try.elStr hsx (.string tree) (by rfl) (by rfl) ?_; intro gl w3 hs3); have x4 := hs3.rcell (j := 4) (List.mem_cons_of_mem _ (List.mem_cons_self ..)) rfl | (at_builtin; refine wpl_app rfl _ _ 24 rfl Try.elStr hs3 rfl (by exact hs3.old HP.out) (ss_one _) (by omega) ?_; intro v4 w4 hs4 _))
      go_ret
      exact ⟨_, rfl, by rw [HF.out]; exact hs4.head.cast (by simp; omega) rfl⟩
    · have HF := Mx.hid (show refsL ⟨kind, data, items, tree, parents, stamp, author, msg⟩ = [] by unfold refsL; rw [if_neg k2, if_neg k3])
      have q2 : (kind == 2) = false := by simpa using k2
      have q3 : (kind == 3) = false := by simpa using k3
      clear k2 k3
      go_enter Try.func22, Try.ntmps22
      go_wp2_with (first | (((with_reducible show wpList _ _ _ _ _ _); refine wpl_box rfl 35 _ rfl (St.refl w) ([.int .i64 kind, .slice d1 data.length d2, .slice i1 items.length i2, .string tree, .slice p1 parents.length p2, .int .i64 stamp, .int .i64 author, .string msg]) (by rfl) ?_; intro gx wx hsx); (have x0 := hsx.cell (j := 0) rfl; have x1 := hsx.cell (j := 1) rfl; have x2 := hsx.cell (j := 2) rfl; have x3 := hsx.cell (j := 3) rfl; have x4 := hsx.cell (j := 4) rfl; have x5 := hsx.cell (j := 5) rfl; have x6 := hsx.cell (j := 6) rfl; have x7 := hsx.cell (j := 7) rfl)) | fail)
      go_ret
      exact ⟨_, rfl, by rw [HF.out]; exact hsx.bare.addNil _ _⟩

end Go.Proofs.Ytlfdnlomlbbicaa
