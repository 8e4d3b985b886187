/- Walk of the law's Plain: a message, for the document. -/
import Derived.Test.YtloogjdafhjheaaDoorJHPmR
namespace Go.Proofs.YtloogjdafhjheaaDoor
open Go.RowKit Go.Mx
set_option maxRecDepth 100000 in
theorem plain_any (iv dv : Value) (m : Ms) (w : World) (h : MB w iv dv m) :
    Calls Tryd.prog 10 #[MV iv dv m] w fun e w' => e = .returned (MV iv dv m) ∧ St w w' [] [] := by
  obtain ⟨kind, seq, n, mm, ids, data⟩ := m
  have hi := h.i
  have hd := h.d
  obtain ⟨io, ic, rfl, -⟩ := hi.form
  obtain ⟨dq, dc, rfl, -⟩ := hd.form
  simp only [MV]
  clear h hi hd
  go_enter Tryd.func10, Tryd.ntmps10
  go_upto_region 1 with (((with_reducible show wpList _ _ _ _ _ _); refine wpl_box rfl 25 _ rfl (St.refl w) ([.int .i64 kind, .int .i64 seq, .int .i64 n, .int .i64 mm, .slice io ids.length ic, .slice dq data.length dc]) (by rfl) ?_; intro gx wx hsx))
  have hs0 := hsx.madeAt #[.int .i64 0, .int .i64 0, .int .i64 0, .int .i64 0, .slice none 0 0, .slice none 0 0] 32 6 1 _ rfl (by simp [maxLen]) rfl
  change Code.wp _ _ _ _ (wx.alloc (.cells #[.int .i64 0, .int .i64 0, .int .i64 0, .int .i64 0, .slice none 0 0, .slice none 0 0] 32))
  change St w (wx.alloc (.cells #[.int .i64 0, .int .i64 0, .int .i64 0, .int .i64 0, .slice none 0 0, .slice none 0 0] 32)) _ _ at hs0
  generalize wx.alloc (.cells #[.int .i64 0, .int .i64 0, .int .i64 0, .int .i64 0, .slice none 0 0, .slice none 0 0] 32) = w1 at hs0 ⊢
  generalize wx.heap.size = gR at hs0 ⊢
  have x0 := hs0.rcell (List.mem_cons_of_mem _ (List.mem_cons_self ..)) (j := 0) rfl
  have x1 := hs0.rcell (List.mem_cons_of_mem _ (List.mem_cons_self ..)) (j := 1) rfl
  have x2 := hs0.rcell (List.mem_cons_of_mem _ (List.mem_cons_self ..)) (j := 2) rfl
  have x3 := hs0.rcell (List.mem_cons_of_mem _ (List.mem_cons_self ..)) (j := 3) rfl
  have x4 := hs0.rcell (List.mem_cons_of_mem _ (List.mem_cons_self ..)) (j := 4) rfl
  have x5 := hs0.rcell (List.mem_cons_of_mem _ (List.mem_cons_self ..)) (j := 5) rfl
  go_wp2_with ((with_reducible show wpList _ _ _ _ _ _); refine wpl_storeA rfl 32 _ _ rfl Tryd.aMsgR hs0 (0) rfl ([.int .i64 kind, .int .i64 seq, .int .i64 n, .int .i64 mm, .slice io ids.length ic, .slice dq data.length dc]) rfl (by rfl) (by simp) (by intro u hu; simp at hu; rcases hu with rfl | rfl | rfl | rfl | rfl | rfl <;> rfl) ?_; intro w9 hs9)
  replace hs9 := hs9.cast rfl (show _ = [.int .i64 kind, .int .i64 seq, .int .i64 n, .int .i64 mm, .slice io ids.length ic, .slice dq data.length dc] by simp)
  have hcw : ∀ i u, ([.int .i64 kind, .int .i64 seq, .int .i64 n, .int .i64 mm, .slice io ids.length ic, .slice dq data.length dc] : List Value)[i]? = some u → w9.cell? ⟨gR, i, none⟩ = some u := fun i u h => hs9.rcell (List.mem_cons_self ..) h
  refine bodyPost_ret (v := .agg ([.int .i64 kind, .int .i64 seq, .int .i64 n, .int .i64 mm, .slice io ids.length ic, .slice dq data.length dc] : List Value).toArray) (results_cellA Tryd.results10 _ Tryd.aMsgR (g := gR) [.int .i64 kind, .int .i64 seq, .int .i64 n, .int .i64 mm, .slice io ids.length ic, .slice dq data.length dc] ?_ rfl hcw) ?_ ?_
  · first | (simp; done) | simp [Act.put]
  · first | (simp; done) | simp [Act.put]
  · exact ⟨rfl, hs9.bare⟩
end Go.Proofs.YtloogjdafhjheaaDoor
