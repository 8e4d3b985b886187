/- Walks of the document's Refs. The walk of the law's Plain. -/
import Derived.Test.YtlfdnlomlbbicaaR6D
import Derived.Test.YtlfdnlomlbbicaaObjW
namespace Go.Proofs.Ytlfdnlomlbbicaa
open Go.RowKit Go.Mx

set_option maxRecDepth 100000 in
set_option maxHeartbeats 2000000 in
theorem rrefs_any (dv iv pv : Value) (o : Ob) (w : World) (h : OB w dv iv pv o) (hi : o.items.length ≤ 4294967296) (hp : o.parents.length ≤ 4294967296) :
    Calls Try.prog 22 #[OV dv iv pv o] w (RefsPost w o) := by
  obtain ⟨d1, d2, rfl, g1, g2, _⟩ := h.d
  obtain ⟨i1, i2, blk, off, hiv, g3, g4, hc⟩ := itm_cells h.i
  subst hiv
  have HP := Mx.hid h.p
  obtain ⟨p1, p2, rfl, g5, g6, _⟩ := h.p
  have HC := Mx.hid hc
  clear hc h
  obtain ⟨kind, data, items, tree, parents, stamp, author, msg⟩ := o
  simp only [OV] at *
  by_cases k2 : kind = 2
  · subst k2
    have HF := Mx.hid (show refsL ⟨2, data, items, tree, parents, stamp, author, msg⟩ = items.map (fun x => x.2.2) by unfold refsL; rw [if_pos rfl])
    go_enter Try.func22, Try.ntmps22
    go_wp2_with (first | (((with_reducible show wpList _ _ _ _ _ _); refine wpl_box rfl 35 _ rfl (St.refl w) ([.int .i64 2, .slice d1 data.length d2, .slice i1 items.length i2, .string tree, .slice p1 parents.length p2, .int .i64 stamp, .int .i64 author, .string msg]) (by rfl) ?_; intro gx wx hsx); (have x0 := hsx.cell (j := 0) rfl; have x1 := hsx.cell (j := 1) rfl; have x2 := hsx.cell (j := 2) rfl; have x3 := hsx.cell (j := 3) rfl; have x4 := hsx.cell (j := 4) rfl; have x5 := hsx.cell (j := 5) rfl; have x6 := hsx.cell (j := 6) rfl; have x7 := hsx.cell (j := 7) rfl)) | fail)
    go_loopw [3, 4] (fun x y wr => ∃ i : Nat, i ≤ items.length ∧ y = .int .i64 i ∧ St w wr [⟨x, 9, 1, i, ss ((items.take i).map (fun x => x.2.2))⟩, (⟨.slice (some ⟨gx, 0, none⟩) 1 1, 35, 8, 1, [.int .i64 2, .slice d1 data.length d2, .slice i1 items.length i2, .string tree, .slice p1 parents.length p2, .int .i64 stamp, .int .i64 author, .string msg]⟩ : Row)] []) (fun _ y _ => items.length - (intOf y).toNat)
    case atStart => exact ⟨0, by omega, rfl, (hsx.addNil _ _)⟩
    case round =>
      obtain ⟨i, hi, rfl, hs⟩ := hrel
      have c9 := hs.rcell (j := 2) (List.mem_cons_of_mem _ (List.mem_cons_self ..)) rfl
      by_cases hlt : i < items.length
      · obtain ⟨rfl, c0, c1, c2⟩ := HC.out i hlt
        have c0 := hs.keep c0
        have c1 := hs.keep c1
        have c2 := hs.keep c2
        have HT := Mx.hid (show (items.take (i + 1)).map (fun x : Itm => x.2.2) = (items.take i).map (fun x => x.2.2) ++ [items[i].2.2] by rw [List.take_succ_eq_append_getElem hlt, List.map_append]; rfl)
        generalize items[i] = y at *
        obtain ⟨m, nme, hsh⟩ := y
        simp only [] at *
        go_wp2_with (first | ((with_reducible show wpList _ _ _ _ _ _); refine wpl_lit1 rfl 24 _ rfl Try.elStr hs (.string hsh) (by rfl) (by rfl) ?_; intro gl w3 hs3) | (at_builtin; refine wpl_app rfl _ _ 24 rfl Try.elStr hs3.swap rfl (by exact hs3.sl0) (by intro u hu; simp at hu; subst hu; rfl) (by omega) ?_; intro v4 w4 hs4 _))
        go_roundw
        case rel => exact ⟨i + 1, by omega, by go_num, by rw [HT.out, ss_app]; exact hs4.swap.tail.cast rfl rfl⟩
        case measure => simp [intOf]; omega
      · go_wp2_with fail
        go_ret
        exact ⟨_, rfl, by rw [HF.out]; have := hs.head; rw [List.take_of_length_le (by omega)] at this; exact this.cast (by simp; omega) rfl⟩
  · by_cases k3 : kind = 3
    · subst k3
      have HF := Mx.hid (show refsL ⟨3, data, items, tree, parents, stamp, author, msg⟩ = tree :: parents by unfold refsL; rw [if_neg (show ¬ (3 : Int) = 2 by decide), if_pos rfl])
      clear k2
      go_enter Try.func22, Try.ntmps22
      go_wp2_with (first | (((with_reducible show wpList _ _ _ _ _ _); refine wpl_box rfl 35 _ rfl (St.refl w) ([.int .i64 3, .slice d1 data.length d2, .slice i1 items.length i2, .string tree, .slice p1 parents.length p2, .int .i64 stamp, .int .i64 author, .string msg]) (by rfl) ?_; intro gx wx hsx); (have x0 := hsx.cell (j := 0) rfl; have x1 := hsx.cell (j := 1) rfl; have x2 := hsx.cell (j := 2) rfl; have x3 := hsx.cell (j := 3) rfl; have x4 := hsx.cell (j := 4) rfl; have x5 := hsx.cell (j := 5) rfl; have x6 := hsx.cell (j := 6) rfl; have x7 := hsx.cell (j := 7) rfl)) | ((with_reducible show wpList _ _ _ _ _ _); refine wpl_lit1 rfl 24 _ rfl Try.elStr hsx (.string tree) (by rfl) (by rfl) ?_; intro gl w3 hs3); have x4 := hs3.rcell (j := 4) (List.mem_cons_of_mem _ (List.mem_cons_self ..)) rfl | (at_builtin; refine wpl_app rfl _ _ 24 rfl Try.elStr hs3 rfl (by exact hs3.old HP.out) (ss_one _) (by omega) ?_; intro v4 w4 hs4 _))
      go_ret
      exact ⟨_, rfl, by rw [HF.out]; exact hs4.head.cast (by simp; omega) rfl⟩
    · have HF := Mx.hid (show refsL ⟨kind, data, items, tree, parents, stamp, author, msg⟩ = [] by unfold refsL; rw [if_neg k2, if_neg k3])
      have q2 : (kind == 2) = false := by simpa using k2
      have q3 : (kind == 3) = false := by simpa using k3
      clear k2 k3
      go_enter Try.func22, Try.ntmps22
      go_wp2_with (first | (((with_reducible show wpList _ _ _ _ _ _); refine wpl_box rfl 35 _ rfl (St.refl w) ([.int .i64 kind, .slice d1 data.length d2, .slice i1 items.length i2, .string tree, .slice p1 parents.length p2, .int .i64 stamp, .int .i64 author, .string msg]) (by rfl) ?_; intro gx wx hsx); (have x0 := hsx.cell (j := 0) rfl; have x1 := hsx.cell (j := 1) rfl; have x2 := hsx.cell (j := 2) rfl; have x3 := hsx.cell (j := 3) rfl; have x4 := hsx.cell (j := 4) rfl; have x5 := hsx.cell (j := 5) rfl; have x6 := hsx.cell (j := 6) rfl; have x7 := hsx.cell (j := 7) rfl)) | fail)
      go_ret
      exact ⟨_, rfl, by rw [HF.out]; exact hsx.bare.addNil _ _⟩

end Go.Proofs.Ytlfdnlomlbbicaa

namespace Go.Proofs.Ytlfdnlomlbbicaa
open Go.RowKit Go.Mx

def PlainPost (w : World) (dv pv : Value) (o : Ob) (e : Ending) (w' : World) : Prop := ∃ iv', e = .returned (OV dv iv' pv o) ∧ St w w' [⟨iv', 68, 3, o.items.length, itms o.items⟩] []
set_option maxRecDepth 200000 in
set_option maxHeartbeats 4000000 in
theorem plain_any (dv iv pv : Value) (o : Ob) (w : World) (h : OB w dv iv pv o) (hil : o.items.length ≤ 1000000000000) :
    Calls Try.prog 11 #[OV dv iv pv o] w (PlainPost w dv pv o) := by
  obtain ⟨d1, d2, rfl, g1, g2, _⟩ := h.d
  obtain ⟨i1, i2, blk, off, hiv, g3, g4, hc⟩ := itm_cells h.i
  obtain ⟨p1, p2, rfl, g5, g6, _⟩ := h.p
  subst hiv
  have HC := Mx.hid hc
  clear h hc
  obtain ⟨kind, data, items, tree, parents, stamp, author, msg⟩ := o
  simp only [OV] at *
  go_enter Try.func11, Try.ntmps11
  go_upto_region 1 with (((with_reducible show wpList _ _ _ _ _ _); refine wpl_box rfl 26 _ rfl (St.refl w) ([.int .i64 kind, .slice d1 data.length d2, .slice i1 items.length i2, .string tree, .slice p1 parents.length p2, .int .i64 stamp, .int .i64 author, .string msg]) (by rfl) ?_; intro gx wx hsx))
  have hz := hsx.madeAt ([.int .i64 (0), .slice none 0 0, .slice none 0 0, .string (str []), .slice none 0 0, .int .i64 (0), .int .i64 (0), .string (str [])]).toArray 35 8 1 wx.heap.size rfl (by simp [maxLen]) rfl
  change Code.wp _ _ _ _ (wx.alloc (.cells ([.int .i64 (0), .slice none 0 0, .slice none 0 0, .string (str []), .slice none 0 0, .int .i64 (0), .int .i64 (0), .string (str [])]).toArray 35))
  generalize wx.alloc (.cells ([.int .i64 (0), .slice none 0 0, .slice none 0 0, .string (str []), .slice none 0 0, .int .i64 (0), .int .i64 (0), .string (str [])]).toArray 35) = wz at hz ⊢
  generalize wx.heap.size = gz at hz ⊢
  have z0 := hz.rcell (j := 0) (List.mem_cons_of_mem _ (List.mem_cons_self ..)) rfl
  have z1 := hz.rcell (j := 1) (List.mem_cons_of_mem _ (List.mem_cons_self ..)) rfl
  have z2 := hz.rcell (j := 2) (List.mem_cons_of_mem _ (List.mem_cons_self ..)) rfl
  have z3 := hz.rcell (j := 3) (List.mem_cons_of_mem _ (List.mem_cons_self ..)) rfl
  have z4 := hz.rcell (j := 4) (List.mem_cons_of_mem _ (List.mem_cons_self ..)) rfl
  have z5 := hz.rcell (j := 5) (List.mem_cons_of_mem _ (List.mem_cons_self ..)) rfl
  have z6 := hz.rcell (j := 6) (List.mem_cons_of_mem _ (List.mem_cons_self ..)) rfl
  have z7 := hz.rcell (j := 7) (List.mem_cons_of_mem _ (List.mem_cons_self ..)) rfl
  go_wp2_with (((with_reducible show wpList _ _ _ _ _ _); refine wpl_storeA rfl 35 _ _ rfl Try.aObj6 (hz.madeAt ([.int .i64 (0), .slice none 0 0, .slice none 0 0, .string (str []), .slice none 0 0, .int .i64 (0), .int .i64 (0), .string (str [])]).toArray 35 8 1 _ rfl (by simp [maxLen]) rfl) (0) rfl ([.int .i64 (kind), .slice d1 data.length d2, .slice none 0 0, .string (tree), .slice p1 parents.length p2, .int .i64 (stamp), .int .i64 (author), .string (msg)]) rfl (by rfl) (by simp) (by intro u hu; simp at hu; rcases hu with rfl | rfl | rfl | rfl | rfl | rfl | rfl | rfl <;> rfl) ?_; intro w4 hs4))
  have hs5 : St w w4 [⟨.slice none 0 0, 68, 3, 0, []⟩, (⟨.slice (some ⟨wz.heap.size, 0, none⟩) 1 1, 35, 8, 1, [.int .i64 (kind), .slice d1 data.length d2, .slice none 0 0, .string (tree), .slice p1 parents.length p2, .int .i64 (stamp), .int .i64 (author), .string (msg)]⟩ : Row), (⟨.slice (some ⟨gz, 0, none⟩) 1 1, 35, 8, 1, [.int .i64 (0), .slice none 0 0, .slice none 0 0, .string (str []), .slice none 0 0, .int .i64 (0), .int .i64 (0), .string (str [])]⟩ : Row), (⟨.slice (some ⟨gx, 0, none⟩) 1 1, 26, 8, 1, [.int .i64 kind, .slice d1 data.length d2, .slice i1 items.length i2, .string tree, .slice p1 parents.length p2, .int .i64 stamp, .int .i64 author, .string msg]⟩ : Row)] [] := (hs4.cast rfl (show _ = [.int .i64 (kind), .slice d1 data.length d2, .slice none 0 0, .string (tree), .slice p1 parents.length p2, .int .i64 (stamp), .int .i64 (author), .string (msg)] by simp)).addNil 68 3
  clear z0 z1 z2 z3 z4 z5 z6 z7 hs4 hz hsx
  generalize wz.heap.size = gp at *
  go_loopw [4] (fun y wr => ∃ (i : Nat) (iv : Value), y = .int .i64 i ∧ i ≤ items.length ∧ St w wr [⟨iv, 68, 3, i, itms (items.take i)⟩, (⟨.slice (some ⟨gp, 0, none⟩) 1 1, 35, 8, 1, [.int .i64 (kind), .slice d1 data.length d2, iv, .string (tree), .slice p1 parents.length p2, .int .i64 (stamp), .int .i64 (author), .string (msg)]⟩ : Row), (⟨.slice (some ⟨gz, 0, none⟩) 1 1, 35, 8, 1, [.int .i64 (0), .slice none 0 0, .slice none 0 0, .string (str []), .slice none 0 0, .int .i64 (0), .int .i64 (0), .string (str [])]⟩ : Row), (⟨.slice (some ⟨gx, 0, none⟩) 1 1, 26, 8, 1, [.int .i64 kind, .slice d1 data.length d2, .slice i1 items.length i2, .string tree, .slice p1 parents.length p2, .int .i64 stamp, .int .i64 author, .string msg]⟩ : Row)] []) (fun y _ => items.length - (intOf y).toNat)
  case atStart => exact ⟨0, _, rfl, by omega, hs5⟩
  case round =>
    clear hs5
    obtain ⟨i, iv, rfl, hi, hs⟩ := hrel
    have c9 := hs.rcell (j := 2) (List.mem_cons_of_mem _ (List.mem_cons_of_mem _ (List.mem_cons_of_mem _ (List.mem_cons_self ..)))) rfl
    by_cases hlt : i < items.length
    · obtain ⟨rfl, c0, c1, c2⟩ := HC.out i hlt
      have HK := Mx.hid (fun (wx : World) (R : List Row) (Q : List Rd) (h : St w wx R Q) => And.intro (h.keep c0) (And.intro (h.keep c1) (h.keep c2)))
      have HT := Mx.hid (show itms (items.take (i + 1)) = itms (items.take i) ++ itmRow items[i] by rw [List.take_succ_eq_append_getElem hlt, itms_app]; simp [itms])
      have hii : (i : Int) < (items.length : Int) := by omega
      clear c0 c1 c2
      generalize items[i] = y at *
      obtain ⟨m, nme, hsh⟩ := y
      simp only [] at HK
      go_wp2_with fail
      (refine wp_region_S (23) (fun W' => (W'.cell? ⟨gp, 2, none⟩ = some iv ∧ W'.cell? ⟨gx, 2, none⟩ = some (.slice (some ⟨blk, off, none⟩) items.length i2)) ∧ W'.cell? ⟨blk, off + i * 3, none⟩ = some (.int .i64 m) ∧ W'.cell? ⟨blk, off + i * 3 + 1, none⟩ = some (.string nme) ∧ W'.cell? ⟨blk, off + i * 3 + 2, none⟩ = some (.string hsh)) (by kernel_rfl) ?_ (fun hHeld => ?_); (focus ((try dsimp only); exact ⟨⟨hs.drew.rcell (j := 2) (List.mem_cons_of_mem _ (List.mem_cons_self ..)) rfl, hs.drew.rcell (j := 2) (List.mem_cons_of_mem _ (List.mem_cons_of_mem _ (List.mem_cons_of_mem _ (List.mem_cons_self ..)))) rfl⟩, HK.out _ _ _ hs.drew⟩)))
      (refine wpAnyS_takeL (i := 0) (v := ?_) rfl (by kernel_rfl) (by kernel_rfl) (by kernel_rfl) (by kernel_rfl) (by kernel_rfl) (by kernel_rfl) (fun _ _ _ h => h) (Or.inl ⟨by rfl, ?_⟩) hHeld ?_; rotate_left 1; (focus (intro w' hSw; (try dsimp only at hSw); go_simp; (try with_reducible rfl))); (try simp only [Act.put, List.setIfInBounds_toArray, List.set_cons_zero, List.set_cons_succ]))
      (refine wpAnyS_takeL (i := 1) (v := ?_) rfl (by kernel_rfl) (by kernel_rfl) (by kernel_rfl) (by kernel_rfl) (by kernel_rfl) (by kernel_rfl) (fun _ _ _ h => h) (Or.inl ⟨by rfl, ?_⟩) hHeld ?_; rotate_left 1; (focus (intro w' hSw; (try dsimp only at hSw); go_simp; (try with_reducible rfl))); (try simp only [Act.put, List.setIfInBounds_toArray, List.set_cons_zero, List.set_cons_succ]))
      (refine wpAnyS_takeL (i := 2) (v := ?_) rfl (by kernel_rfl) (by kernel_rfl) (by kernel_rfl) (by kernel_rfl) (by kernel_rfl) (by kernel_rfl) (fun _ _ _ h => h) (Or.inl ⟨by rfl, ?_⟩) hHeld ?_; rotate_left 1; (focus (intro w' hSw; (try dsimp only at hSw); go_simp; (try with_reducible rfl))); (try simp only [Act.put, List.setIfInBounds_toArray, List.set_cons_zero, List.set_cons_succ]))
      (refine wpAnyS_takeL (i := 3) (v := ?_) rfl (by kernel_rfl) (by kernel_rfl) (by kernel_rfl) (by kernel_rfl) (by kernel_rfl) (by kernel_rfl) (fun _ _ _ h => h) (Or.inl ⟨by rfl, ?_⟩) hHeld ?_; rotate_left 1; (focus (intro w' hSw; (try dsimp only at hSw); go_simp; (try with_reducible rfl))); (try simp only [Act.put, List.setIfInBounds_toArray, List.set_cons_zero, List.set_cons_succ]))
      (refine wpAnyS_takeL (i := 4) (v := ?_) rfl (by kernel_rfl) (by kernel_rfl) (by kernel_rfl) (by kernel_rfl) (by kernel_rfl) (by kernel_rfl) (fun _ _ _ h => h) (Or.inl ⟨by rfl, ?_⟩) hHeld ?_; rotate_left 1; (focus (intro w' hSw; (try dsimp only at hSw); go_simp; (try with_reducible rfl))); (try simp only [Act.put, List.setIfInBounds_toArray, List.set_cons_zero, List.set_cons_succ]))
      (refine wpAnyS_takeL (i := 5) (v := ?_) rfl (by kernel_rfl) (by kernel_rfl) (by kernel_rfl) (by kernel_rfl) (by kernel_rfl) (by kernel_rfl) (fun _ _ _ h => h) (Or.inl ⟨by rfl, ?_⟩) hHeld ?_; rotate_left 1; (focus (intro w' hSw; (try dsimp only at hSw); go_simp; (try with_reducible rfl))); (try simp only [Act.put, List.setIfInBounds_toArray, List.set_cons_zero, List.set_cons_succ]))
      (refine wpAnyS_takeL (i := 6) (v := ?_) rfl (by kernel_rfl) (by kernel_rfl) (by kernel_rfl) (by kernel_rfl) (by kernel_rfl) (by kernel_rfl) (fun _ _ _ h => h) (Or.inl ⟨by rfl, ?_⟩) hHeld ?_; rotate_left 1; (focus (intro w' hSw; (try dsimp only at hSw); go_simp; (try with_reducible rfl))); (try simp only [Act.put, List.setIfInBounds_toArray, List.set_cons_zero, List.set_cons_succ]))
      (refine wpAnyS_takeL (i := 7) (v := ?_) rfl (by kernel_rfl) (by kernel_rfl) (by kernel_rfl) (by kernel_rfl) (by kernel_rfl) (by kernel_rfl) (fun _ _ _ h => h) (Or.inl ⟨by rfl, ?_⟩) hHeld ?_; rotate_left 1; (focus (intro w' hSw; (try dsimp only at hSw); go_simp; (try with_reducible rfl))); (try simp only [Act.put, List.setIfInBounds_toArray, List.set_cons_zero, List.set_cons_succ]))
      (refine wpAnyS_takeL (i := 8) (v := ?_) rfl (by kernel_rfl) (by kernel_rfl) (by kernel_rfl) (by kernel_rfl) (by kernel_rfl) (by kernel_rfl) (fun _ _ _ h => h) (Or.inl ⟨by rfl, ?_⟩) hHeld ?_; rotate_left 1; (focus (intro w' hSw; (try dsimp only at hSw); go_simp; (try with_reducible rfl))); (try simp only [Act.put, List.setIfInBounds_toArray, List.set_cons_zero, List.set_cons_succ]))
      (refine wpAnyS_takeL (i := 9) (v := ?_) rfl (by kernel_rfl) (by kernel_rfl) (by kernel_rfl) (by kernel_rfl) (by kernel_rfl) (by kernel_rfl) (fun _ _ _ h => h) (Or.inl ⟨by rfl, ?_⟩) hHeld ?_; rotate_left 1; (focus (intro w' hSw; (try dsimp only at hSw); go_simp; (try with_reducible rfl))); (try simp only [Act.put, List.setIfInBounds_toArray, List.set_cons_zero, List.set_cons_succ]))
      (refine wpAnyS_takeL (i := 10) (v := ?_) rfl (by kernel_rfl) (by kernel_rfl) (by kernel_rfl) (by kernel_rfl) (by kernel_rfl) (by kernel_rfl) (fun _ _ _ h => h) (Or.inl ⟨by rfl, ?_⟩) hHeld ?_; rotate_left 1; (focus (intro w' hSw; (try dsimp only at hSw); go_simp; (try with_reducible rfl))); (try simp only [Act.put, List.setIfInBounds_toArray, List.set_cons_zero, List.set_cons_succ]))
      (refine wpAnyS_takeL (i := 11) (v := ?_) rfl (by kernel_rfl) (by kernel_rfl) (by kernel_rfl) (by kernel_rfl) (by kernel_rfl) (by kernel_rfl) (fun _ _ _ h => h) (Or.inl ⟨by rfl, ?_⟩) hHeld ?_; rotate_left 1; (focus (intro w' hSw; (try dsimp only at hSw); go_simp; (try with_reducible rfl))); (try simp only [Act.put, List.setIfInBounds_toArray, List.set_cons_zero, List.set_cons_succ]))
      (refine wpAnyS_takeL (i := 12) (v := ?_) rfl (by kernel_rfl) (by kernel_rfl) (by kernel_rfl) (by kernel_rfl) (by kernel_rfl) (by kernel_rfl) (fun _ _ _ h => h) (Or.inl ⟨by rfl, ?_⟩) hHeld ?_; rotate_left 1; (focus (intro w' hSw; (try dsimp only at hSw); go_simp; (try with_reducible rfl))); (try simp only [Act.put, List.setIfInBounds_toArray, List.set_cons_zero, List.set_cons_succ]))
      (refine wpAnyS_takeL (i := 13) (v := ?_) rfl (by kernel_rfl) (by kernel_rfl) (by kernel_rfl) (by kernel_rfl) (by kernel_rfl) (by kernel_rfl) (fun _ _ _ h => h) (Or.inl ⟨by rfl, ?_⟩) hHeld ?_; rotate_left 1; (focus (intro w' hSw; (try dsimp only at hSw); go_simp; (try with_reducible rfl))); (try simp only [Act.put, List.setIfInBounds_toArray, List.set_cons_zero, List.set_cons_succ]))
      (refine wpAnyS_takeL (i := 14) (v := ?_) rfl (by kernel_rfl) (by kernel_rfl) (by kernel_rfl) (by kernel_rfl) (by kernel_rfl) (by kernel_rfl) (fun _ _ _ h => h) (Or.inl ⟨by rfl, ?_⟩) hHeld ?_; rotate_left 1; (focus (intro w' hSw; (try dsimp only at hSw); go_simp; (try with_reducible rfl))); (try simp only [Act.put, List.setIfInBounds_toArray, List.set_cons_zero, List.set_cons_succ]))
      (refine wpAnyS_takeL (i := 15) (v := ?_) rfl (by kernel_rfl) (by kernel_rfl) (by kernel_rfl) (by kernel_rfl) (by kernel_rfl) (by kernel_rfl) (fun _ _ _ h => h) (Or.inl ⟨by rfl, ?_⟩) hHeld ?_; rotate_left 1; (focus (intro w' hSw; (try dsimp only at hSw); go_simp; (try with_reducible rfl))); (try simp only [Act.put, List.setIfInBounds_toArray, List.set_cons_zero, List.set_cons_succ]))
      (refine wpAnyS_takeL (i := 16) (v := ?_) rfl (by kernel_rfl) (by kernel_rfl) (by kernel_rfl) (by kernel_rfl) (by kernel_rfl) (by kernel_rfl) (fun _ _ _ h => h) (Or.inl ⟨by rfl, ?_⟩) hHeld ?_; rotate_left 1; (focus (intro w' hSw; (try dsimp only at hSw); go_simp; (try with_reducible rfl))); (try simp only [Act.put, List.setIfInBounds_toArray, List.set_cons_zero, List.set_cons_succ]))
      (refine wpAnyS_takeL (i := 17) (v := ?_) rfl (by kernel_rfl) (by kernel_rfl) (by kernel_rfl) (by kernel_rfl) (by kernel_rfl) (by kernel_rfl) (fun _ _ _ h => h) (Or.inl ⟨by rfl, ?_⟩) hHeld ?_; rotate_left 1; (focus (intro w' hSw; (try dsimp only at hSw); go_simp; (try with_reducible rfl))); (try simp only [Act.put, List.setIfInBounds_toArray, List.set_cons_zero, List.set_cons_succ]))
      (refine wpAnyS_takeL (i := 18) (v := ?_) rfl (by kernel_rfl) (by kernel_rfl) (by kernel_rfl) (by kernel_rfl) (by kernel_rfl) (by kernel_rfl) (fun _ _ _ h => h) (Or.inl ⟨by rfl, ?_⟩) hHeld ?_; rotate_left 1; (focus (intro w' hSw; (try dsimp only at hSw); go_simp; (try with_reducible rfl))); (try simp only [Act.put, List.setIfInBounds_toArray, List.set_cons_zero, List.set_cons_succ]))
      (refine wpAnyS_takeL (i := 19) (v := ?_) rfl (by kernel_rfl) (by kernel_rfl) (by kernel_rfl) (by kernel_rfl) (by kernel_rfl) (by kernel_rfl) (fun _ _ _ h => h) (Or.inl ⟨by rfl, ?_⟩) hHeld ?_; rotate_left 1; (focus (intro w' hSw; (try dsimp only at hSw); go_simp; (try with_reducible rfl))); (try simp only [Act.put, List.setIfInBounds_toArray, List.set_cons_zero, List.set_cons_succ]))
      (refine wpAnyS_takeL (i := 20) (v := ?_) rfl (by kernel_rfl) (by kernel_rfl) (by kernel_rfl) (by kernel_rfl) (by kernel_rfl) (by kernel_rfl) (fun _ _ _ h => h) (Or.inl ⟨by rfl, ?_⟩) hHeld ?_; rotate_left 1; (focus (intro w' hSw; (try dsimp only at hSw); go_simp; (try with_reducible rfl))); (try simp only [Act.put, List.setIfInBounds_toArray, List.set_cons_zero, List.set_cons_succ]))
      (refine wpAnyS_ready (rs := [21]) (by kernel_rfl) (by simp) ?_; refine AllS.consL rfl (fun K hK => ?_) AllS.nil)
      go_simp
      (refine hK.out _ _ ?_ (fun hHeld => ?_); (focus ((try dsimp only); exact ⟨⟨(hs.drew.alloc _).rcell (j := 2) (List.mem_cons_of_mem _ (List.mem_cons_self ..)) rfl, (hs.drew.alloc _).rcell (j := 2) (List.mem_cons_of_mem _ (List.mem_cons_of_mem _ (List.mem_cons_of_mem _ (List.mem_cons_self ..)))) rfl⟩, HK.out _ _ _ (hs.drew.alloc _)⟩)); clear hK K; (try simp only [Act.put, List.setIfInBounds_toArray, List.set_cons_zero, List.set_cons_succ]))
      (refine wpAnyS_ready (rs := [22]) (by kernel_rfl) (by simp) ?_; refine AllS.consL rfl (fun K hK => ?_) AllS.nil)
      refine step_app rfl _ _ 33 rfl Try.elItem6 (by exact hs.drew.alloc _) rfl (by exact Sl.three _ _ _ _ _) (by intro u hu; simp at hu; rcases hu with rfl | rfl | rfl <;> rfl) (by omega) ?_
      intro v8 w8 hs8 _
      obtain ⟨vo, vc, rfl, _⟩ := id hs8.sl0
      (refine hK.out _ _ ?_ (fun hHeld => ?_); (focus ((try dsimp only); exact ⟨⟨hs8.rcell (j := 2) (List.mem_cons_of_mem _ (List.mem_cons_self ..)) rfl, hs8.rcell (j := 2) (List.mem_cons_of_mem _ (List.mem_cons_of_mem _ (List.mem_cons_of_mem _ (List.mem_cons_self ..)))) rfl⟩, HK.out _ _ _ hs8⟩)); clear hK K; (try simp only [Act.put, List.setIfInBounds_toArray, List.set_cons_zero, List.set_cons_succ]))
      (refine wpAnyS_seq (by rfl) (by kernel_rfl) ?_; simp only [List.drop_succ_cons, List.drop_zero])
      go_wp2_with ((with_reducible show wpList _ _ _ _ _ _); refine wpl_store1 rfl 33 _ _ rfl hs8.swap (2) rfl (.slice vo (i + 1) vc) rfl rfl (by kernel_rfl) (by simp) rfl ?_; intro w9 hs9)
      case roundEnd =>
        exact ⟨⟨i + 1, .slice vo (i + 1) vc, by go_num, by omega, (hs9.cast rfl (show _ = [.int .i64 (kind), .slice d1 data.length d2, .slice vo (i + 1) vc, .string (tree), .slice p1 parents.length p2, .int .i64 (stamp), .int .i64 (author), .string (msg)] by simp)).swap.cast rfl (by rw [HT.out]; rfl)⟩, by simp [intOf]; omega⟩
    · obtain rfl : i = items.length := by omega
      rw [List.take_length] at hs
      obtain ⟨vo, vc, rfl, _⟩ := id hs.sl0
      go_wp2_with (first | ((with_reducible show wpList _ _ _ _ _ _); refine wpl_loadA rfl 35 _ rfl Try.aObj6 (gp) (0) rfl ([.int .i64 (kind), .slice d1 data.length d2, .slice vo items.length vc, .string (tree), .slice p1 parents.length p2, .int .i64 (stamp), .int .i64 (author), .string (msg)]) rfl (fun i u h => by rw [Nat.zero_add]; exact hs.rcell (List.mem_cons_of_mem _ (List.mem_cons_self ..)) h) ?_) | ((with_reducible show wpList _ _ _ _ _ _); refine wpl_storeA rfl 35 _ _ rfl Try.aObj6 hs.up2 (0) rfl ([.int .i64 (kind), .slice d1 data.length d2, .slice vo items.length vc, .string (tree), .slice p1 parents.length p2, .int .i64 (stamp), .int .i64 (author), .string (msg)]) rfl (by rfl) (by simp) (by intro u hu; simp at hu; rcases hu with rfl | rfl | rfl | rfl | rfl | rfl | rfl | rfl <;> rfl) ?_; intro w9 hs9))
      replace hs9 := hs9.cast rfl (show _ = [.int .i64 (kind), .slice d1 data.length d2, .slice vo items.length vc, .string (tree), .slice p1 parents.length p2, .int .i64 (stamp), .int .i64 (author), .string (msg)] by simp)
      have hcw : ∀ i u, ([.int .i64 (kind), .slice d1 data.length d2, .slice vo items.length vc, .string (tree), .slice p1 parents.length p2, .int .i64 (stamp), .int .i64 (author), .string (msg)])[i]? = some u → w9.cell? ⟨gz, i, none⟩ = some u := fun i u h => hs9.rcell (List.mem_cons_self ..) h
      refine bodyPost_ret (v := .agg ([.int .i64 (kind), .slice d1 data.length d2, .slice vo items.length vc, .string (tree), .slice p1 parents.length p2, .int .i64 (stamp), .int .i64 (author), .string (msg)]).toArray) (results_cellA Try.results11 _ Try.aObj6 (g := gz) ([.int .i64 (kind), .slice d1 data.length d2, .slice vo items.length vc, .string (tree), .slice p1 parents.length p2, .int .i64 (stamp), .int .i64 (author), .string (msg)]) ?_ rfl hcw) ?_ ⟨_, rfl, hs9.swap.head⟩
      · first | (simp; done) | simp [Act.put]
      · first | (simp; done) | simp [Act.put]
end Go.Proofs.Ytlfdnlomlbbicaa
