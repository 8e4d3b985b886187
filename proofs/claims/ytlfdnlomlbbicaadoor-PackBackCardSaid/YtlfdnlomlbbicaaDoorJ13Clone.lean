/- The walk of bytes.Clone. The walk of obj.read: another kind, a blob. -/
import Derived.Test.YtlfdnlomlbbicaaDoorJ3Base
import Derived.Test.YtlfdnlomlbbicaaDoorObjS
namespace Go.Proofs.YtlfdnlomlbbicaaDoor
open Go.RowKit Go.Mx

theorem clone_any (v : Value) (l : List UInt8) (w : World) (hv : Sl w 1 v l.length (bs l)) (hl : l.length ≤ 140737488355328) :
    Calls Tryd.prog 38 #[v] w fun e w' => ∃ v', e = .returned v' ∧ St w w' [⟨v', 5, 1, l.length, bs l⟩] [] := by
  obtain ⟨ao, cap, rfl, h1, h2, h3, h4, h5⟩ := id hv
  cases ao with
  | none =>
    have hz : l = [] := List.eq_nil_of_length_eq_zero (by have := h4 rfl; omega)
    subst hz
    have q22 : ∀ (w : World) (n c : Nat), (binOp .eql 25 (.slice none n c) (.slice none 0 0)).run Tryd.prog w = .ok (.bool true) w := fun w n c => Lib.run_eql_slice_nil w _ _ none n c 0 0 Tryd.underlying25
    clear hv h5
    go_enter Tryd.func38, Tryd.ntmps38
    go_wp2_with fail
    go_ret
    exact ⟨_, rfl, St.nil w 5 1⟩
  | some a =>
    have q22 : ∀ (w : World) (n c : Nat), (binOp .eql 25 (.slice (some a) n c) (.slice none 0 0)).run Tryd.prog w = .ok (.bool false) w := fun w n c => Lib.run_eql_slice_nil w _ _ (some a) n c 0 0 Tryd.underlying25
    have hs := (St.refl w).made #[] 5 1 0 rfl (by simp)
    clear h5
    go_enter Tryd.func38, Tryd.ntmps38
    go_wp2_with (at_builtin; refine wpl_app rfl _ _ 25 rfl Tryd.elU8 hs rfl (by exact hs.old hv) (bs_one _) (by omega) ?_; intro v1 w1 hs1 _)
    go_ret
    exact ⟨_, rfl, hs1.cast (by simp) (by simp)⟩
end Go.Proofs.YtlfdnlomlbbicaaDoor

namespace Go.Proofs.YtlfdnlomlbbicaaDoor
open Go.RowKit Go.Mx

/-- The memory of an object that the call made: its three slices. -/
abbrev obR (dv iv pv : Value) (o : Ob) : List Row := [⟨dv, 5, 1, o.data.length, bs o.data⟩, ⟨iv, 99, 3, o.items.length, itms o.items⟩, ⟨pv, 9, 1, o.parents.length, ss o.parents⟩]
def ReadPost (w : World) (o : Ob) (e : Ending) (w' : World) : Prop := ∃ dv iv pv, e = .returned (OV dv iv pv o) ∧ St w w' (obR dv iv pv o) []

set_option maxRecDepth 100000 in
set_option maxHeartbeats 1000000 in
theorem read_other (v : Value) (l : List UInt8) (kind : Int) (w : World) (hv : Sl w 1 v l.length (bs l)) (k1 : kind ≠ 1) (k2 : kind ≠ 2) (k3 : kind ≠ 3) :
    Calls Tryd.prog 31 #[.int .i64 kind, v] w (ReadPost w (readO kind l)) := by
  have hr : readO kind l = ⟨kind, [], [], str [], [], 0, 0, str []⟩ := by unfold readO; rw [if_neg k1, if_neg k2, if_neg k3]
  rw [hr]
  have q1 : (kind == 1) = false := by simpa using k1
  have q2 : (kind == 2) = false := by simpa using k2
  have q3 : (kind == 3) = false := by simpa using k3
  obtain ⟨ao, cap, rfl, h1, h2, _⟩ := hv.bytes
  have HZ := Mx.hid (((St.refl w).madeAt ([.int .i64 (0), .slice none 0 0, .slice none 0 0, .string (str []), .slice none 0 0, .int .i64 (0), .int .i64 (0), .string (str [])]).toArray 54 8 1 w.heap.size rfl (by simp [maxLen]) rfl).madeAt ([.int .i64 (0), .slice none 0 0, .slice none 0 0, .string (str []), .slice none 0 0, .int .i64 (0), .int .i64 (0), .string (str [])]).toArray 54 8 1 (w.heap.size + 1) rfl (by simp [maxLen]) (by rw [heap_size_alloc]))
  clear k1 k2 k3 hr hv
  go_enter Tryd.func31, Tryd.ntmps31
  go_wp2_with (first | (((with_reducible show wpList _ _ _ _ _ _); refine wpl_storeA rfl 54 _ _ rfl Tryd.aObj HZ.out (0) rfl ([.int .i64 (kind), .slice none 0 0, .slice none 0 0, .string (str []), .slice none 0 0, .int .i64 (0), .int .i64 (0), .string (str [])]) rfl (by rfl) (by simp) (by intro u hu; simp at hu; rcases hu with rfl | rfl | rfl | rfl | rfl | rfl | rfl | rfl <;> rfl) ?_; intro w1 hs1); clear HZ) | (((with_reducible show wpList _ _ _ _ _ _); refine wpl_box rfl 96 _ rfl hs1 ([.slice ao l.length cap, .bool false]) (by rfl) ?_; intro gx w2 hs2)) | ((with_reducible show wpList _ _ _ _ _ _); refine wpl_loadA rfl 54 _ rfl Tryd.aObj ((w.heap.size + 1)) (0) rfl ([.int .i64 (kind), .slice none 0 0, .slice none 0 0, .string (str []), .slice none 0 0, .int .i64 (0), .int .i64 (0), .string (str [])]) rfl (fun i u h => by rw [Nat.zero_add]; exact hs2.rcell (List.mem_cons_of_mem _ (List.mem_cons_self ..)) h) ?_) | (((with_reducible show wpList _ _ _ _ _ _); refine wpl_storeA rfl 54 _ _ rfl Tryd.aObj (hs2.perm (List.perm_append_comm (l₁ := [_, _]) (l₂ := [_]))) (0) rfl ([.int .i64 (kind), .slice none 0 0, .slice none 0 0, .string (str []), .slice none 0 0, .int .i64 (0), .int .i64 (0), .string (str [])]) rfl (by rfl) (by simp) (by intro u hu; simp at hu; rcases hu with rfl | rfl | rfl | rfl | rfl | rfl | rfl | rfl <;> rfl) ?_; intro w9 hs9)))
  replace hs9 := hs9.cast rfl (show _ = [.int .i64 (kind), .slice none 0 0, .slice none 0 0, .string (str []), .slice none 0 0, .int .i64 (0), .int .i64 (0), .string (str [])] by simp)
  have hcw : ∀ i u, ([.int .i64 (kind), .slice none 0 0, .slice none 0 0, .string (str []), .slice none 0 0, .int .i64 (0), .int .i64 (0), .string (str [])])[i]? = some u → w9.cell? ⟨w.heap.size, i, none⟩ = some u := fun i u h => hs9.rcell (List.mem_cons_self ..) h
  refine bodyPost_ret (v := .agg ([.int .i64 (kind), .slice none 0 0, .slice none 0 0, .string (str []), .slice none 0 0, .int .i64 (0), .int .i64 (0), .string (str [])]).toArray) (results_cellA Tryd.results31 _ Tryd.aObj (g := w.heap.size) ([.int .i64 (kind), .slice none 0 0, .slice none 0 0, .string (str []), .slice none 0 0, .int .i64 (0), .int .i64 (0), .string (str [])]) ?_ rfl hcw) ?_ ⟨_, _, _, rfl, ((hs9.bare.addNil _ _).addNil _ _).addNil _ _⟩
  · first | (simp; done) | simp [Act.put]
  · first | (simp; done) | simp [Act.put]

set_option maxRecDepth 100000 in
set_option maxHeartbeats 1000000 in
theorem read_blob (v : Value) (l : List UInt8) (w : World) (hv : Sl w 1 v l.length (bs l)) (hl : l.length ≤ 140737488355328) :
    Calls Tryd.prog 31 #[.int .i64 1, v] w (ReadPost w (readO 1 l)) := by
  have hr : readO 1 l = ⟨1, l, [], str [], [], 0, 0, str []⟩ := by unfold readO; rw [if_pos rfl]
  rw [hr]
  have HCL := Mx.hid (fun wx (h : St w wx [] []) => clone_any v l wx (h.old hv) hl)
  obtain ⟨ao, cap, rfl, h1, h2, _⟩ := hv.bytes
  have HZ := Mx.hid (((St.refl w).madeAt ([.int .i64 (0), .slice none 0 0, .slice none 0 0, .string (str []), .slice none 0 0, .int .i64 (0), .int .i64 (0), .string (str [])]).toArray 54 8 1 w.heap.size rfl (by simp [maxLen]) rfl).madeAt ([.int .i64 (0), .slice none 0 0, .slice none 0 0, .string (str []), .slice none 0 0, .int .i64 (0), .int .i64 (0), .string (str [])]).toArray 54 8 1 (w.heap.size + 1) rfl (by simp [maxLen]) (by rw [heap_size_alloc]))
  clear hr hv
  go_enter Tryd.func31, Tryd.ntmps31
  go_wp2_with (first | (((with_reducible show wpList _ _ _ _ _ _); refine wpl_storeA rfl 54 _ _ rfl Tryd.aObj HZ.out (0) rfl ([.int .i64 (1), .slice none 0 0, .slice none 0 0, .string (str []), .slice none 0 0, .int .i64 (0), .int .i64 (0), .string (str [])]) rfl (by rfl) (by simp) (by intro u hu; simp at hu; rcases hu with rfl | rfl | rfl | rfl | rfl | rfl | rfl | rfl <;> rfl) ?_; intro w1 hs1); clear HZ) | (((with_reducible show wpList _ _ _ _ _ _); refine wpl_box rfl 96 _ rfl hs1 ([.slice ao l.length cap, .bool false]) (by rfl) ?_; intro gx w2 hs2)) | (go_at_call 38; refine (HCL.out _ hs2.bare).mono ?_; rintro e w3 ⟨x, rfl, hk⟩; obtain ⟨xo, xc, rfl, _⟩ := id hk.sl0; have hs3 := (hs2.call1 hk).perm (R' := [_, _, _, _]) (List.perm_append_comm (l₁ := [_, _]) (l₂ := [_, _]))) | (((with_reducible show wpList _ _ _ _ _ _); refine wpl_store1 rfl 25 _ _ rfl hs3 (1) rfl (.slice xo l.length xc) rfl rfl (by kernel_rfl) (by simp) rfl ?_; intro w4 hs4)) | ((with_reducible show wpList _ _ _ _ _ _); refine wpl_loadA rfl 54 _ rfl Tryd.aObj ((w.heap.size + 1)) (0) rfl ([.int .i64 (1), .slice xo l.length xc, .slice none 0 0, .string (str []), .slice none 0 0, .int .i64 (0), .int .i64 (0), .string (str [])]) rfl (fun i u h => by rw [Nat.zero_add]; exact hs4.rcell (List.mem_cons_self ..) h) ?_) | (((with_reducible show wpList _ _ _ _ _ _); refine wpl_storeA rfl 54 _ _ rfl Tryd.aObj (hs4.perm (List.Perm.swap _ _ _)) (0) rfl ([.int .i64 (1), .slice xo l.length xc, .slice none 0 0, .string (str []), .slice none 0 0, .int .i64 (0), .int .i64 (0), .string (str [])]) rfl (by rfl) (by simp) (by intro u hu; simp at hu; rcases hu with rfl | rfl | rfl | rfl | rfl | rfl | rfl | rfl <;> rfl) ?_; intro w9 hs9)))
  replace hs9 := hs9.cast rfl (show _ = [.int .i64 (1), .slice xo l.length xc, .slice none 0 0, .string (str []), .slice none 0 0, .int .i64 (0), .int .i64 (0), .string (str [])] by simp)
  have hcw : ∀ i u, ([.int .i64 (1), .slice xo l.length xc, .slice none 0 0, .string (str []), .slice none 0 0, .int .i64 (0), .int .i64 (0), .string (str [])])[i]? = some u → w9.cell? ⟨w.heap.size, i, none⟩ = some u := fun i u h => hs9.rcell (List.mem_cons_self ..) h
  refine bodyPost_ret (v := .agg ([.int .i64 (1), .slice xo l.length xc, .slice none 0 0, .string (str []), .slice none 0 0, .int .i64 (0), .int .i64 (0), .string (str [])]).toArray) (results_cellA Tryd.results31 _ Tryd.aObj (g := w.heap.size) ([.int .i64 (1), .slice xo l.length xc, .slice none 0 0, .string (str []), .slice none 0 0, .int .i64 (0), .int .i64 (0), .string (str [])]) ?_ rfl hcw) ?_ ⟨_, _, _, rfl, (hs9.perm (R' := [_, _, _, _]) (List.perm_append_comm (l₁ := [_, _]) (l₂ := [_, _]))).head.addNil _ _ |>.addNil _ _ |>.perm (R' := [_, _, _]) (List.perm_append_comm (l₁ := [_, _]) (l₂ := [_]))⟩
  · first | (simp; done) | simp [Act.put]
  · first | (simp; done) | simp [Act.put]
end Go.Proofs.YtlfdnlomlbbicaaDoor
