/- marlaw15.first. -/
import Derived.Test.YtafmgclhgmhflaaDoorD3MR
import Derived.KernelRfl
namespace Go.Mx
open Go Go.RowKit
theorem first_m1 : mgR [49, 10, 50, 10, 51, 10] [49, 10, 120, 10, 51, 10] [49, 10, 50, 10, 51, 10, 52, 10] = some [49, 10, 120, 10, 51, 10, 52, 10] := by kernel_rfl
theorem first_e1 : mgE [49, 10, 50, 10, 51, 10] [49, 10, 120, 10, 51, 10] [49, 10, 50, 10, 51, 10, 52, 10] = 0 := by kernel_rfl
theorem first_m2 : mgR [49, 10, 50, 10, 51, 10] [49, 10, 120, 10, 51, 10] [49, 10, 121, 10, 51, 10] = none := by kernel_rfl
theorem first_e2 : mgE [49, 10, 50, 10, 51, 10] [49, 10, 120, 10, 51, 10] [49, 10, 121, 10, 51, 10] = 0 := by kernel_rfl
theorem St.madeMAt {w0 w : World} {R : List Row} {Q : List Rd} (h : St w0 w R Q) (cells : Array Value) (e : TypeId) (size n g : Nat) (hn : cells.size = n * size) (hm : n ≤ maxLen) (hg : g = w.heap.size) :
    St w0 (w.alloc (.cells cells e (cells.size, cells.size + 1))) (⟨.slice (some ⟨g, 0, none⟩) n n, e, size, n, cells.toList⟩ :: R) Q := by
  subst hg; exact h.madeM cells e size n hn hm
end Go.Mx
namespace Go.Proofs.YtafmgclhgmhflaaDoor
open Go.RowKit Go.Mx
set_option maxRecDepth 100000 in
set_option maxHeartbeats 2000000 in
theorem first_any (w : World) : Calls Tryd.prog 9 #[] w fun e w' => e = .returned (.bool true) ∧ St w w' [] [] := by
  have kc := fun (w : World) (C : Array Value) (n c : Nat) => Lib.run_convert_bytes_const (P := Tryd.prog) w 36 5 C n c Tryd.underlying36 Tryd.underlying5
  have kc2 := fun (w : World) (X : Obj) (C : Array Value) (n c : Nat) => heap_size_alloc w X ▸ kc (w.alloc X) C n c
  have kc3 := fun (w : World) (X Y : Obj) (C : Array Value) (n c : Nat) => heap_size_alloc w X ▸ heap_size_alloc (w.alloc X) Y ▸ kc ((w.alloc X).alloc Y) C n c
  have q1 := (St.refl w).madeMAt #[.int .u8 49, .int .u8 10, .int .u8 50, .int .u8 10, .int .u8 51, .int .u8 10] 5 1 6 w.heap.size rfl (by simp [maxLen]) rfl
  have q2 := q1.madeMAt #[.int .u8 49, .int .u8 10, .int .u8 120, .int .u8 10, .int .u8 51, .int .u8 10] 5 1 6 (w.heap.size + 1) rfl (by simp [maxLen]) (heap_size_alloc _ _).symm
  have q3 := q2.madeMAt #[.int .u8 49, .int .u8 10, .int .u8 50, .int .u8 10, .int .u8 51, .int .u8 10, .int .u8 52, .int .u8 10] 5 1 8 (w.heap.size + 1 + 1) rfl (by simp [maxLen]) (by rw [heap_size_alloc, heap_size_alloc])
  have HQ := Mx.hid q3
  clear q1 q2 q3
  go_enter Tryd.func9, Tryd.ntmps9
  go_wp2_with fail
  clear kc2 kc3
  refine (merge_any _ _ _ [49, 10, 50, 10, 51, 10] [49, 10, 120, 10, 51, 10] [49, 10, 50, 10, 51, 10, 52, 10] _ HQ.out.sl2 HQ.out.sl1 HQ.out.sl0 (by simp) (by simp) (by simp)).mono ?_
  rintro e w1 ⟨v1, he, hs1⟩
  rw [first_m1, first_e1] at he
  rw [first_m1] at hs1
  simp only [Option.isSome_some, Option.getD_some] at he hs1
  subst he
  have hx2 := hs1.old HQ.out.sl2
  have hx1 := hs1.old HQ.out.sl1
  have hs2 := HQ.out.bare.call1 hs1
  have HQ2 := Mx.hid (hs2.madeMAt #[.int .u8 49, .int .u8 10, .int .u8 121, .int .u8 10, .int .u8 51, .int .u8 10] 5 1 6 w1.heap.size rfl (by simp [maxLen]) rfl)
  go_wp2_with fail
  refine (merge_any _ _ _ [49, 10, 50, 10, 51, 10] [49, 10, 120, 10, 51, 10] [49, 10, 121, 10, 51, 10] _ ((hs1.alloc _).old HQ.out.sl2) ((hs1.alloc _).old HQ.out.sl1) HQ2.out.sl0 (by simp) (by simp) (by simp)).mono ?_
  rintro e w2 ⟨v2, he, hs3⟩
  rw [first_m2, first_e2] at he
  simp only [Option.isSome_none] at he
  subst he
  have hs4 := HQ2.out.tail.call hs3
  have hm := hs4.sl1
  have ht : ((str [49, 10, 120, 10, 51, 10, 52, 10]).toList == [49, 10, 120, 10, 51, 10, 52, 10]) = true := by rw [str_toL]; rfl
  go_wp2_with (first | ((with_reducible show wpList _ _ _ _ _ _); refine wpl_want rfl ?_) | ((with_reducible show wpList _ _ _ _ _ _); refine wpl_b2s rfl 36 9 5 _ rfl Tryd.underlying36 Tryd.underlying5 Tryd.underlying9 (by exact hm) ?_))
  go_ret
  exact ⟨rfl, hs4.bare⟩
end Go.Proofs.YtafmgclhgmhflaaDoor
