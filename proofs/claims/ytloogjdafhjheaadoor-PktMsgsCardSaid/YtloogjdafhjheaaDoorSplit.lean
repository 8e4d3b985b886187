/- Walks of lines.Split, Join, Text over the library's contracts. -/
import Derived.Test.YtloogjdafhjheaaDoorBase
import Derived.Test.YtloogjdafhjheaaDoorSplitP
import Derived.Test.YtloogjdafhjheaaDoorShelf
namespace Go.Proofs.YtloogjdafhjheaaDoor
open Go.RowKit Go.Mx

theorem sub_cut {α : Type} (l : List α) : l.take l.length = l := List.take_length

theorem map_str {l : List ByteArray} {m : List (List UInt8)} (h : l.map (·.data.toList) = m) : l = tx m := by
  subst h
  unfold tx
  rw [List.map_map]
  conv => lhs; rw [← List.map_id l]
  exact List.map_congr_left fun x _ => (str_toList x).symm

theorem splitB_pcs (s : ByteArray) (c : UInt8) (sv : Nat) (hsv : sv ≤ 1) : Lib.splitB ⟨#[c]⟩ sv (Lib.countB s ⟨#[c]⟩) s = tx (pcs c sv s.data.toList) := by
  refine map_str ?_
  rw [Lib.splitB_data, show Lib.countB s ⟨#[c]⟩ = s.data.toList.count c from Lib.count_one c _]
  exact splitK_pcs c sv hsv _

theorem genSplit_any (s : ByteArray) (hs : s.size < 4294967281) (c : UInt8) (sv : Nat) (hsv : sv ≤ 1) (w : World) :
    Calls Tryd.prog 56 #[.string s, .string ⟨#[c]⟩, .int .i64 (sv : Int), .int .i64 (-1)] w fun e w' =>
      e = .returned (.slice (some ⟨w.heap.size, 0, none⟩) (pcs c sv s.data.toList).length (pcs c sv s.data.toList).length) ∧ w' = w.alloc (.cells (ss (tx (pcs c sv s.data.toList))).toArray 9) := by
  have hcnt : Lib.countB s ⟨#[c]⟩ = s.data.toList.count c := Lib.count_one c _
  have hle : s.data.toList.count c ≤ s.size := by rw [Lib.size_eq]; exact List.count_le_length
  have h := Any.strings_genSplit_core Tryd.lays221 (by kernel_rfl) s ⟨#[c]⟩ sv (-1) (Lib.countB s ⟨#[c]⟩ + 1) w hs (Nat.le_refl _) hsv
    (fun x cs _ => by
      have := Any.strings_Index_one { Tryd.lays221 with } x c (w.alloc (.cells cs (Tryd.lays221_ren.t 9)))
      rwa [show Lib.indexByte x.data.toList c = Lib.indexB x ⟨#[c]⟩ from (Lib.index_one _ c).symm] at this)
    (by
      have := Any.strings_Count_one { Tryd.lays221 with } s c w
      rwa [show Lib.countByte s.data.toList c = Lib.countB s ⟨#[c]⟩ from hcnt.symm] at this)
    (by omega) (by omega) (by rw [if_pos (by omega), hcnt]; omega)
  rw [Nat.add_sub_cancel, splitB_pcs s c sv hsv, hcnt, ← pcs_len c sv] at h
  rw [show (tx (pcs c sv s.data.toList)).length = (pcs c sv s.data.toList).length from tx_len _] at h
  have e := Lib.cellsOf_full (tx (pcs c sv s.data.toList))
  rw [tx_len] at e
  rw [e] at h
  exact h

end Go.Proofs.YtloogjdafhjheaaDoor
