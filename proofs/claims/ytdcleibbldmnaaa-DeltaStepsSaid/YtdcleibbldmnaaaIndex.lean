/- bytes.Index, as the shelf tells it, at slices that read as bytes. -/
import Derived.Test.YtdcleibbldmnaaaBase
import Derived.Lib.IndexMore
import Derived.Lib.Bytes
namespace Go.Mx
open Go Go.RowKit

theorem occAt_iff {s sub : List UInt8} {i : Nat} : Lib.occAt s sub i = true ↔ (s.drop i).take sub.length = sub := by
  unfold Lib.occAt
  rw [List.isPrefixOf_iff_prefix, List.prefix_iff_eq_take]
  exact eq_comm

/-- The cells of a slice of bytes that is not empty, as the shelf asks for them. -/
theorem Sl.shelf {w : World} {v : Value} {n : Nat} {l : List UInt8} (h : Sl w 1 v n (bs l)) (hne : l ≠ []) :
    ∃ a cap, v = .slice (some a) l.length cap ∧ l.length ≤ cap ∧ cap ≤ 9223372036854775807 ∧ (∀ i, i < l.length → w.cell? (a.add i) = some (.int .u8 ((l.map fun x => (x.toNat : Int)).getD i 0))) := by
  obtain ⟨ao, cap, blk, off, rfl, h1, h2, h3, hc⟩ := h.byt
  obtain ⟨rfl, _⟩ := hc 0 (List.length_pos_iff.2 hne)
  subst h3
  refine ⟨_, cap, rfl, h1, h2, fun i hi => ?_⟩
  rw [Addr.add_lit, (hc i hi).2]
  simp [hi]
theorem bytesOf_nat (l : List UInt8) : Lib.bytesOf (l.map fun x => (x.toNat : Int)) = l := by
  unfold Lib.bytesOf
  simp [List.map_map, Function.comp_def]
theorem byteRange (l : List UInt8) : ∀ x ∈ (l.map fun x => (x.toNat : Int)), 0 ≤ x ∧ x < 256 := by
  intro x hx
  obtain ⟨y, _, rfl⟩ := List.mem_map.1 hx
  have := u8_lt y
  omega
end Go.Mx
