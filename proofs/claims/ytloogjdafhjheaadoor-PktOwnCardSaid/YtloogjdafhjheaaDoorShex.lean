/- The walk of sha.Hex. -/
import Derived.Test.YtloogjdafhjheaaDoorHex
namespace Go.Proofs.YtloogjdafhjheaaDoor
open Go.RowKit Go.Mx

theorem Sl.two (w : World) (x y : Value) (e : TypeId) : Sl (w.alloc (.cells #[x, y] e)) 1 (.slice (some ⟨w.heap.size, 0, none⟩) 2 2) 2 [x, y] :=
  ((St.refl w).made #[x, y] e 1 2 rfl (by simp [maxLen])).sl0

end Go.Proofs.YtloogjdafhjheaaDoor
