/- bytes.Index over the symbolic heap. -/
import Derived.Test.YtdcleibbldmnaaaIndex
import Derived.Test.YtdcleibbldmnaaaShelf
namespace Go.Proofs.Ytdcleibbldmnaaa
open Go.RowKit Go.Mx

/-- The library's variable that Index reads is a number. -/
def IndexOk (w : World) : Prop := ∃ m : Int, w.cell? ⟨Try.lays185_ren.g 1, 0, none⟩ = some (.int .i64 m)
theorem IndexOk.keep {w0 w : World} {R : List Row} {Q : List Rd} (h : IndexOk w0) (hs : St w0 w R Q) : IndexOk w := by
  obtain ⟨m, hm⟩ := h
  exact ⟨m, hs.keep hm⟩
theorem IndexOk.of_shape {w : World} (h : w.ShapedOpen Try.prog) : IndexOk w := Try.laysM185.s1_3 w h

theorem index_any (w : World) (va vb : Value) (a b : List UInt8) (ha : Sl w 1 va a.length (bs a)) (hb : Sl w 1 vb b.length (bs b)) (hne : a ≠ []) (hne' : b ≠ []) (hs : a.length < 4294967281) (hI : IndexOk w) :
    Calls Try.prog 30 #[va, vb] w fun e w' => e = .returned (.int .i64 (Lib.index a b)) ∧ ∃ q, w' = w.drewN q := by
  obtain ⟨m, hm⟩ := hI
  obtain ⟨a1, c1, rfl, h1, h2, h3⟩ := ha.shelf hne
  obtain ⟨a2, c2, rfl, h4, h5, h6⟩ := hb.shelf hne'
  have h := Try.bytes_Index_at a1 a2 a.length c1 b.length c2 (a.map fun x => (x.toNat : Int)) (b.map fun x => (x.toNat : Int)) m w (by simp) (by simp) (byteRange a) (byteRange b) h3 h6 h1 hs (by omega) hm
  rw [bytesOf_nat, bytesOf_nat] at h
  exact h
end Go.Proofs.Ytdcleibbldmnaaa
