/- What a put number is. -/
import Derived.Test.YtdcleibbldmnaaaWireG
namespace Go.Proofs.Ytdcleibbldmnaaa
open Go.RowKit Go.Mx

theorem PutPost.bad {n : Int} {w w' : World} {e : Ending} (h : PutPost n w e w') (hn : n < 0 ∨ 72057594037927936 < n) : e = .returned (.tuple #[.slice none 0 0, .int .i64 1]) ∧ w = w' := by
  unfold PutPost at h; rw [if_pos hn] at h; exact h
theorem PutPost.good {n : Nat} {w w' : World} {e : Ending} (h : PutPost n w e w') (hn : n ≤ 72057594037927936) : ∃ v, e = .returned (.tuple #[v, .int .i64 0]) ∧ St w w' [⟨v, 5, 1, (putL n).length, bs (putL n)⟩] [] := by
  unfold PutPost at h; rw [if_neg (by omega), Int.toNat_natCast] at h; exact h

theorem PutPost.any {n : Int} {w w' : World} {e : Ending} (h : PutPost n w e w') : ∃ v k, e = .returned (.tuple #[v, .int .i64 k]) ∧ St w w' [] [] := by
  unfold PutPost at h
  split at h
  · obtain ⟨rfl, rfl⟩ := h; exact ⟨_, _, rfl, St.refl _⟩
  · obtain ⟨v, rfl, hs⟩ := h; exact ⟨_, _, rfl, hs.bare⟩
end Go.Proofs.Ytdcleibbldmnaaa
