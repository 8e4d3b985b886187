/- marlaw14.first and marlaw14.LinesMatches. -/
import Derived.Test.YtafmgclhgmhflaaL14
namespace Go.Proofs.Ytafmgclhgmhflaa
open Go.RowKit Go.Mx

set_option maxRecDepth 100000 in
set_option maxHeartbeats 2000000 in
theorem first_any (w : World) : Calls Try.prog 9 #[] w fun e w' => e = .returned (.bool true) ∧ St w w' [] [] := by
  have hxy : (⟨#[97]⟩ : ByteArray) ≠ ⟨#[98]⟩ := by decide
  have hxz : (⟨#[97]⟩ : ByteArray) ≠ ⟨#[99]⟩ := by decide
  have hyz : (⟨#[98]⟩ : ByteArray) ≠ ⟨#[99]⟩ := by decide
  have M := Mx.hid (mp3 hxy hxz hyz)
  have D := Mx.hid (dE2 hxy)
  have E1 : Hid (mE [(⟨#[97]⟩ : ByteArray), ⟨#[98]⟩, ⟨#[99]⟩] [⟨#[98]⟩, ⟨#[99]⟩, ⟨#[97]⟩] = 0) := if_neg (by simp)
  have E2 : Hid (mE [(⟨#[97]⟩ : ByteArray), ⟨#[98]⟩] [⟨#[98]⟩] = 0) := if_neg (by simp)
  clear hxy hxz hyz
  have q1 := (St.refl w).made #[.string ⟨#[97]⟩, .string ⟨#[98]⟩, .string ⟨#[99]⟩] 9 1 3 rfl (by simp [maxLen])
  have q2 := q1.madeAt #[.string ⟨#[98]⟩, .string ⟨#[99]⟩, .string ⟨#[97]⟩] 9 1 3 (w.heap.size + 1) rfl (by simp [maxLen]) (heap_size_alloc _ _).symm
  go_enter Try.func9, Try.ntmps9
  go_wp2_with fail
  refine (match_any _ _ [(⟨#[97]⟩ : ByteArray), ⟨#[98]⟩, ⟨#[99]⟩] [⟨#[98]⟩, ⟨#[99]⟩, ⟨#[97]⟩] _ q2.sl1 q2.sl0).mono ?_
  rintro e w1 ⟨v1, he, hs1⟩
  rw [E1.out] at he
  rw [M.out] at hs1
  subst he
  replace hs1 := q2.bare.call1 hs1
  clear q1 q2
  have q1 := hs1.made #[.string ⟨#[97]⟩, .string ⟨#[98]⟩] 9 1 2 rfl (by simp [maxLen])
  have q2 := q1.madeAt #[.string ⟨#[98]⟩] 9 1 1 (w1.heap.size + 1) rfl (by simp [maxLen]) (heap_size_alloc _ _).symm
  go_wp2_with fail
  refine (diff_any _ _ [(⟨#[97]⟩ : ByteArray), ⟨#[98]⟩] [⟨#[98]⟩] _ q2.sl1 q2.sl0).mono ?_
  rintro e w2 ⟨v2, he, hs2, hed⟩
  rw [E2.out] at he
  rw [D.out] at hed
  subst he
  replace hs2 := q2.tail.tail.call0 hs2
  clear q1 q2 hs1
  obtain ⟨g, cp, rfl, g1, g2, g3, g4⟩ := hs2.form0 (by simp)
  have c1 := hs2.cell (j := 0) rfl
  have c2 := hs2.cell (j := 1) rfl
  have c3 := hs2.cell (j := 2) rfl
  have c4 := hs2.cell (j := 3) rfl
  obtain ⟨ao, cap, blk, off, us, rfl, h1, h2, hc, hd⟩ := hed.at
  clear hed
  obtain ⟨rfl, d1, d2, d3⟩ := hc 0 (by simp)
  have hd : Sl w2 1 (us 0) 0 (ss []) := hd 0 (by simp)
  rw [Nat.mul_zero, Nat.add_zero] at d1
  rw [show off + (3 * 0 + 1) = off + 1 from rfl] at d2
  rw [show off + (3 * 0 + 2) = off + 2 from rfl] at d3
  generalize us 0 = u0 at *
  have d1 : w2.cell? ⟨blk, off, none⟩ = some (.int .i64 0) := d1
  have d2 : w2.cell? ⟨blk, off + 1, none⟩ = some (.int .i64 1) := d2
  clear hc
  have c1 : w2.cell? ⟨g, 0, none⟩ = some (.int .i64 1) := c1
  have c2 : w2.cell? ⟨g, 1, none⟩ = some (.int .i64 0) := c2
  have c3 : w2.cell? ⟨g, 2, none⟩ = some (.int .i64 2) := c3
  have c4 : w2.cell? ⟨g, 3, none⟩ = some (.int .i64 1) := c4
  go_wp2_with (first | ((with_reducible show wpList _ _ _ _ _ _); refine wpl_want rfl ?_) | ((with_reducible show wpList _ _ _ _ _ _); refine wpl_len rfl 22 9 _ rfl Try.underlying22 (by exact hd) ?_))
  go_ret
  exact ⟨rfl, hs2.bare⟩
end Go.Proofs.Ytafmgclhgmhflaa
