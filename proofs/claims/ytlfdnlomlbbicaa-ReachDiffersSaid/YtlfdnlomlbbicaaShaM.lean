/- Walk of (*sha.Hasher).mix. -/
import Derived.Test.YtlfdnlomlbbicaaShaS
namespace Go.Mx
open Go Go.RowKit
theorem S8.cells (s : S8) : u32s s.lst = [.int .u32 (s.a.toNat : Int), .int .u32 (s.b.toNat : Int), .int .u32 (s.c.toNat : Int), .int .u32 (s.d.toNat : Int), .int .u32 (s.e.toNat : Int), .int .u32 (s.f.toNat : Int), .int .u32 (s.g.toNat : Int), .int .u32 (s.h.toNat : Int)] := rfl
theorem whole {xs cs : List Value} {n : Nat} (h : xs.length = n) : xs.take 0 ++ cs ++ xs.drop (0 + n) = cs := by
  rw [List.take_zero, List.nil_append, List.drop_eq_nil_of_le (by omega), List.append_nil]
theorem rep_len (n : Nat) : (u32s (List.replicate n 0)).length = n := by rw [u32s_len, List.length_replicate]
/-- The first i words are added. -/
def mixL (s t : S8) (i : Nat) : List U32 := (s.add t).lst.take i ++ s.lst.drop i
theorem mixL_0 (s t : S8) : mixL s t 0 = s.lst := rfl
theorem mixL_8 (s t : S8) : mixL s t 8 = (s.add t).lst := rfl
theorem mixL_cell (s t : S8) (z : List Value) {i : Nat} (hi : i < 8) : (u32s (mixL s t i) ++ z)[i]? = some (.int .u32 ((s.lst.getD i 0).toNat : Int)) := by
  have h : i = 0 ∨ i = 1 ∨ i = 2 ∨ i = 3 ∨ i = 4 ∨ i = 5 ∨ i = 6 ∨ i = 7 := by omega
  rcases h with rfl | rfl | rfl | rfl | rfl | rfl | rfl | rfl <;> rfl
theorem mixL_set (s t : S8) (p : Value) (z : List Value) {i : Nat} (hi : i < 8) : (p :: (u32s (mixL s t i) ++ z)).take (1 + i) ++ [Value.int .u32 ((s.lst.getD i 0 + t.lst.getD i 0).toNat : Int)] ++ (p :: (u32s (mixL s t i) ++ z)).drop (1 + i + 1) = p :: (u32s (mixL s t (i + 1)) ++ z) := by
  have h : i = 0 ∨ i = 1 ∨ i = 2 ∨ i = 3 ∨ i = 4 ∨ i = 5 ∨ i = 6 ∨ i = 7 := by omega
  rcases h with rfl | rfl | rfl | rfl | rfl | rfl | rfl | rfl <;> rfl
theorem rnds_succ (ks ws : List U32) (s : S8) (n : Nat) : rnds ks ws s (n + 1) = rnd (rnds ks ws s n) (ks.getD n 0) (ws.getD n 0) := rfl
end Go.Mx
namespace Go.Proofs.Ytlfdnlomlbbicaa
open Go.RowKit Go.Mx

/-- The constants' variable: read alone. -/
abbrev cq (gc : Nat) : Rd := ⟨.slice (some ⟨gc, 0, none⟩) 1 1, 75, 1, [.int .u32 1, .int .i32 0, .int .u32 0] ++ u32s I8.lst ++ u32s K64⟩
abbrev row8 (g : Nat) (l : List Value) : Row := ⟨.slice (some ⟨g, 0, none⟩) 8 8, 107, 1, 8, l⟩

theorem cq_cell {w : World} {gc i : Nat} (h : Sl w 75 (.slice (some ⟨gc, 0, none⟩) 1 1) 1 (cq gc).xs) (hi : i < 64) : w.cell? ⟨gc, 11 + i, none⟩ = some (.int .u32 ((K64.getD i 0).toNat : Int)) := by
  obtain ⟨ao, cap, hv, _, _, _, _, hc⟩ := h
  simp only [Value.slice.injEq, true_and] at hv
  obtain ⟨rfl, rfl⟩ := hv
  obtain ⟨a, ha, hcell⟩ := hc (11 + i) (.int .u32 ((K64.getD i 0).toNat : Int)) (by
    rw [List.getElem?_append_right (by simp [u32s_len, S8.lst_len]), show 11 + i - ([Value.int .u32 1, .int .i32 0, .int .u32 0] ++ u32s I8.lst).length = i by simp [u32s_len, S8.lst_len], u32s_get (by simpa [K64] using hi)]
    rw [List.getD_eq_getElem?_getD, List.getElem?_eq_getElem (by simpa [K64] using hi)]
    rfl)
  obtain rfl := Option.some.inj ha
  rw [Addr.add_lit, Nat.zero_add] at hcell
  exact hcell

end Go.Proofs.Ytlfdnlomlbbicaa
