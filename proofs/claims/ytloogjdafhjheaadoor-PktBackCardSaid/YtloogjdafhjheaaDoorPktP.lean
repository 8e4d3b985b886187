/- Plain facts on lines (chapter 21). -/
import Derived.Test.YtloogjdafhjheaaDoorHexP
namespace Go.Mx
open Go Go.RowKit

/-- The number that digits are, from n on; -1: they are none. -/
def lenI : List UInt8 → Nat → Int
  | [], n => n
  | c :: r, n => if hexI c < 0 then -1 else lenI r (16 * n + (hexI c).toNat)

/-- A line: four digits of its length, and the bytes. -/
def lineL (p : List UInt8) : List UInt8 := hexL [UInt8.ofNat ((p.length + 4) / 256), UInt8.ofNat (p.length + 4)] ++ p
def lineV (p : List UInt8) : List UInt8 := if 60000 < p.length then [] else lineL p
def lineE (p : List UInt8) : Int := if 60000 < p.length then 3 else 0

theorem lineL_len (p : List UInt8) : (lineL p).length = p.length + 4 := by simp [lineL, hexL]
theorem lineL_eq (p : List UInt8) (h : p.length ≤ 60000) : lineL p = [dig ((p.length + 4) / 4096), dig ((p.length + 4) / 256 % 16), dig ((p.length + 4) / 16 % 16), dig ((p.length + 4) % 16)] ++ p := by
  unfold lineL hexL hexL hexL
  rw [UInt8.toNat_ofNat', UInt8.toNat_ofNat']
  rw [show (p.length + 4) / 256 % 256 / 16 = (p.length + 4) / 4096 by omega, show (p.length + 4) / 256 % 256 % 16 = (p.length + 4) / 256 % 16 by omega, show (p.length + 4) % 256 / 16 = (p.length + 4) / 16 % 16 by omega, show (p.length + 4) % 256 % 16 = (p.length + 4) % 16 by omega]

/-- What the lines of bytes are, from a place on, behind lines that were told: lists, place, error. -/
def linesS (b : List UInt8) (at_ : Nat) (acc : List (List UInt8)) : List (List UInt8) × Nat × Int :=
  if _h : at_ < b.length then
    if b.length - at_ < 4 then ([], at_, 2)
    else
      let n := lenI ((b.take (at_ + 4)).drop at_) 0
      if n = 0 then (acc, at_ + 4, 0)
      else if n < 4 then ([], at_, 4)
      else if (b.length - at_ : Nat) < n then ([], at_, 2)
      else linesS b (at_ + n.toNat) (acc ++ [(b.take (at_ + n.toNat)).drop (at_ + 4)])
  else (acc, at_, 0)
termination_by b.length - at_
decreasing_by omega

theorem lenI_hi : ∀ (l : List UInt8) (n k : Nat), n < 16 ^ k → lenI l n < 16 ^ (k + l.length)
  | [], n, k, h => by simp only [lenI, List.length_nil, Nat.add_zero]; exact_mod_cast h
  | c :: r, n, k, h => by
    rw [lenI]
    split
    · have : (0 : Int) < 16 ^ (k + (c :: r).length) := by exact_mod_cast Nat.pow_pos (by omega)
      omega
    · have h2 := hexI_hi c
      have := lenI_hi r (16 * n + (hexI c).toNat) (k + 1) (by rw [Nat.pow_succ]; omega)
      rw [List.length_cons, show k + (r.length + 1) = k + 1 + r.length by omega]
      exact this
theorem lenI_lo : ∀ (l : List UInt8) (n : Nat), -1 ≤ lenI l n
  | [], n => by simp only [lenI]; omega
  | c :: r, n => by
    rw [lenI]
    split
    · omega
    · exact lenI_lo r _
/-- Four digits, by their pairs. -/
theorem lenI_unhex (a b c d : UInt8) : match unhexL [a, b, c, d] with
    | none => lenI [a, b, c, d] 0 = -1
    | some l => ∃ x y : UInt8, l = [x, y] ∧ lenI [a, b, c, d] 0 = 256 * (x.toNat : Int) + (y.toNat : Int) := by
  have h1 := hexI_lo a; have h2 := hexI_lo b; have h3 := hexI_lo c; have h4 := hexI_lo d
  have g1 := hexI_hi a; have g2 := hexI_hi b; have g3 := hexI_hi c; have g4 := hexI_hi d
  simp only [unhexL, lenI]
  by_cases hab : hexI a < 0 ∨ hexI b < 0
  · rw [if_pos hab]
    rcases hab with h | h
    · simp only [if_pos h]
    · by_cases h' : hexI a < 0
      · simp only [if_pos h']
      · simp only [if_neg h', if_pos h]
  · rw [if_neg hab]
    rw [if_neg (show ¬ hexI a < 0 by omega), if_neg (show ¬ hexI b < 0 by omega)]
    by_cases hcd : hexI c < 0 ∨ hexI d < 0
    · rw [if_pos hcd]
      simp only [Option.map_none]
      rcases hcd with h | h
      · simp only [if_pos h]
      · by_cases h' : hexI c < 0
        · simp only [if_pos h']
        · simp only [if_neg h', if_pos h]
    · rw [if_neg hcd]
      rw [if_neg (show ¬ hexI c < 0 by omega), if_neg (show ¬ hexI d < 0 by omega)]
      simp only [Option.map_some]
      refine ⟨_, _, rfl, ?_⟩
      rw [UInt8.toNat_ofNat', UInt8.toNat_ofNat']
      omega
theorem lenI_none {l : List UInt8} (h4 : l.length = 4) (h : unhexL l = none) : lenI l 0 = -1 := by
  match l, h4 with
  | [a, b, c, d], _ => have := lenI_unhex a b c d; rw [h] at this; exact this
theorem lenI_some {l r : List UInt8} (h4 : l.length = 4) (h : unhexL l = some r) : ∃ x y : UInt8, r = [x, y] ∧ lenI l 0 = 256 * (x.toNat : Int) + (y.toNat : Int) := by
  match l, h4 with
  | [a, b, c, d], _ => have := lenI_unhex a b c d; rw [h] at this; exact this
end Go.Mx
