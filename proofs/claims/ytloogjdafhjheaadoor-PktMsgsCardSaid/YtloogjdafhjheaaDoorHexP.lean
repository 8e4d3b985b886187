/- Plain facts on hexadecimal digits. -/
import Derived.Test.YtloogjdafhjheaaDoorLib2
namespace Go.Mx
open Go Go.RowKit

/-- What a hexadecimal digit is; -1: it is none. -/
def hexI (c : UInt8) : Int := if 48 ≤ c.toNat ∧ c.toNat ≤ 57 then (c.toNat : Int) - 48 else if 97 ≤ c.toNat ∧ c.toNat ≤ 102 then (c.toNat : Int) - 87 else -1
theorem hexI_lo (c : UInt8) : -1 ≤ hexI c := by unfold hexI; split; omega; split <;> omega
theorem hexI_hi (c : UInt8) : hexI c ≤ 15 := by unfold hexI; split; omega; split <;> omega

def digs : List UInt8 := [48, 49, 50, 51, 52, 53, 54, 55, 56, 57, 97, 98, 99, 100, 101, 102]
def dig (n : Nat) : UInt8 := digs.getD n 0
theorem hexI_dig : ∀ n : Nat, n < 16 → hexI (dig n) = n := by decide +kernel
/-- The two digits of each byte. -/
def hexL : List UInt8 → List UInt8
  | [] => []
  | x :: r => dig (x.toNat / 16) :: dig (x.toNat % 16) :: hexL r
theorem hexL_app (a b : List UInt8) : hexL (a ++ b) = hexL a ++ hexL b := by
  induction a with
  | nil => rfl
  | cons x a ih => simp [hexL, ih]
theorem hexL_len (a : List UInt8) : (hexL a).length = 2 * a.length := by
  induction a with
  | nil => rfl
  | cons x a ih => simp [hexL, ih]; omega

def unhexL : List UInt8 → Option (List UInt8)
  | [] => some []
  | [_] => none
  | a :: b :: r => if hexI a < 0 ∨ hexI b < 0 then none else (unhexL r).map fun l => UInt8.ofNat (16 * hexI a + hexI b).toNat :: l
theorem unhexL_odd : ∀ (n : Nat) (l : List UInt8), l.length = n → n % 2 = 1 → unhexL l = none
  | 0, _, _, h => by omega
  | 1, [x], _, _ => rfl
  | n + 2, a :: b :: r, hl, h => by
    have := unhexL_odd n r (by simpa using hl) (by omega)
    simp only [unhexL, this, Option.map_none, ite_self]
theorem unhexL_len : ∀ (n : Nat) (l r : List UInt8), l.length = n → unhexL l = some r → 2 * r.length = l.length
  | 0, [], r, _, h => by simp [unhexL] at h; subst h; rfl
  | 1, [x], r, _, h => by simp [unhexL] at h
  | n + 2, a :: b :: l, r, hl, h => by
    rw [unhexL] at h
    split at h
    · cases h
    · obtain ⟨r', hr, rfl⟩ := Option.map_eq_some_iff.1 h
      have := unhexL_len n l r' (by simpa using hl) hr
      simp; omega
theorem unhexL_hexL : ∀ l : List UInt8, unhexL (hexL l) = some l
  | [] => rfl
  | x :: r => by
    have hx := x.toNat_lt
    rw [hexL, unhexL, hexI_dig _ (by omega), hexI_dig _ (by omega), if_neg (by omega), unhexL_hexL r]
    simp only [Option.map_some]
    congr 2
    apply UInt8.toNat_inj.1
    rw [UInt8.toNat_ofNat']
    omega
/-- One step of the loop over pairs. -/
theorem unhexL_step {l : List UInt8} {i : Nat} (h : i + 1 < l.length) : unhexL (l.drop i) = if hexI (l[i]'(by omega)) < 0 ∨ hexI l[i + 1] < 0 then none else (unhexL (l.drop (i + 2))).map fun r => UInt8.ofNat (16 * hexI (l[i]'(by omega)) + hexI l[i + 1]).toNat :: r := by
  rw [List.drop_eq_getElem_cons (show i < l.length by omega), List.drop_eq_getElem_cons h, unhexL]
end Go.Mx
