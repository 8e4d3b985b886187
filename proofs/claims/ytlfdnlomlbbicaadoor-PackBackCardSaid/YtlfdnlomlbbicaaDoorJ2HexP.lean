/- Plain facts on hexadecimal digits. The order of byte strings: plain facts. -/
import Derived.Test.YtlfdnlomlbbicaaDoorLib2
import Derived.WalkLawsBesides
namespace Go.Mx
open Go Go.RowKit

/-- What a hexadecimal digit is; -1: it is none. -/
def hexI (c : UInt8) : Int := if 48 ≤ c.toNat ∧ c.toNat ≤ 57 then (c.toNat : Int) - 48 else if 97 ≤ c.toNat ∧ c.toNat ≤ 102 then (c.toNat : Int) - 87 else -1
theorem hexI_lo (c : UInt8) : -1 ≤ hexI c := by unfold hexI; split; omega; split <;> omega
theorem hexI_hi (c : UInt8) : hexI c ≤ 15 := by unfold hexI; split; omega; split <;> omega

def digs : List UInt8 := [48, 49, 50, 51, 52, 53, 54, 55, 56, 57, 97, 98, 99, 100, 101, 102]
def dig (n : Nat) : UInt8 := digs.getD n 0
theorem hexI_dig : ∀ n : Nat, n < 16 → hexI (dig n) = n := by decide +kernel
/-- The two digits of each byte. -/
def hexL : List UInt8 → List UInt8
  | [] => []
  | x :: r => dig (x.toNat / 16) :: dig (x.toNat % 16) :: hexL r
theorem hexL_app (a b : List UInt8) : hexL (a ++ b) = hexL a ++ hexL b := by
  induction a with
  | nil => rfl
  | cons x a ih => simp [hexL, ih]
theorem hexL_len (a : List UInt8) : (hexL a).length = 2 * a.length := by
  induction a with
  | nil => rfl
  | cons x a ih => simp [hexL, ih]; omega

def unhexL : List UInt8 → Option (List UInt8)
  | [] => some []
  | [_] => none
  | a :: b :: r => if hexI a < 0 ∨ hexI b < 0 then none else (unhexL r).map fun l => UInt8.ofNat (16 * hexI a + hexI b).toNat :: l
theorem unhexL_odd : ∀ (n : Nat) (l : List UInt8), l.length = n → n % 2 = 1 → unhexL l = none
  | 0, _, _, h => by omega
  | 1, [x], _, _ => rfl
  | n + 2, a :: b :: r, hl, h => by
    have := unhexL_odd n r (by simpa using hl) (by omega)
    simp only [unhexL, this, Option.map_none, ite_self]
theorem unhexL_len : ∀ (n : Nat) (l r : List UInt8), l.length = n → unhexL l = some r → 2 * r.length = l.length
  | 0, [], r, _, h => by simp [unhexL] at h; subst h; rfl
  | 1, [x], r, _, h => by simp [unhexL] at h
  | n + 2, a :: b :: l, r, hl, h => by
    rw [unhexL] at h
    split at h
    · cases h
    · obtain ⟨r', hr, rfl⟩ := Option.map_eq_some_iff.1 h
      have := unhexL_len n l r' (by simpa using hl) hr
      simp; omega
theorem unhexL_hexL : ∀ l : List UInt8, unhexL (hexL l) = some l
  | [] => rfl
  | x :: r => by
    have hx := x.toNat_lt
    rw [hexL, unhexL, hexI_dig _ (by omega), hexI_dig _ (by omega), if_neg (by omega), unhexL_hexL r]
    simp only [Option.map_some]
    congr 2
    apply UInt8.toNat_inj.1
    rw [UInt8.toNat_ofNat']
    omega
/-- One step of the loop over pairs. -/
theorem unhexL_step {l : List UInt8} {i : Nat} (h : i + 1 < l.length) : unhexL (l.drop i) = if hexI (l[i]'(by omega)) < 0 ∨ hexI l[i + 1] < 0 then none else (unhexL (l.drop (i + 2))).map fun r => UInt8.ofNat (16 * hexI (l[i]'(by omega)) + hexI l[i + 1]).toNat :: r := by
  rw [List.drop_eq_getElem_cons (show i < l.length by omega), List.drop_eq_getElem_cons h, unhexL]
end Go.Mx

namespace Go.Mx
open Go

theorem toL_inj {s t : ByteArray} (h : s.toList = t.toList) : s = t := by
  rw [ByteArray.toList_eq, ByteArray.toList_eq] at h
  rw [← str_toList s, ← str_toList t, h]
theorem bl_irrefl (x : List UInt8) : Op.bytesLess x x = false := by
  induction x with
  | nil => rfl
  | cons a x ih => simp [Op.bytesLess, ih, UInt8.lt_irrefl]
theorem bl_asymm : ∀ (x y : List UInt8), Op.bytesLess x y = true → Op.bytesLess y x = false
  | [], [], h => by simp [Op.bytesLess] at h
  | [], _ :: _, _ => rfl
  | _ :: _, [], h => by simp [Op.bytesLess] at h
  | a :: x, b :: y, h => by
    simp only [Op.bytesLess, Bool.or_eq_true, Bool.and_eq_true, decide_eq_true_eq, beq_iff_eq] at h
    simp only [Op.bytesLess]
    rcases h with h | ⟨rfl, h⟩
    · have h1 : ¬ b < a := fun h' => UInt8.lt_irrefl _ (UInt8.lt_trans h h')
      have h2 : b ≠ a := by rintro rfl; exact UInt8.lt_irrefl _ h
      simp [h1, h2]
    · rw [bl_asymm x y h]; simp [UInt8.lt_irrefl]
theorem bl_total : ∀ (x y : List UInt8), Op.bytesLess x y = false → Op.bytesLess y x = false → x = y
  | [], [], _, _ => rfl
  | [], _ :: _, h, _ => by simp [Op.bytesLess] at h
  | _ :: _, [], _, h => by simp [Op.bytesLess] at h
  | a :: x, b :: y, h, h' => by
    simp only [Op.bytesLess, Bool.or_eq_false_iff, Bool.and_eq_false_iff, decide_eq_false_iff_not] at h h'
    have e : a = b := UInt8.le_antisymm (UInt8.not_lt.1 h'.1) (UInt8.not_lt.1 h.1)
    subst e
    have e2 := bl_total x y (by simpa using h.2) (by simpa using h'.2)
    rw [e2]
theorem bl_trans : ∀ (x y z : List UInt8), Op.bytesLess x y = true → Op.bytesLess y z = true → Op.bytesLess x z = true
  | _, _, [], _, h => by cases ‹List UInt8› <;> simp [Op.bytesLess] at h
  | _, [], _ :: _, h, _ => by cases ‹List UInt8› <;> simp [Op.bytesLess] at h
  | [], _ :: _, _ :: _, _, _ => rfl
  | a :: x, b :: y, c :: z, h, h' => by
    simp only [Op.bytesLess, Bool.or_eq_true, Bool.and_eq_true, decide_eq_true_eq, beq_iff_eq] at h h' ⊢
    rcases h with h | ⟨rfl, h⟩
    · rcases h' with h' | ⟨rfl, h'⟩
      · exact .inl (UInt8.lt_trans h h')
      · exact .inl h
    · rcases h' with h' | ⟨rfl, h'⟩
      · exact .inl h'
      · exact .inr ⟨rfl, bl_trans x y z h h'⟩

/-- What Compare tells. -/
def cmpL (x y : List UInt8) : Int := if Op.bytesLess x y then -1 else if x = y then 0 else 1
theorem cmpL_neg (x y : List UInt8) : cmpL y x = - cmpL x y := by
  unfold cmpL
  by_cases h : Op.bytesLess x y = true
  · rw [if_pos h, bl_asymm x y h, if_neg (by simp), if_neg (by rintro rfl; rw [bl_irrefl] at h; cases h)]; rfl
  · have h : Op.bytesLess x y = false := by simpa using h
    by_cases h' : Op.bytesLess y x = true
    · rw [h, if_pos h', if_neg (by simp), if_neg (by rintro rfl; rw [bl_irrefl] at h'; cases h')]
    · have h' : Op.bytesLess y x = false := by simpa using h'
      have := bl_total x y h h'
      subst this
      simp [bl_irrefl]
theorem cmpL_range (x y : List UInt8) : cmpL x y = -1 ∨ cmpL x y = 0 ∨ cmpL x y = 1 := by unfold cmpL; split <;> (try split) <;> simp
end Go.Mx
