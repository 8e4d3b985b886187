/- The order of byte strings: plain facts. -/
import Derived.Test.YtloogjdafhjheaaDoorLib2
import Derived.WalkLawsBesides
namespace Go.Mx
open Go

theorem toL_inj {s t : ByteArray} (h : s.toList = t.toList) : s = t := by
  rw [ByteArray.toList_eq, ByteArray.toList_eq] at h
  rw [← str_toList s, ← str_toList t, h]
theorem bl_irrefl (x : List UInt8) : Op.bytesLess x x = false := by
  induction x with
  | nil => rfl
  | cons a x ih => simp [Op.bytesLess, ih, UInt8.lt_irrefl]
theorem bl_asymm : ∀ (x y : List UInt8), Op.bytesLess x y = true → Op.bytesLess y x = false
  | [], [], h => by simp [Op.bytesLess] at h
  | [], _ :: _, _ => rfl
  | _ :: _, [], h => by simp [Op.bytesLess] at h
  | a :: x, b :: y, h => by
    simp only [Op.bytesLess, Bool.or_eq_true, Bool.and_eq_true, decide_eq_true_eq, beq_iff_eq] at h
    simp only [Op.bytesLess]
    rcases h with h | ⟨rfl, h⟩
    · have h1 : ¬ b < a := fun h' => UInt8.lt_irrefl _ (UInt8.lt_trans h h')
      have h2 : b ≠ a := by rintro rfl; exact UInt8.lt_irrefl _ h
      simp [h1, h2]
    · rw [bl_asymm x y h]; simp [UInt8.lt_irrefl]
theorem bl_total : ∀ (x y : List UInt8), Op.bytesLess x y = false → Op.bytesLess y x = false → x = y
  | [], [], _, _ => rfl
  | [], _ :: _, h, _ => by simp [Op.bytesLess] at h
  | _ :: _, [], _, h => by simp [Op.bytesLess] at h
  | a :: x, b :: y, h, h' => by
    simp only [Op.bytesLess, Bool.or_eq_false_iff, Bool.and_eq_false_iff, decide_eq_false_iff_not] at h h'
    have e : a = b := UInt8.le_antisymm (UInt8.not_lt.1 h'.1) (UInt8.not_lt.1 h.1)
    subst e
    have e2 := bl_total x y (by simpa using h.2) (by simpa using h'.2)
    rw [e2]
theorem bl_trans : ∀ (x y z : List UInt8), Op.bytesLess x y = true → Op.bytesLess y z = true → Op.bytesLess x z = true
  | _, _, [], _, h => by cases ‹List UInt8› <;> simp [Op.bytesLess] at h
  | _, [], _ :: _, h, _ => by cases ‹List UInt8› <;> simp [Op.bytesLess] at h
  | [], _ :: _, _ :: _, _, _ => rfl
  | a :: x, b :: y, c :: z, h, h' => by
    simp only [Op.bytesLess, Bool.or_eq_true, Bool.and_eq_true, decide_eq_true_eq, beq_iff_eq] at h h' ⊢
    rcases h with h | ⟨rfl, h⟩
    · rcases h' with h' | ⟨rfl, h'⟩
      · exact .inl (UInt8.lt_trans h h')
      · exact .inl h
    · rcases h' with h' | ⟨rfl, h'⟩
      · exact .inl h'
      · exact .inr ⟨rfl, bl_trans x y z h h'⟩

/-- What Compare tells. -/
def cmpL (x y : List UInt8) : Int := if Op.bytesLess x y then -1 else if x = y then 0 else 1
theorem cmpL_neg (x y : List UInt8) : cmpL y x = - cmpL x y := by
  unfold cmpL
  by_cases h : Op.bytesLess x y = true
  · rw [if_pos h, bl_asymm x y h, if_neg (by simp), if_neg (by rintro rfl; rw [bl_irrefl] at h; cases h)]; rfl
  · have h : Op.bytesLess x y = false := by simpa using h
    by_cases h' : Op.bytesLess y x = true
    · rw [h, if_pos h', if_neg (by simp), if_neg (by rintro rfl; rw [bl_irrefl] at h'; cases h')]
    · have h' : Op.bytesLess y x = false := by simpa using h'
      have := bl_total x y h h'
      subst this
      simp [bl_irrefl]
theorem cmpL_range (x y : List UInt8) : cmpL x y = -1 ∨ cmpL x y = 0 ∨ cmpL x y = 1 := by unfold cmpL; split <;> (try split) <;> simp
end Go.Mx
