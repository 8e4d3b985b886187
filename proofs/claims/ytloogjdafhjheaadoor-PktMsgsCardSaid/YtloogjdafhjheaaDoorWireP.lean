/- Numbers as bytes: the plain mathematics (no program in sight). -/
import Init
namespace Go.Mx

def putL (n : Nat) : List UInt8 := if h : n < 128 then [UInt8.ofNat n] else UInt8.ofNat (n % 128 + 128) :: putL (n / 128)
  termination_by n
  decreasing_by omega

theorem putL_le (k : Nat) : ∀ n, n < 128 ^ k → (putL n).length ≤ max k 1 := by
  induction k with
  | zero => intro n h; have : n = 0 := by simpa using h
            subst this; rw [putL]; simp
  | succ k ih =>
    intro n h
    rw [putL]
    split
    · simp
    · have := ih (n / 128) (by rw [Nat.pow_succ] at h; exact Nat.div_lt_of_lt_mul (by omega))
      have h0 : k ≠ 0 := by rintro rfl; simp at h; omega
      simp; omega

/-- The value of bytes, seven bits each, the least first. -/
def valL : List UInt8 → Nat
  | [] => 0
  | y :: l => y.toNat % 128 + 128 * valL l

/-- How many bytes have their highest bit, ahead of the first that has not. -/
def hiN : List UInt8 → Nat
  | [] => 0
  | y :: l => if 128 ≤ y.toNat then hiN l + 1 else 0

theorem hiN_le (l : List UInt8) : hiN l ≤ l.length := by
  induction l with
  | nil => simp [hiN]
  | cons y l ih => rw [hiN]; split <;> simp; omega

theorem hiN_hi {l : List UInt8} : ∀ {j : Nat} (_ : j < hiN l) (h : j < l.length), 128 ≤ l[j].toNat := by
  induction l with
  | nil => intro j hj; simp [hiN] at hj
  | cons y l ih =>
    intro j hj h
    rw [hiN] at hj
    split at hj
    · cases j with
      | zero => simpa
      | succ j => simpa using ih (by omega) (by simpa using h)
    · omega

theorem hiN_lo {l : List UInt8} : ∀ (h : hiN l < l.length), l[hiN l].toNat < 128 := by
  induction l with
  | nil => intro h; simp at h
  | cons y l ih =>
    intro h
    by_cases hy : 128 ≤ y.toNat
    · have e : hiN (y :: l) = hiN l + 1 := by rw [hiN, if_pos hy]
      have h' : hiN l < l.length := by rw [e] at h; simpa using h
      have := ih h'
      simp only [e, List.getElem_cons_succ]
      exact this
    · have e : hiN (y :: l) = 0 := by rw [hiN, if_neg hy]
      simp only [e, List.getElem_cons_zero]
      omega

theorem valL_lt (l : List UInt8) : valL l < 128 ^ l.length := by
  induction l with
  | nil => simp [valL]
  | cons y l ih => rw [valL, List.length_cons, Nat.pow_succ]; omega

theorem valL_app (l m : List UInt8) : valL (l ++ m) = valL l + 128 ^ l.length * valL m := by
  induction l with
  | nil => simp [valL]
  | cons y l ih =>
    rw [List.cons_append, valL, valL, ih, List.length_cons, Nat.pow_succ, Nat.mul_add, ← Nat.mul_assoc, Nat.mul_comm 128 (128 ^ l.length)]
    omega

theorem valL_snoc (l : List UInt8) (y : UInt8) : valL (l ++ [y]) = valL l + 128 ^ l.length * (y.toNat % 128) := by
  rw [valL_app]; simp [valL]

theorem valL_put (n : Nat) : valL (putL n) = n := by
  induction n using Nat.strongRecOn with
  | _ n ih =>
    rw [putL]
    split
    · rename_i h
      simp only [valL]
      rw [UInt8.toNat_ofNat']
      omega
    · rename_i h
      simp only [valL]
      rw [ih (n / 128) (by omega), UInt8.toNat_ofNat']
      omega

theorem putL_ne (n : Nat) : putL n ≠ [] := by rw [putL]; split <;> simp

theorem hiN_put (n : Nat) : hiN (putL n) + 1 = (putL n).length := by
  induction n using Nat.strongRecOn with
  | _ n ih =>
    rw [putL]
    split
    · rename_i h
      simp only [hiN, List.length_singleton]
      rw [if_neg (by rw [UInt8.toNat_ofNat']; omega)]
    · rename_i h
      simp only [hiN, List.length_cons]
      rw [if_pos (by rw [UInt8.toNat_ofNat']; omega), ih (n / 128) (by omega)]

theorem hiN_app {l m : List UInt8} (h : hiN l < l.length) : hiN (l ++ m) = hiN l := by
  induction l with
  | nil => simp at h
  | cons y l ih =>
    rw [List.cons_append, hiN, hiN]
    split
    · rename_i hy
      rw [hiN, if_pos hy] at h
      rw [ih (by simpa using h)]
    · rfl

/-- What Get tells: the number, the place behind it, the error. -/
def getS (b : List UInt8) (at_ : Int) : Int × Int × Int :=
  if at_ < 0 ∨ (b.length : Int) < at_ then (0, 0, 1)
  else if at_.toNat + hiN (b.drop at_.toNat) = b.length then (0, 0, 2)
  else if 9 < hiN (b.drop at_.toNat) + 1 ∨ 72057594037927936 < valL ((b.drop at_.toNat).take (hiN (b.drop at_.toNat) + 1)) ∨
      putL (valL ((b.drop at_.toNat).take (hiN (b.drop at_.toNat) + 1))) ≠ (b.drop at_.toNat).take (hiN (b.drop at_.toNat) + 1) then (0, 0, 4)
  else (valL ((b.drop at_.toNat).take (hiN (b.drop at_.toNat) + 1)), at_.toNat + hiN (b.drop at_.toNat) + 1, 0)
end Go.Mx
