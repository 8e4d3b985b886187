/- The check sum: the plain mathematics (no program in sight). -/
import Init
namespace Go.Mx

abbrev W32 := BitVec 32
def poly : W32 := 0xEDB88320#32
def stepB (s : W32) : W32 := (s >>> 1) ^^^ (if s.getLsbD 0 then poly else 0#32)
def stepN : Nat → W32 → W32
  | 0, s => s
  | n + 1, s => stepN n (stepB s)

theorem stepN_succ' (n : Nat) (s : W32) : stepN (n + 1) s = stepB (stepN n s) := by
  induction n generalizing s with
  | zero => rfl
  | succ n ih => rw [stepN, ih, stepN]
theorem stepN_add (n m : Nat) (s : W32) : stepN (n + m) s = stepN m (stepN n s) := by
  induction m with
  | zero => rfl
  | succ m ih => rw [← Nat.add_assoc, stepN_succ', ih, ← stepN_succ']

theorem stepB_xor (a b : W32) : stepB (a ^^^ b) = stepB a ^^^ stepB b := by
  unfold stepB
  rw [BitVec.ushiftRight_xor_distrib, BitVec.getLsbD_xor]
  cases a.getLsbD 0 <;> cases b.getLsbD 0
  · simp
  · simp only [Bool.bne_true, Bool.not_false, Bool.false_eq_true, if_true, if_false, BitVec.xor_zero]; ac_rfl
  · simp only [Bool.bne_false, if_true, if_false, Bool.false_eq_true, BitVec.xor_zero]; ac_rfl
  · simp only [bne_self_eq_false, Bool.false_eq_true, if_true, if_false, BitVec.xor_zero]
    have h : a >>> 1 ^^^ poly ^^^ (b >>> 1 ^^^ poly) = (a >>> 1 ^^^ b >>> 1) ^^^ (poly ^^^ poly) := by ac_rfl
    rw [h, BitVec.xor_self, BitVec.xor_zero]
theorem stepN_xor (n : Nat) (a b : W32) : stepN n (a ^^^ b) = stepN n a ^^^ stepN n b := by
  induction n generalizing a b with
  | zero => rfl
  | succ n ih => rw [stepN, stepB_xor, ih]; rfl

theorem stepB_even {a : W32} (h : a.getLsbD 0 = false) : stepB a = a >>> 1 := by rw [stepB, h]; simp
theorem stepN_hi (n : Nat) : ∀ a : W32, (∀ i, i < n → a.getLsbD i = false) → stepN n a = a >>> n := by
  induction n with
  | zero => intro a _; simp [stepN]
  | succ n ih =>
    intro a h
    rw [stepN, stepB_even (h 0 (by omega)), ih _ (fun i hi => by rw [BitVec.getLsbD_ushiftRight]; exact h _ (by omega)), ← BitVec.shiftRight_add, Nat.add_comm]

theorem split4 (s : W32) : s = (s &&& 15#32) ^^^ (s &&& ~~~15#32) := by
  ext i hi
  simp only [BitVec.getElem_xor, BitVec.getElem_and, BitVec.getElem_not]
  cases s[i] <;> simp

theorem nib (s : W32) : stepN 4 s = stepN 4 (s &&& 15#32) ^^^ (s >>> 4) := by
  have h15 : ∀ i : Nat, i < 4 → (15#32).getLsbD i = true := by decide
  have hs : (s &&& ~~~15#32) >>> 4 = s >>> 4 := by
    apply BitVec.eq_of_getLsbD_eq
    intro i hi
    have hz : i < 28 → (15#32).getLsbD (4 + i) = false := by
      intro hi
      have : ∀ j : Nat, j < 28 → (15#32).getLsbD (4 + j) = false := by decide
      exact this i hi
    simp only [BitVec.getLsbD_ushiftRight, BitVec.getLsbD_and, BitVec.getLsbD_not]
    by_cases h : i < 28
    · rw [hz h]; simp; intro _; omega
    · have : s.getLsbD (4 + i) = false := BitVec.getLsbD_of_ge _ _ (by omega)
      rw [this]; simp
  conv => lhs; rw [split4 s]
  rw [stepN_xor, stepN_hi 4 (s &&& ~~~15#32), hs]
  intro i hi
  rw [BitVec.getLsbD_and, BitVec.getLsbD_not, h15 i hi]
  simp

/-- One byte. -/
def crcByte (s : W32) (x : UInt8) : W32 := stepN 8 (s ^^^ BitVec.ofNat 32 x.toNat)
def crcFold (s : W32) (b : List UInt8) : W32 := b.foldl crcByte s
def crcS (b : List UInt8) : W32 := ~~~ crcFold 0xFFFFFFFF#32 b

theorem crcByte_nib (s : W32) (x : UInt8) : crcByte s x =
    (let s1 := s ^^^ BitVec.ofNat 32 x.toNat
     let s2 := stepN 4 (s1 &&& 15#32) ^^^ (s1 >>> 4)
     stepN 4 (s2 &&& 15#32) ^^^ (s2 >>> 4)) := by
  unfold crcByte
  rw [show 8 = 4 + 4 from rfl, stepN_add, nib (stepN 4 _), nib (s ^^^ _)]

theorem crcFold_snoc (s : W32) (b : List UInt8) (x : UInt8) : crcFold s (b ++ [x]) = crcByte (crcFold s b) x := by simp [crcFold]
end Go.Mx
