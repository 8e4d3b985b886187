/- Sums together, and one byte turned: plain facts. -/
import Derived.Test.YtloogjdafhjheaaDoorCrcP
namespace Go.Mx
open Go

theorem stepB_zero {s : W32} (h : stepB s = 0#32) : s = 0#32 := by
  cases hl : s.getLsbD 0 with
  | true =>
    exfalso
    rw [stepB, hl, if_pos rfl] at h
    have := congrArg (fun v : W32 => v.getLsbD 31) h
    simp [poly] at this
  | false =>
    rw [stepB_even hl] at h
    apply BitVec.eq_of_getLsbD_eq
    intro i hi
    by_cases h0 : i = 0
    · subst h0; rw [hl]; simp
    · have := congrArg (fun v : W32 => v.getLsbD (i - 1)) h
      simp only [BitVec.getLsbD_ushiftRight, BitVec.getLsbD_zero] at this
      rw [show 1 + (i - 1) = i by omega] at this
      rw [this]; simp
theorem xor_eq_zero' {a b : W32} (h : a ^^^ b = 0#32) : a = b := by
  have : a ^^^ b ^^^ b = 0#32 ^^^ b := by rw [h]
  rw [BitVec.xor_assoc, BitVec.xor_self] at this
  simpa using this
theorem stepB_inj {a b : W32} (h : stepB a = stepB b) : a = b :=
  xor_eq_zero' (stepB_zero (by rw [stepB_xor, h, BitVec.xor_self]))
theorem stepN_inj : ∀ (n : Nat) {a b : W32}, stepN n a = stepN n b → a = b
  | 0, _, _, h => h
  | n + 1, a, b, h => by
    rw [stepN_succ', stepN_succ'] at h
    exact stepN_inj n (stepB_inj h)
theorem byte_w_inj {x y : UInt8} (h : BitVec.ofNat 32 x.toNat = BitVec.ofNat 32 y.toNat) : x = y := by
  have := congrArg BitVec.toNat h
  rw [BitVec.toNat_ofNat, BitVec.toNat_ofNat] at this
  have h1 := x.toNat_lt
  have h2 := y.toNat_lt
  exact UInt8.toNat_inj.1 (by omega)
theorem xor_left_inj {a b c : W32} (h : a ^^^ b = a ^^^ c) : b = c := by
  have : a ^^^ (a ^^^ b) = a ^^^ (a ^^^ c) := by rw [h]
  rw [← BitVec.xor_assoc, ← BitVec.xor_assoc, BitVec.xor_self] at this
  simpa using this
theorem crcByte_st {s t : W32} {x : UInt8} (h : crcByte s x = crcByte t x) : s = t := by
  have := stepN_inj 8 h
  rw [BitVec.xor_comm s, BitVec.xor_comm t] at this
  exact xor_left_inj this
theorem crcByte_by {s : W32} {x y : UInt8} (h : crcByte s x = crcByte s y) : x = y := byte_w_inj (xor_left_inj (stepN_inj 8 h))
theorem crcFold_st : ∀ (l : List UInt8) {s t : W32}, crcFold s l = crcFold t l → s = t
  | [], _, _, h => h
  | x :: l, s, t, h => crcByte_st (crcFold_st l (s := crcByte s x) (t := crcByte t x) h)
theorem crcFold_app (s : W32) (l m : List UInt8) : crcFold s (l ++ m) = crcFold (crcFold s l) m := by simp [crcFold]
theorem not_w_inj {a b : W32} (h : ~~~a = ~~~b) : a = b := by
  have : ~~~ ~~~ a = ~~~ ~~~ b := by rw [h]
  simpa using this
/-- A byte turned has another sum. -/
theorem crcS_turn {l m : List UInt8} {x y : UInt8} (h : x ≠ y) : crcS (l ++ [x] ++ m) ≠ crcS (l ++ [y] ++ m) := by
  intro he
  have h1 := not_w_inj he
  rw [crcFold_app _ (l ++ [x]), crcFold_app _ (l ++ [y])] at h1
  have h2 := crcFold_st m h1
  rw [crcFold_snoc, crcFold_snoc] at h2
  exact h (crcByte_by h2)

theorem byte_xor (x y : UInt8) : BitVec.ofNat 32 (x ^^^ y).toNat = BitVec.ofNat 32 x.toNat ^^^ BitVec.ofNat 32 y.toNat := by
  apply BitVec.eq_of_toNat_eq
  have h1 := x.toNat_lt
  have h2 := y.toNat_lt
  have h3 := (x ^^^ y).toNat_lt
  rw [BitVec.toNat_xor, BitVec.toNat_ofNat, BitVec.toNat_ofNat, BitVec.toNat_ofNat, Nat.mod_eq_of_lt (by omega), Nat.mod_eq_of_lt (by omega), Nat.mod_eq_of_lt (by omega), UInt8.toNat_xor]
theorem xor_mid (a b c d : W32) : (a ^^^ b) ^^^ (c ^^^ d) = (a ^^^ c) ^^^ (b ^^^ d) := by
  rw [BitVec.xor_assoc, BitVec.xor_assoc, ← BitVec.xor_assoc b c d, BitVec.xor_comm b c, BitVec.xor_assoc c b d]
theorem crcByte_xor (s t : W32) (x y : UInt8) : crcByte (s ^^^ t) (x ^^^ y) = crcByte s x ^^^ crcByte t y := by
  unfold crcByte
  rw [byte_xor, xor_mid, stepN_xor]
/-- Three lists of one length taken together. -/
def xor3 : List UInt8 → List UInt8 → List UInt8 → List UInt8
  | x :: a, y :: b, z :: c => (x ^^^ y ^^^ z) :: xor3 a b c
  | _, _, _ => []
theorem xor3_len : ∀ {a b c : List UInt8}, b.length = a.length → c.length = a.length → (xor3 a b c).length = a.length
  | [], _, _, _, _ => by simp [xor3]
  | _ :: _, [], _, h, _ => by simp at h
  | _ :: _, _ :: _, [], _, h => by simp at h
  | x :: a, y :: b, z :: c, h, h' => by simp [xor3, xor3_len (a := a) (b := b) (c := c) (by simpa using h) (by simpa using h')]
theorem xor3_get : ∀ {a b c : List UInt8} (k : Nat) (h1 : k < a.length) (h2 : k < b.length) (h3 : k < c.length), (xor3 a b c)[k]? = some (a[k] ^^^ b[k] ^^^ c[k])
  | x :: a, y :: b, z :: c, 0, _, _, _ => by simp [xor3]
  | x :: a, y :: b, z :: c, k + 1, h1, h2, h3 => by
    have := xor3_get (a := a) (b := b) (c := c) k (by simpa using h1) (by simpa using h2) (by simpa using h3)
    simpa [xor3] using this
theorem crcFold_xor3 : ∀ {a b c : List UInt8} (_ : b.length = a.length) (_ : c.length = a.length) (s t u : W32), crcFold (s ^^^ t ^^^ u) (xor3 a b c) = crcFold s a ^^^ crcFold t b ^^^ crcFold u c
  | [], b, c, h, h', s, t, u => by
    obtain rfl := List.eq_nil_of_length_eq_zero h
    obtain rfl := List.eq_nil_of_length_eq_zero h'
    rfl
  | _ :: _, [], _, h, _, _, _, _ => by simp at h
  | _ :: _, _ :: _, [], _, h, _, _, _ => by simp at h
  | x :: a, y :: b, z :: c, h, h', s, t, u => by
    have ih := crcFold_xor3 (a := a) (b := b) (c := c) (by simpa using h) (by simpa using h') (crcByte s x) (crcByte t y) (crcByte u z)
    show crcFold (crcByte (s ^^^ t ^^^ u) (x ^^^ y ^^^ z)) (xor3 a b c) = _
    rw [crcByte_xor, crcByte_xor, ih]
    rfl
theorem not3 (a b c : W32) : ~~~(a ^^^ b ^^^ c) = ~~~a ^^^ ~~~b ^^^ ~~~c := by
  apply BitVec.eq_of_getLsbD_eq
  intro i hi
  simp only [BitVec.getLsbD_not, BitVec.getLsbD_xor, hi, decide_true, Bool.true_and]
  cases a.getLsbD i <;> cases b.getLsbD i <;> cases c.getLsbD i <;> rfl
theorem crcS_xor3 {a b c : List UInt8} (h : b.length = a.length) (h' : c.length = a.length) : crcS (xor3 a b c) = crcS a ^^^ crcS b ^^^ crcS c := by
  unfold crcS
  rw [← not3, ← crcFold_xor3 h h']
  congr 2
end Go.Mx
