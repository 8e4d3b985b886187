/- The walk's numbers and words of 32 bits. -/
import Derived.Test.YtlfdnlomlbbicaaShaP
import Derived.IntWalk
namespace Go.Mx
open Go Go.RowKit

theorem w_lt (s : U32) : (s.toNat : Int) < 4294967296 := by have := s.isLt; omega
theorem w_ge (s : U32) : (0 : Int) ≤ (s.toNat : Int) := by omega
theorem w_wrap (z : Int) : IntKind.u32.wrap z = z % 4294967296 := rfl
theorem w_xor (s t : U32) : bits BinOp.xor IntKind.u32 (s.toNat : Int) (t.toNat : Int) = (((s ^^^ t) : U32).toNat : Int) := by
  have h1 := s.isLt
  have h2 := t.isLt
  rw [u32_xor_nat _ _ (by omega) (by omega), BitVec.toNat_xor]
theorem w_ofInt (s : U32) : (BitVec.ofInt 32 (s.toNat : Int)) = s := by
  apply BitVec.eq_of_toNat_eq
  rw [BitVec.ofInt_natCast, BitVec.toNat_ofNat]
  exact Nat.mod_eq_of_lt s.isLt
theorem w_wrapN (s : U32) : IntKind.u32.wrap (s.toNat : Int) = (s.toNat : Int) := by
  rw [w_wrap]; have := w_lt s; omega
theorem w_and (s t : U32) : bits BinOp.and IntKind.u32 (s.toNat : Int) (t.toNat : Int) = (((s &&& t) : U32).toNat : Int) := by
  show IntKind.u32.wrap ((BitVec.ofInt 32 (s.toNat : Int) &&& BitVec.ofInt 32 (t.toNat : Int)).toNat : Int) = _
  rw [w_ofInt, w_ofInt]; exact w_wrapN _
theorem w_or (s t : U32) : bits BinOp.or IntKind.u32 (s.toNat : Int) (t.toNat : Int) = (((s ||| t) : U32).toNat : Int) := by
  show IntKind.u32.wrap ((BitVec.ofInt 32 (s.toNat : Int) ||| BitVec.ofInt 32 (t.toNat : Int)).toNat : Int) = _
  rw [w_ofInt, w_ofInt]; exact w_wrapN _
theorem w_not (s : U32) : bits BinOp.xor IntKind.u32 IntKind.u32.max (s.toNat : Int) = ((~~~s : U32).toNat : Int) := by
  have e : IntKind.u32.max = ((0xFFFFFFFF#32 : U32).toNat : Int) := by decide
  rw [e, w_xor]
  congr 2
theorem w_add (s t : U32) : ((s.toNat : Int) + (t.toNat : Int)) % 4294967296 = (((s + t) : U32).toNat : Int) := by
  rw [BitVec.toNat_add]
  omega
theorem w_shr (s : U32) (k : Nat) : (s.toNat : Int) / (2 : Int) ^ k = (((s >>> k) : U32).toNat : Int) := by
  rw [BitVec.toNat_ushiftRight, Nat.shiftRight_eq_div_pow]
  push_cast
  rfl
theorem w_shl (s : U32) (k : Nat) : ((s.toNat : Int) * (2 : Int) ^ k) % 4294967296 = (((s <<< k) : U32).toNat : Int) := by
  rw [BitVec.toNat_shiftLeft, Nat.shiftLeft_eq, Int.natCast_emod, Int.natCast_mul, Int.natCast_pow]
  have h : ((2 ^ 32 : Nat) : Int) = 4294967296 := by decide
  rw [h]
  rfl
theorem w_shlW (s : U32) (k : Nat) (m : Int) (hm : m = (2 : Int) ^ k) : IntKind.u32.wrap ((s.toNat : Int) * m) = (((s <<< k) : U32).toNat : Int) := by
  subst hm; exact w_shl s k
theorem w_addW (s t : U32) : IntKind.u32.wrap ((s.toNat : Int) + (t.toNat : Int)) = (((s + t) : U32).toNat : Int) := w_add s t
/-- A word out of its bytes, as the walk spells it. -/
theorem w_word (x0 x1 x2 x3 : U32) : bits BinOp.or IntKind.u32 (bits BinOp.or IntKind.u32 (bits BinOp.or IntKind.u32 (IntKind.u32.wrap (IntKind.u32.wrap (x0.toNat : Int) * 16777216)) (IntKind.u32.wrap (IntKind.u32.wrap (x1.toNat : Int) * 65536))) (IntKind.u32.wrap (IntKind.u32.wrap (x2.toNat : Int) * 256))) (IntKind.u32.wrap (x3.toNat : Int)) =
    (((((x0 <<< 24) ||| (x1 <<< 16)) ||| (x2 <<< 8)) ||| x3 : U32).toNat : Int) := by
  rw [w_wrapN, w_wrapN, w_wrapN, w_wrapN, w_shlW x0 24 _ (by decide), w_shlW x1 16 _ (by decide), w_shlW x2 8 _ (by decide), w_or, w_or, w_or]
theorem w_sig0 (x : U32) : bits BinOp.xor IntKind.u32 (bits BinOp.xor IntKind.u32 ((rotr x 7).toNat : Int) ((rotr x 18).toNat : Int)) ((x.toNat : Int) / 8) = ((sig0 x).toNat : Int) := by
  have h := w_shr x 3
  rw [show (2 : Int) ^ 3 = 8 by decide] at h
  rw [h, w_xor, w_xor]; rfl
theorem w_sig1 (x : U32) : bits BinOp.xor IntKind.u32 (bits BinOp.xor IntKind.u32 ((rotr x 17).toNat : Int) ((rotr x 19).toNat : Int)) ((x.toNat : Int) / 1024) = ((sig1 x).toNat : Int) := by
  have h := w_shr x 10
  rw [show (2 : Int) ^ 10 = 1024 by decide] at h
  rw [h, w_xor, w_xor]; rfl
theorem w_sg1 (x : U32) : bits BinOp.xor IntKind.u32 (bits BinOp.xor IntKind.u32 ((rotr x 6).toNat : Int) ((rotr x 11).toNat : Int)) ((rotr x 25).toNat : Int) = ((sg1 x).toNat : Int) := by
  rw [w_xor, w_xor]; rfl
theorem w_sg0 (x : U32) : bits BinOp.xor IntKind.u32 (bits BinOp.xor IntKind.u32 ((rotr x 2).toNat : Int) ((rotr x 13).toNat : Int)) ((rotr x 22).toNat : Int) = ((sg0 x).toNat : Int) := by
  rw [w_xor, w_xor]; rfl
theorem w_byte (x : UInt8) : (x.toNat : Int) = ((by32 x).toNat : Int) := by
  unfold by32
  rw [BitVec.toNat_ofNat]
  have := x.toNat_lt
  congr 1
  omega
theorem w_low (s : U32) : (s.toNat : Int) % 256 = ((UInt8.ofNat s.toNat).toNat : Int) := by
  rw [UInt8.toNat_ofNat']
  omega
/-- The round's numbers, as the walk spells them. -/
theorem w_tm1 (e f gg h x kk ww : U32) : (((h.toNat : Int) + (x.toNat : Int) + bits BinOp.xor IntKind.u32 (bits BinOp.and IntKind.u32 (e.toNat : Int) (f.toNat : Int)) (bits BinOp.and IntKind.u32 (bits BinOp.xor IntKind.u32 (if IntKind.u32.signed = true then -1 else IntKind.u32.max) (e.toNat : Int)) (gg.toNat : Int)) + (kk.toNat : Int)) % 4294967296 + (ww.toNat : Int)) % 4294967296 =
    (((((h + x) + chf e f gg) + kk) + ww : U32).toNat : Int) := by
  have e1 : (if IntKind.u32.signed = true then -1 else IntKind.u32.max) = IntKind.u32.max := rfl
  rw [e1, w_not, w_and, w_and, w_xor]
  change (((h.toNat : Int) + (x.toNat : Int) + ((chf e f gg).toNat : Int) + (kk.toNat : Int)) % 4294967296 + (ww.toNat : Int)) % 4294967296 = _
  generalize chf e f gg = ch
  simp only [BitVec.toNat_add]
  omega
theorem w_maj (y a b c : U32) : ((y.toNat : Int) + bits BinOp.xor IntKind.u32 (bits BinOp.xor IntKind.u32 (bits BinOp.and IntKind.u32 (a.toNat : Int) (b.toNat : Int)) (bits BinOp.and IntKind.u32 (a.toNat : Int) (c.toNat : Int))) (bits BinOp.and IntKind.u32 (b.toNat : Int) (c.toNat : Int))) % 4294967296 = ((y + majf a b c : U32).toNat : Int) := by
  rw [w_and, w_and, w_and, w_xor, w_xor]
  exact w_add _ _
end Go.Mx
