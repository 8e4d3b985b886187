/- The walk's numbers and words of 32 bits. Walks of sha: the turn of a word, the schedule. -/
import Derived.Test.YtlfdnlomlbbicaaDoorShaP
import Derived.IntWalk
import Derived.Test.YtlfdnlomlbbicaaDoorJ3Base
namespace Go.Mx
open Go Go.RowKit

theorem w_lt (s : U32) : (s.toNat : Int) < 4294967296 := by have := s.isLt; omega
theorem w_ge (s : U32) : (0 : Int) ≤ (s.toNat : Int) := by omega
theorem w_wrap (z : Int) : IntKind.u32.wrap z = z % 4294967296 := rfl
theorem w_xor (s t : U32) : bits BinOp.xor IntKind.u32 (s.toNat : Int) (t.toNat : Int) = (((s ^^^ t) : U32).toNat : Int) := by
  have h1 := s.isLt
  have h2 := t.isLt
  rw [u32_xor_nat _ _ (by omega) (by omega), BitVec.toNat_xor]
theorem w_ofInt (s : U32) : (BitVec.ofInt 32 (s.toNat : Int)) = s := by
  apply BitVec.eq_of_toNat_eq
  rw [BitVec.ofInt_natCast, BitVec.toNat_ofNat]
  exact Nat.mod_eq_of_lt s.isLt
theorem w_wrapN (s : U32) : IntKind.u32.wrap (s.toNat : Int) = (s.toNat : Int) := by
  rw [w_wrap]; have := w_lt s; omega
theorem w_and (s t : U32) : bits BinOp.and IntKind.u32 (s.toNat : Int) (t.toNat : Int) = (((s &&& t) : U32).toNat : Int) := by
  show IntKind.u32.wrap ((BitVec.ofInt 32 (s.toNat : Int) &&& BitVec.ofInt 32 (t.toNat : Int)).toNat : Int) = _
  rw [w_ofInt, w_ofInt]; exact w_wrapN _
theorem w_or (s t : U32) : bits BinOp.or IntKind.u32 (s.toNat : Int) (t.toNat : Int) = (((s ||| t) : U32).toNat : Int) := by
  show IntKind.u32.wrap ((BitVec.ofInt 32 (s.toNat : Int) ||| BitVec.ofInt 32 (t.toNat : Int)).toNat : Int) = _
  rw [w_ofInt, w_ofInt]; exact w_wrapN _
theorem w_not (s : U32) : bits BinOp.xor IntKind.u32 IntKind.u32.max (s.toNat : Int) = ((~~~s : U32).toNat : Int) := by
  have e : IntKind.u32.max = ((0xFFFFFFFF#32 : U32).toNat : Int) := by decide
  rw [e, w_xor]
  congr 2
theorem w_add (s t : U32) : ((s.toNat : Int) + (t.toNat : Int)) % 4294967296 = (((s + t) : U32).toNat : Int) := by
  rw [BitVec.toNat_add]
  omega
theorem w_shr (s : U32) (k : Nat) : (s.toNat : Int) / (2 : Int) ^ k = (((s >>> k) : U32).toNat : Int) := by
  rw [BitVec.toNat_ushiftRight, Nat.shiftRight_eq_div_pow]
  push_cast
  rfl
theorem w_shl (s : U32) (k : Nat) : ((s.toNat : Int) * (2 : Int) ^ k) % 4294967296 = (((s <<< k) : U32).toNat : Int) := by
  rw [BitVec.toNat_shiftLeft, Nat.shiftLeft_eq, Int.natCast_emod, Int.natCast_mul, Int.natCast_pow]
  have h : ((2 ^ 32 : Nat) : Int) = 4294967296 := by decide
  rw [h]
  rfl
theorem w_shlW (s : U32) (k : Nat) (m : Int) (hm : m = (2 : Int) ^ k) : IntKind.u32.wrap ((s.toNat : Int) * m) = (((s <<< k) : U32).toNat : Int) := by
  subst hm; exact w_shl s k
theorem w_addW (s t : U32) : IntKind.u32.wrap ((s.toNat : Int) + (t.toNat : Int)) = (((s + t) : U32).toNat : Int) := w_add s t
/-- A word out of its bytes, as the walk spells it. -/
theorem w_word (x0 x1 x2 x3 : U32) : bits BinOp.or IntKind.u32 (bits BinOp.or IntKind.u32 (bits BinOp.or IntKind.u32 (IntKind.u32.wrap (IntKind.u32.wrap (x0.toNat : Int) * 16777216)) (IntKind.u32.wrap (IntKind.u32.wrap (x1.toNat : Int) * 65536))) (IntKind.u32.wrap (IntKind.u32.wrap (x2.toNat : Int) * 256))) (IntKind.u32.wrap (x3.toNat : Int)) =
    (((((x0 <<< 24) ||| (x1 <<< 16)) ||| (x2 <<< 8)) ||| x3 : U32).toNat : Int) := by
  rw [w_wrapN, w_wrapN, w_wrapN, w_wrapN, w_shlW x0 24 _ (by decide), w_shlW x1 16 _ (by decide), w_shlW x2 8 _ (by decide), w_or, w_or, w_or]
theorem w_sig0 (x : U32) : bits BinOp.xor IntKind.u32 (bits BinOp.xor IntKind.u32 ((rotr x 7).toNat : Int) ((rotr x 18).toNat : Int)) ((x.toNat : Int) / 8) = ((sig0 x).toNat : Int) := by
  have h := w_shr x 3
  rw [show (2 : Int) ^ 3 = 8 by decide] at h
  rw [h, w_xor, w_xor]; rfl
theorem w_sig1 (x : U32) : bits BinOp.xor IntKind.u32 (bits BinOp.xor IntKind.u32 ((rotr x 17).toNat : Int) ((rotr x 19).toNat : Int)) ((x.toNat : Int) / 1024) = ((sig1 x).toNat : Int) := by
  have h := w_shr x 10
  rw [show (2 : Int) ^ 10 = 1024 by decide] at h
  rw [h, w_xor, w_xor]; rfl
theorem w_sg1 (x : U32) : bits BinOp.xor IntKind.u32 (bits BinOp.xor IntKind.u32 ((rotr x 6).toNat : Int) ((rotr x 11).toNat : Int)) ((rotr x 25).toNat : Int) = ((sg1 x).toNat : Int) := by
  rw [w_xor, w_xor]; rfl
theorem w_sg0 (x : U32) : bits BinOp.xor IntKind.u32 (bits BinOp.xor IntKind.u32 ((rotr x 2).toNat : Int) ((rotr x 13).toNat : Int)) ((rotr x 22).toNat : Int) = ((sg0 x).toNat : Int) := by
  rw [w_xor, w_xor]; rfl
theorem w_byte (x : UInt8) : (x.toNat : Int) = ((by32 x).toNat : Int) := by
  unfold by32
  rw [BitVec.toNat_ofNat]
  have := x.toNat_lt
  congr 1
  omega
theorem w_low (s : U32) : (s.toNat : Int) % 256 = ((UInt8.ofNat s.toNat).toNat : Int) := by
  rw [UInt8.toNat_ofNat']
  omega
/-- The round's numbers, as the walk spells them. -/
theorem w_tm1 (e f gg h x kk ww : U32) : (((h.toNat : Int) + (x.toNat : Int) + bits BinOp.xor IntKind.u32 (bits BinOp.and IntKind.u32 (e.toNat : Int) (f.toNat : Int)) (bits BinOp.and IntKind.u32 (bits BinOp.xor IntKind.u32 (if IntKind.u32.signed = true then -1 else IntKind.u32.max) (e.toNat : Int)) (gg.toNat : Int)) + (kk.toNat : Int)) % 4294967296 + (ww.toNat : Int)) % 4294967296 =
    (((((h + x) + chf e f gg) + kk) + ww : U32).toNat : Int) := by
  have e1 : (if IntKind.u32.signed = true then -1 else IntKind.u32.max) = IntKind.u32.max := rfl
  rw [e1, w_not, w_and, w_and, w_xor]
  change (((h.toNat : Int) + (x.toNat : Int) + ((chf e f gg).toNat : Int) + (kk.toNat : Int)) % 4294967296 + (ww.toNat : Int)) % 4294967296 = _
  generalize chf e f gg = ch
  simp only [BitVec.toNat_add]
  omega
theorem w_maj (y a b c : U32) : ((y.toNat : Int) + bits BinOp.xor IntKind.u32 (bits BinOp.xor IntKind.u32 (bits BinOp.and IntKind.u32 (a.toNat : Int) (b.toNat : Int)) (bits BinOp.and IntKind.u32 (a.toNat : Int) (c.toNat : Int))) (bits BinOp.and IntKind.u32 (b.toNat : Int) (c.toNat : Int))) % 4294967296 = ((y + majf a b c : U32).toNat : Int) := by
  rw [w_and, w_and, w_and, w_xor, w_xor]
  exact w_add _ _
end Go.Mx

namespace Go.Proofs.YtlfdnlomlbbicaaDoor
open Go.RowKit Go.Mx

theorem rotl2_any (x : U32) (w : World) :
    Calls Tryd.prog 59 #[.int .u32 (x.toNat : Int), .int .i64 (-2)] w fun e w' => e = .returned (.int .u32 ((rotr x 2).toNat : Int)) ∧ w = w' := by
  have e1 : bits BinOp.and IntKind.u64 (IntKind.u64.wrap (-2)) 31 = 30 := by decide
  go_enter Tryd.func59, Tryd.ntmps59
  go_wp2_with fail
  go_ret
  refine ⟨?_, rfl⟩
  have h1 := w_shl x 30
  have h2 := w_shr x 2
  have h3 := w_or (x <<< 30) (x >>> 2)
  rw [← h1, ← h2] at h3
  have h4 : rotr x 2 = (x <<< 30) ||| (x >>> 2) := BitVec.or_comm _ _
  rw [h4]
  first | exact congrArg (fun z => Ending.returned (.int .u32 z)) h3 | (simp; exact h3) | trace_state
theorem rotl6_any (x : U32) (w : World) :
    Calls Tryd.prog 59 #[.int .u32 (x.toNat : Int), .int .i64 (-6)] w fun e w' => e = .returned (.int .u32 ((rotr x 6).toNat : Int)) ∧ w = w' := by
  have e1 : bits BinOp.and IntKind.u64 (IntKind.u64.wrap (-6)) 31 = 26 := by decide
  go_enter Tryd.func59, Tryd.ntmps59
  go_wp2_with fail
  go_ret
  refine ⟨?_, rfl⟩
  have h1 := w_shl x 26
  have h2 := w_shr x 6
  have h3 := w_or (x <<< 26) (x >>> 6)
  rw [← h1, ← h2] at h3
  have h4 : rotr x 6 = (x <<< 26) ||| (x >>> 6) := BitVec.or_comm _ _
  rw [h4]
  first | exact congrArg (fun z => Ending.returned (.int .u32 z)) h3 | (simp; exact h3) | trace_state
theorem rotl7_any (x : U32) (w : World) :
    Calls Tryd.prog 59 #[.int .u32 (x.toNat : Int), .int .i64 (-7)] w fun e w' => e = .returned (.int .u32 ((rotr x 7).toNat : Int)) ∧ w = w' := by
  have e1 : bits BinOp.and IntKind.u64 (IntKind.u64.wrap (-7)) 31 = 25 := by decide
  go_enter Tryd.func59, Tryd.ntmps59
  go_wp2_with fail
  go_ret
  refine ⟨?_, rfl⟩
  have h1 := w_shl x 25
  have h2 := w_shr x 7
  have h3 := w_or (x <<< 25) (x >>> 7)
  rw [← h1, ← h2] at h3
  have h4 : rotr x 7 = (x <<< 25) ||| (x >>> 7) := BitVec.or_comm _ _
  rw [h4]
  first | exact congrArg (fun z => Ending.returned (.int .u32 z)) h3 | (simp; exact h3) | trace_state
theorem rotl11_any (x : U32) (w : World) :
    Calls Tryd.prog 59 #[.int .u32 (x.toNat : Int), .int .i64 (-11)] w fun e w' => e = .returned (.int .u32 ((rotr x 11).toNat : Int)) ∧ w = w' := by
  have e1 : bits BinOp.and IntKind.u64 (IntKind.u64.wrap (-11)) 31 = 21 := by decide
  go_enter Tryd.func59, Tryd.ntmps59
  go_wp2_with fail
  go_ret
  refine ⟨?_, rfl⟩
  have h1 := w_shl x 21
  have h2 := w_shr x 11
  have h3 := w_or (x <<< 21) (x >>> 11)
  rw [← h1, ← h2] at h3
  have h4 : rotr x 11 = (x <<< 21) ||| (x >>> 11) := BitVec.or_comm _ _
  rw [h4]
  first | exact congrArg (fun z => Ending.returned (.int .u32 z)) h3 | (simp; exact h3) | trace_state
theorem rotl13_any (x : U32) (w : World) :
    Calls Tryd.prog 59 #[.int .u32 (x.toNat : Int), .int .i64 (-13)] w fun e w' => e = .returned (.int .u32 ((rotr x 13).toNat : Int)) ∧ w = w' := by
  have e1 : bits BinOp.and IntKind.u64 (IntKind.u64.wrap (-13)) 31 = 19 := by decide
  go_enter Tryd.func59, Tryd.ntmps59
  go_wp2_with fail
  go_ret
  refine ⟨?_, rfl⟩
  have h1 := w_shl x 19
  have h2 := w_shr x 13
  have h3 := w_or (x <<< 19) (x >>> 13)
  rw [← h1, ← h2] at h3
  have h4 : rotr x 13 = (x <<< 19) ||| (x >>> 13) := BitVec.or_comm _ _
  rw [h4]
  first | exact congrArg (fun z => Ending.returned (.int .u32 z)) h3 | (simp; exact h3) | trace_state
theorem rotl17_any (x : U32) (w : World) :
    Calls Tryd.prog 59 #[.int .u32 (x.toNat : Int), .int .i64 (-17)] w fun e w' => e = .returned (.int .u32 ((rotr x 17).toNat : Int)) ∧ w = w' := by
  have e1 : bits BinOp.and IntKind.u64 (IntKind.u64.wrap (-17)) 31 = 15 := by decide
  go_enter Tryd.func59, Tryd.ntmps59
  go_wp2_with fail
  go_ret
  refine ⟨?_, rfl⟩
  have h1 := w_shl x 15
  have h2 := w_shr x 17
  have h3 := w_or (x <<< 15) (x >>> 17)
  rw [← h1, ← h2] at h3
  have h4 : rotr x 17 = (x <<< 15) ||| (x >>> 17) := BitVec.or_comm _ _
  rw [h4]
  first | exact congrArg (fun z => Ending.returned (.int .u32 z)) h3 | (simp; exact h3) | trace_state
theorem rotl18_any (x : U32) (w : World) :
    Calls Tryd.prog 59 #[.int .u32 (x.toNat : Int), .int .i64 (-18)] w fun e w' => e = .returned (.int .u32 ((rotr x 18).toNat : Int)) ∧ w = w' := by
  have e1 : bits BinOp.and IntKind.u64 (IntKind.u64.wrap (-18)) 31 = 14 := by decide
  go_enter Tryd.func59, Tryd.ntmps59
  go_wp2_with fail
  go_ret
  refine ⟨?_, rfl⟩
  have h1 := w_shl x 14
  have h2 := w_shr x 18
  have h3 := w_or (x <<< 14) (x >>> 18)
  rw [← h1, ← h2] at h3
  have h4 : rotr x 18 = (x <<< 14) ||| (x >>> 18) := BitVec.or_comm _ _
  rw [h4]
  first | exact congrArg (fun z => Ending.returned (.int .u32 z)) h3 | (simp; exact h3) | trace_state
theorem rotl19_any (x : U32) (w : World) :
    Calls Tryd.prog 59 #[.int .u32 (x.toNat : Int), .int .i64 (-19)] w fun e w' => e = .returned (.int .u32 ((rotr x 19).toNat : Int)) ∧ w = w' := by
  have e1 : bits BinOp.and IntKind.u64 (IntKind.u64.wrap (-19)) 31 = 13 := by decide
  go_enter Tryd.func59, Tryd.ntmps59
  go_wp2_with fail
  go_ret
  refine ⟨?_, rfl⟩
  have h1 := w_shl x 13
  have h2 := w_shr x 19
  have h3 := w_or (x <<< 13) (x >>> 19)
  rw [← h1, ← h2] at h3
  have h4 : rotr x 19 = (x <<< 13) ||| (x >>> 19) := BitVec.or_comm _ _
  rw [h4]
  first | exact congrArg (fun z => Ending.returned (.int .u32 z)) h3 | (simp; exact h3) | trace_state
theorem rotl22_any (x : U32) (w : World) :
    Calls Tryd.prog 59 #[.int .u32 (x.toNat : Int), .int .i64 (-22)] w fun e w' => e = .returned (.int .u32 ((rotr x 22).toNat : Int)) ∧ w = w' := by
  have e1 : bits BinOp.and IntKind.u64 (IntKind.u64.wrap (-22)) 31 = 10 := by decide
  go_enter Tryd.func59, Tryd.ntmps59
  go_wp2_with fail
  go_ret
  refine ⟨?_, rfl⟩
  have h1 := w_shl x 10
  have h2 := w_shr x 22
  have h3 := w_or (x <<< 10) (x >>> 22)
  rw [← h1, ← h2] at h3
  have h4 : rotr x 22 = (x <<< 10) ||| (x >>> 22) := BitVec.or_comm _ _
  rw [h4]
  first | exact congrArg (fun z => Ending.returned (.int .u32 z)) h3 | (simp; exact h3) | trace_state
theorem rotl25_any (x : U32) (w : World) :
    Calls Tryd.prog 59 #[.int .u32 (x.toNat : Int), .int .i64 (-25)] w fun e w' => e = .returned (.int .u32 ((rotr x 25).toNat : Int)) ∧ w = w' := by
  have e1 : bits BinOp.and IntKind.u64 (IntKind.u64.wrap (-25)) 31 = 7 := by decide
  go_enter Tryd.func59, Tryd.ntmps59
  go_wp2_with fail
  go_ret
  refine ⟨?_, rfl⟩
  have h1 := w_shl x 7
  have h2 := w_shr x 25
  have h3 := w_or (x <<< 7) (x >>> 25)
  rw [← h1, ← h2] at h3
  have h4 : rotr x 25 = (x <<< 7) ||| (x >>> 25) := BitVec.or_comm _ _
  rw [h4]
  first | exact congrArg (fun z => Ending.returned (.int .u32 z)) h3 | (simp; exact h3) | trace_state
end Go.Proofs.YtlfdnlomlbbicaaDoor
