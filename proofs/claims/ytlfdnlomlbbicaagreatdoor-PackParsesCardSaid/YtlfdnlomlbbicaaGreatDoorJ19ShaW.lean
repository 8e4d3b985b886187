/- The walk's numbers and words of 32 bits. Walks of sha: the turn of a word, the schedule. Walk of sha.schedule. -/
import Derived.Test.YtlfdnlomlbbicaaGreatDoorJ2ShaP
import Derived.IntWalk
import Derived.Test.YtlfdnlomlbbicaaGreatDoorJ4Lib3
import Derived.Test.YtlfdnlomlbbicaaGreatDoorJ5RegC
namespace Go.Mx
open Go Go.RowKit

theorem w_lt (s : U32) : (s.toNat : Int) < 4294967296 := by have := s.isLt; omega
theorem w_ge (s : U32) : (0 : Int) ≤ (s.toNat : Int) := by omega
theorem w_wrap (z : Int) : IntKind.u32.wrap z = z % 4294967296 := rfl
theorem w_xor (s t : U32) : bits BinOp.xor IntKind.u32 (s.toNat : Int) (t.toNat : Int) = (((s ^^^ t) : U32).toNat : Int) := by
  have h1 := s.isLt
  have h2 := t.isLt
  rw [u32_xor_nat _ _ (by omega) (by omega), BitVec.toNat_xor]
theorem w_ofInt (s : U32) : (BitVec.ofInt 32 (s.toNat : Int)) = s := by
  apply BitVec.eq_of_toNat_eq
  rw [BitVec.ofInt_natCast, BitVec.toNat_ofNat]
  exact Nat.mod_eq_of_lt s.isLt
theorem w_wrapN (s : U32) : IntKind.u32.wrap (s.toNat : Int) = (s.toNat : Int) := by
  rw [w_wrap]; have := w_lt s; omega
theorem w_and (s t : U32) : bits BinOp.and IntKind.u32 (s.toNat : Int) (t.toNat : Int) = (((s &&& t) : U32).toNat : Int) := by
  show IntKind.u32.wrap ((BitVec.ofInt 32 (s.toNat : Int) &&& BitVec.ofInt 32 (t.toNat : Int)).toNat : Int) = _
  rw [w_ofInt, w_ofInt]; exact w_wrapN _
theorem w_or (s t : U32) : bits BinOp.or IntKind.u32 (s.toNat : Int) (t.toNat : Int) = (((s ||| t) : U32).toNat : Int) := by
  show IntKind.u32.wrap ((BitVec.ofInt 32 (s.toNat : Int) ||| BitVec.ofInt 32 (t.toNat : Int)).toNat : Int) = _
  rw [w_ofInt, w_ofInt]; exact w_wrapN _
theorem w_not (s : U32) : bits BinOp.xor IntKind.u32 IntKind.u32.max (s.toNat : Int) = ((~~~s : U32).toNat : Int) := by
  have e : IntKind.u32.max = ((0xFFFFFFFF#32 : U32).toNat : Int) := by decide
  rw [e, w_xor]
  congr 2
theorem w_add (s t : U32) : ((s.toNat : Int) + (t.toNat : Int)) % 4294967296 = (((s + t) : U32).toNat : Int) := by
  rw [BitVec.toNat_add]
  omega
theorem w_shr (s : U32) (k : Nat) : (s.toNat : Int) / (2 : Int) ^ k = (((s >>> k) : U32).toNat : Int) := by
  rw [BitVec.toNat_ushiftRight, Nat.shiftRight_eq_div_pow]
  push_cast
  rfl
theorem w_shl (s : U32) (k : Nat) : ((s.toNat : Int) * (2 : Int) ^ k) % 4294967296 = (((s <<< k) : U32).toNat : Int) := by
  rw [BitVec.toNat_shiftLeft, Nat.shiftLeft_eq, Int.natCast_emod, Int.natCast_mul, Int.natCast_pow]
  have h : ((2 ^ 32 : Nat) : Int) = 4294967296 := by decide
  rw [h]
  rfl
theorem w_shlW (s : U32) (k : Nat) (m : Int) (hm : m = (2 : Int) ^ k) : IntKind.u32.wrap ((s.toNat : Int) * m) = (((s <<< k) : U32).toNat : Int) := by
  subst hm; exact w_shl s k
theorem w_addW (s t : U32) : IntKind.u32.wrap ((s.toNat : Int) + (t.toNat : Int)) = (((s + t) : U32).toNat : Int) := w_add s t
/-- A word out of its bytes, as the walk spells it. -/
theorem w_word (x0 x1 x2 x3 : U32) : bits BinOp.or IntKind.u32 (bits BinOp.or IntKind.u32 (bits BinOp.or IntKind.u32 (IntKind.u32.wrap (IntKind.u32.wrap (x0.toNat : Int) * 16777216)) (IntKind.u32.wrap (IntKind.u32.wrap (x1.toNat : Int) * 65536))) (IntKind.u32.wrap (IntKind.u32.wrap (x2.toNat : Int) * 256))) (IntKind.u32.wrap (x3.toNat : Int)) =
    (((((x0 <<< 24) ||| (x1 <<< 16)) ||| (x2 <<< 8)) ||| x3 : U32).toNat : Int) := by
  rw [w_wrapN, w_wrapN, w_wrapN, w_wrapN, w_shlW x0 24 _ (by decide), w_shlW x1 16 _ (by decide), w_shlW x2 8 _ (by decide), w_or, w_or, w_or]
theorem w_sig0 (x : U32) : bits BinOp.xor IntKind.u32 (bits BinOp.xor IntKind.u32 ((rotr x 7).toNat : Int) ((rotr x 18).toNat : Int)) ((x.toNat : Int) / 8) = ((sig0 x).toNat : Int) := by
  have h := w_shr x 3
  rw [show (2 : Int) ^ 3 = 8 by decide] at h
  rw [h, w_xor, w_xor]; rfl
theorem w_sig1 (x : U32) : bits BinOp.xor IntKind.u32 (bits BinOp.xor IntKind.u32 ((rotr x 17).toNat : Int) ((rotr x 19).toNat : Int)) ((x.toNat : Int) / 1024) = ((sig1 x).toNat : Int) := by
  have h := w_shr x 10
  rw [show (2 : Int) ^ 10 = 1024 by decide] at h
  rw [h, w_xor, w_xor]; rfl
theorem w_sg1 (x : U32) : bits BinOp.xor IntKind.u32 (bits BinOp.xor IntKind.u32 ((rotr x 6).toNat : Int) ((rotr x 11).toNat : Int)) ((rotr x 25).toNat : Int) = ((sg1 x).toNat : Int) := by
  rw [w_xor, w_xor]; rfl
theorem w_sg0 (x : U32) : bits BinOp.xor IntKind.u32 (bits BinOp.xor IntKind.u32 ((rotr x 2).toNat : Int) ((rotr x 13).toNat : Int)) ((rotr x 22).toNat : Int) = ((sg0 x).toNat : Int) := by
  rw [w_xor, w_xor]; rfl
theorem w_byte (x : UInt8) : (x.toNat : Int) = ((by32 x).toNat : Int) := by
  unfold by32
  rw [BitVec.toNat_ofNat]
  have := x.toNat_lt
  congr 1
  omega
theorem w_low (s : U32) : (s.toNat : Int) % 256 = ((UInt8.ofNat s.toNat).toNat : Int) := by
  rw [UInt8.toNat_ofNat']
  omega
/-- The round's numbers, as the walk spells them. -/
theorem w_tm1 (e f gg h x kk ww : U32) : (((h.toNat : Int) + (x.toNat : Int) + bits BinOp.xor IntKind.u32 (bits BinOp.and IntKind.u32 (e.toNat : Int) (f.toNat : Int)) (bits BinOp.and IntKind.u32 (bits BinOp.xor IntKind.u32 (if IntKind.u32.signed = true then -1 else IntKind.u32.max) (e.toNat : Int)) (gg.toNat : Int)) + (kk.toNat : Int)) % 4294967296 + (ww.toNat : Int)) % 4294967296 =
    (((((h + x) + chf e f gg) + kk) + ww : U32).toNat : Int) := by
  have e1 : (if IntKind.u32.signed = true then -1 else IntKind.u32.max) = IntKind.u32.max := rfl
  rw [e1, w_not, w_and, w_and, w_xor]
  change (((h.toNat : Int) + (x.toNat : Int) + ((chf e f gg).toNat : Int) + (kk.toNat : Int)) % 4294967296 + (ww.toNat : Int)) % 4294967296 = _
  generalize chf e f gg = ch
  simp only [BitVec.toNat_add]
  omega
theorem w_maj (y a b c : U32) : ((y.toNat : Int) + bits BinOp.xor IntKind.u32 (bits BinOp.xor IntKind.u32 (bits BinOp.and IntKind.u32 (a.toNat : Int) (b.toNat : Int)) (bits BinOp.and IntKind.u32 (a.toNat : Int) (c.toNat : Int))) (bits BinOp.and IntKind.u32 (b.toNat : Int) (c.toNat : Int))) % 4294967296 = ((y + majf a b c : U32).toNat : Int) := by
  rw [w_and, w_and, w_and, w_xor, w_xor]
  exact w_add _ _
end Go.Mx

namespace Go.Proofs.YtlfdnlomlbbicaaGreatDoor
open Go.RowKit Go.Mx

theorem rotl2_any (x : U32) (w : World) :
    Calls Tryz.prog 86 #[.int .u32 (x.toNat : Int), .int .i64 (-2)] w fun e w' => e = .returned (.int .u32 ((rotr x 2).toNat : Int)) ∧ w = w' := by
  have e1 : bits BinOp.and IntKind.u64 (IntKind.u64.wrap (-2)) 31 = 30 := by decide
  go_enter Tryz.func86, Tryz.ntmps86
  go_wp2_with fail
  go_ret
  refine ⟨?_, rfl⟩
  have h1 := w_shl x 30
  have h2 := w_shr x 2
  have h3 := w_or (x <<< 30) (x >>> 2)
  rw [← h1, ← h2] at h3
  have h4 : rotr x 2 = (x <<< 30) ||| (x >>> 2) := BitVec.or_comm _ _
  rw [h4]
  first | exact congrArg (fun z => Ending.returned (.int .u32 z)) h3 | (simp; exact h3) | trace_state
theorem rotl6_any (x : U32) (w : World) :
    Calls Tryz.prog 86 #[.int .u32 (x.toNat : Int), .int .i64 (-6)] w fun e w' => e = .returned (.int .u32 ((rotr x 6).toNat : Int)) ∧ w = w' := by
  have e1 : bits BinOp.and IntKind.u64 (IntKind.u64.wrap (-6)) 31 = 26 := by decide
  go_enter Tryz.func86, Tryz.ntmps86
  go_wp2_with fail
  go_ret
  refine ⟨?_, rfl⟩
  have h1 := w_shl x 26
  have h2 := w_shr x 6
  have h3 := w_or (x <<< 26) (x >>> 6)
  rw [← h1, ← h2] at h3
  have h4 : rotr x 6 = (x <<< 26) ||| (x >>> 6) := BitVec.or_comm _ _
  rw [h4]
  first | exact congrArg (fun z => Ending.returned (.int .u32 z)) h3 | (simp; exact h3) | trace_state
theorem rotl7_any (x : U32) (w : World) :
    Calls Tryz.prog 86 #[.int .u32 (x.toNat : Int), .int .i64 (-7)] w fun e w' => e = .returned (.int .u32 ((rotr x 7).toNat : Int)) ∧ w = w' := by
  have e1 : bits BinOp.and IntKind.u64 (IntKind.u64.wrap (-7)) 31 = 25 := by decide
  go_enter Tryz.func86, Tryz.ntmps86
  go_wp2_with fail
  go_ret
  refine ⟨?_, rfl⟩
  have h1 := w_shl x 25
  have h2 := w_shr x 7
  have h3 := w_or (x <<< 25) (x >>> 7)
  rw [← h1, ← h2] at h3
  have h4 : rotr x 7 = (x <<< 25) ||| (x >>> 7) := BitVec.or_comm _ _
  rw [h4]
  first | exact congrArg (fun z => Ending.returned (.int .u32 z)) h3 | (simp; exact h3) | trace_state
theorem rotl11_any (x : U32) (w : World) :
    Calls Tryz.prog 86 #[.int .u32 (x.toNat : Int), .int .i64 (-11)] w fun e w' => e = .returned (.int .u32 ((rotr x 11).toNat : Int)) ∧ w = w' := by
  have e1 : bits BinOp.and IntKind.u64 (IntKind.u64.wrap (-11)) 31 = 21 := by decide
  go_enter Tryz.func86, Tryz.ntmps86
  go_wp2_with fail
  go_ret
  refine ⟨?_, rfl⟩
  have h1 := w_shl x 21
  have h2 := w_shr x 11
  have h3 := w_or (x <<< 21) (x >>> 11)
  rw [← h1, ← h2] at h3
  have h4 : rotr x 11 = (x <<< 21) ||| (x >>> 11) := BitVec.or_comm _ _
  rw [h4]
  first | exact congrArg (fun z => Ending.returned (.int .u32 z)) h3 | (simp; exact h3) | trace_state
theorem rotl13_any (x : U32) (w : World) :
    Calls Tryz.prog 86 #[.int .u32 (x.toNat : Int), .int .i64 (-13)] w fun e w' => e = .returned (.int .u32 ((rotr x 13).toNat : Int)) ∧ w = w' := by
  have e1 : bits BinOp.and IntKind.u64 (IntKind.u64.wrap (-13)) 31 = 19 := by decide
  go_enter Tryz.func86, Tryz.ntmps86
  go_wp2_with fail
  go_ret
  refine ⟨?_, rfl⟩
  have h1 := w_shl x 19
  have h2 := w_shr x 13
  have h3 := w_or (x <<< 19) (x >>> 13)
  rw [← h1, ← h2] at h3
  have h4 : rotr x 13 = (x <<< 19) ||| (x >>> 13) := BitVec.or_comm _ _
  rw [h4]
  first | exact congrArg (fun z => Ending.returned (.int .u32 z)) h3 | (simp; exact h3) | trace_state
theorem rotl17_any (x : U32) (w : World) :
    Calls Tryz.prog 86 #[.int .u32 (x.toNat : Int), .int .i64 (-17)] w fun e w' => e = .returned (.int .u32 ((rotr x 17).toNat : Int)) ∧ w = w' := by
  have e1 : bits BinOp.and IntKind.u64 (IntKind.u64.wrap (-17)) 31 = 15 := by decide
  go_enter Tryz.func86, Tryz.ntmps86
  go_wp2_with fail
  go_ret
  refine ⟨?_, rfl⟩
  have h1 := w_shl x 15
  have h2 := w_shr x 17
  have h3 := w_or (x <<< 15) (x >>> 17)
  rw [← h1, ← h2] at h3
  have h4 : rotr x 17 = (x <<< 15) ||| (x >>> 17) := BitVec.or_comm _ _
  rw [h4]
  first | exact congrArg (fun z => Ending.returned (.int .u32 z)) h3 | (simp; exact h3) | trace_state
theorem rotl18_any (x : U32) (w : World) :
    Calls Tryz.prog 86 #[.int .u32 (x.toNat : Int), .int .i64 (-18)] w fun e w' => e = .returned (.int .u32 ((rotr x 18).toNat : Int)) ∧ w = w' := by
  have e1 : bits BinOp.and IntKind.u64 (IntKind.u64.wrap (-18)) 31 = 14 := by decide
  go_enter Tryz.func86, Tryz.ntmps86
  go_wp2_with fail
  go_ret
  refine ⟨?_, rfl⟩
  have h1 := w_shl x 14
  have h2 := w_shr x 18
  have h3 := w_or (x <<< 14) (x >>> 18)
  rw [← h1, ← h2] at h3
  have h4 : rotr x 18 = (x <<< 14) ||| (x >>> 18) := BitVec.or_comm _ _
  rw [h4]
  first | exact congrArg (fun z => Ending.returned (.int .u32 z)) h3 | (simp; exact h3) | trace_state
theorem rotl19_any (x : U32) (w : World) :
    Calls Tryz.prog 86 #[.int .u32 (x.toNat : Int), .int .i64 (-19)] w fun e w' => e = .returned (.int .u32 ((rotr x 19).toNat : Int)) ∧ w = w' := by
  have e1 : bits BinOp.and IntKind.u64 (IntKind.u64.wrap (-19)) 31 = 13 := by decide
  go_enter Tryz.func86, Tryz.ntmps86
  go_wp2_with fail
  go_ret
  refine ⟨?_, rfl⟩
  have h1 := w_shl x 13
  have h2 := w_shr x 19
  have h3 := w_or (x <<< 13) (x >>> 19)
  rw [← h1, ← h2] at h3
  have h4 : rotr x 19 = (x <<< 13) ||| (x >>> 19) := BitVec.or_comm _ _
  rw [h4]
  first | exact congrArg (fun z => Ending.returned (.int .u32 z)) h3 | (simp; exact h3) | trace_state
theorem rotl22_any (x : U32) (w : World) :
    Calls Tryz.prog 86 #[.int .u32 (x.toNat : Int), .int .i64 (-22)] w fun e w' => e = .returned (.int .u32 ((rotr x 22).toNat : Int)) ∧ w = w' := by
  have e1 : bits BinOp.and IntKind.u64 (IntKind.u64.wrap (-22)) 31 = 10 := by decide
  go_enter Tryz.func86, Tryz.ntmps86
  go_wp2_with fail
  go_ret
  refine ⟨?_, rfl⟩
  have h1 := w_shl x 10
  have h2 := w_shr x 22
  have h3 := w_or (x <<< 10) (x >>> 22)
  rw [← h1, ← h2] at h3
  have h4 : rotr x 22 = (x <<< 10) ||| (x >>> 22) := BitVec.or_comm _ _
  rw [h4]
  first | exact congrArg (fun z => Ending.returned (.int .u32 z)) h3 | (simp; exact h3) | trace_state
theorem rotl25_any (x : U32) (w : World) :
    Calls Tryz.prog 86 #[.int .u32 (x.toNat : Int), .int .i64 (-25)] w fun e w' => e = .returned (.int .u32 ((rotr x 25).toNat : Int)) ∧ w = w' := by
  have e1 : bits BinOp.and IntKind.u64 (IntKind.u64.wrap (-25)) 31 = 7 := by decide
  go_enter Tryz.func86, Tryz.ntmps86
  go_wp2_with fail
  go_ret
  refine ⟨?_, rfl⟩
  have h1 := w_shl x 7
  have h2 := w_shr x 25
  have h3 := w_or (x <<< 7) (x >>> 25)
  rw [← h1, ← h2] at h3
  have h4 : rotr x 25 = (x <<< 7) ||| (x >>> 25) := BitVec.or_comm _ _
  rw [h4]
  first | exact congrArg (fun z => Ending.returned (.int .u32 z)) h3 | (simp; exact h3) | trace_state
end Go.Proofs.YtlfdnlomlbbicaaGreatDoor

namespace Go.Proofs.YtlfdnlomlbbicaaGreatDoor
open Go.RowKit Go.Mx

theorem Tryz.a64 : Ag Tryz.prog 116 64 := ⟨⟨_, Tryz.underlying116, rfl⟩, by kernel_rfl⟩
theorem Tryz.a8 : Ag Tryz.prog 96 8 := ⟨⟨_, Tryz.underlying96, rfl⟩, by kernel_rfl⟩
theorem u32s_one (l : List U32) : ∀ u ∈ u32s l, u.oneCell' = true := by
  intro u hu
  obtain ⟨_, _, rfl⟩ := List.mem_map.1 hu
  rfl
/-- A word laid behind the first i. -/
theorem lay_word {l : List U32} {i n : Nat} (hl : l.length = i) (hi : i < n) (x : U32) :
    (u32s (l ++ List.replicate (n - i) 0)).take i ++ [Value.int .u32 (x.toNat : Int)] ++ (u32s (l ++ List.replicate (n - i) 0)).drop (i + 1) = u32s ((l ++ [x]) ++ List.replicate (n - (i + 1)) 0) := by
  subst hl
  obtain ⟨m, hm⟩ : ∃ m, n - l.length = m + 1 := ⟨n - l.length - 1, by omega⟩
  rw [hm, show n - (l.length + 1) = m by omega, u32s_app, u32s_app, List.take_append_of_le_length (by rw [u32s_len]; omega), List.take_of_length_le (by rw [u32s_len]; omega),
    List.drop_append, u32s_len, List.drop_eq_nil_of_le (by rw [u32s_len]; omega), List.replicate_succ, show l.length + 1 - l.length = 1 by omega]
  simp [u32s]

theorem word_cells {b : List UInt8} (hb : b.length = 64) {l : List U32} {i j : Nat} (hi : i < 16) (hj : j = 4 * i) {w : World} {p : Prop} {blk off : Nat} (HC : ∀ k (hk : k < b.length), p ∧ w.cell? ⟨blk, off + k, none⟩ = some (.int .u8 (b[k].toNat : Int))) :
    p ∧ ∃ x0 x1 x2 x3 : U32, w.cell? ⟨blk, off + j, none⟩ = some (.int .u8 (x0.toNat : Int)) ∧ w.cell? ⟨blk, off + (j + 1), none⟩ = some (.int .u8 (x1.toNat : Int)) ∧ w.cell? ⟨blk, off + (j + 2), none⟩ = some (.int .u8 (x2.toNat : Int)) ∧ w.cell? ⟨blk, off + (j + 3), none⟩ = some (.int .u8 (x3.toNat : Int)) ∧
      nextW b l i = (((x0 <<< 24) ||| (x1 <<< 16)) ||| (x2 <<< 8)) ||| x3 := by
  have h0 : j < b.length := by omega
  have h1 : j + 1 < b.length := by omega
  have h2 : j + 2 < b.length := by omega
  have h3 : j + 3 < b.length := by omega
  refine ⟨(HC j h0).1, by32 b[j], by32 b[j + 1], by32 b[j + 2], by32 b[j + 3], ?_, ?_, ?_, ?_, ?_⟩
  · rw [(HC j h0).2, w_byte]
  · rw [(HC _ h1).2, w_byte]
  · rw [(HC _ h2).2, w_byte]
  · rw [(HC _ h3).2, w_byte]
  · unfold nextW word
    rw [if_pos hi, ← hj]
    simp [h0, h1, h2, h3]

set_option maxRecDepth 100000 in
set_option maxHeartbeats 4000000 in
theorem schedule_any (v : Value) (b : List UInt8) (w : World) (hb : b.length = 64) (hv : Sl w 1 v 64 (bs b)) :
    Calls Tryz.prog 85 #[v] w fun e w' => e = .returned (.agg (u32s (sched b 64)).toArray) ∧ St w w' [] [] := by
  rw [show (64 : Nat) = b.length from hb.symm] at hv
  obtain ⟨ao, cap, blk, off, rfl, h1, h2, _, hc⟩ := hv.byt
  rw [hb] at h1
  have HC := Mx.hid hc
  have HB := Mx.hid hb
  clear hc hv hb
  have q0 := (St.refl w).madeAt (u32s (List.replicate 64 0)).toArray 116 1 64 w.heap.size (by rfl) (by simp [maxLen]) rfl
  have q1 := q0.madeAt (u32s (List.replicate 64 0)).toArray 116 1 64 (w.heap.size + 1) (by rfl) (by simp [maxLen]) (heap_size_alloc _ _).symm
  have HQ := Mx.hid q1
  clear q0 q1
  go_enter Tryz.func85, Tryz.ntmps85
  rw [HB.out]
  go_wp2_with fail
  go_loopw [9] (fun x wr => ∃ i : Nat, i ≤ 64 ∧ x = .int .i64 i ∧ St w wr [⟨.slice (some ⟨w.heap.size + 1, 0, none⟩) 64 64, 116, 1, 64, u32s (sched b i ++ List.replicate (64 - i) 0)⟩, ⟨.slice (some ⟨w.heap.size, 0, none⟩) 64 64, 116, 1, 64, u32s (List.replicate 64 0)⟩] []) (fun x _ => 64 - (intOf x).toNat)
  case atStart => exact ⟨0, by omega, rfl, HQ.out⟩
  case round =>
    obtain ⟨i, hi, rfl, hs⟩ := hrel
    have Hlen := Mx.hid (sched_len b i)
    by_cases hlt : i < 64
    · have hii : (i : Int) < 64 := by omega
      by_cases h16 : i < 16
      · obtain ⟨j, hj⟩ : ∃ j, j = 4 * i := ⟨_, rfl⟩
        have e4 : 4 * (i : Int) = (j : Int) := by omega
        have hj4 : j + 4 ≤ 64 := by omega
        have g1 : (i : Int) < 16 := by omega
        obtain ⟨rfl, x0, x1, x2, x3, c0, c1, c2, c3, hN⟩ := word_cells HB.out (l := sched b i) h16 hj HC.out
        replace c0 := hs.keep c0
        replace c1 := hs.keep c1
        replace c2 := hs.keep c2
        replace c3 := hs.keep c3
        have HN := Mx.hid hN
        clear hN
        have m0 : IntKind.i64.wrap (j : Int) = (j : Int) := IntWalk.i64_in _ (by omega)
        have m1 : IntKind.i64.wrap ((j : Int) + 1) = (j : Int) + 1 := IntWalk.i64_in _ (by omega)
        have m2 : IntKind.i64.wrap ((j : Int) + 2) = (j : Int) + 2 := IntWalk.i64_in _ (by omega)
        have m3 : IntKind.i64.wrap ((j : Int) + 3) = (j : Int) + 3 := IntWalk.i64_in _ (by omega)
        have t1 : ((j : Int) + 1).toNat = j + 1 := by omega
        have t2 : ((j : Int) + 2).toNat = j + 2 := by omega
        have t3 : ((j : Int) + 3).toNat = j + 3 := by omega
        have n1 : (0 : Int) ≤ (j : Int) + 1 := by omega
        have n2 : (0 : Int) ≤ (j : Int) + 2 := by omega
        have n3 : (0 : Int) ≤ (j : Int) + 3 := by omega
        have k0 : (j : Int) < 64 := by omega
        have k1 : (j : Int) + 1 < 64 := by omega
        have k2 : (j : Int) + 2 < 64 := by omega
        have k3 : (j : Int) + 3 < 64 := by omega
        have HL := Mx.hid (lay_word Hlen.out hlt (nextW b (sched b i) i))
        clear hj
        go_wp2_with fail
        go_still_tail 35, (by kernel_rfl)
        clear c0 c1 c2 c3 e4 m0 m1 m2 m3 t1 t2 t3 n1 n2 n3 k0 k1 k2 k3
        change wpList _ _ _ _ _ wr.drew
        have hsd := hs.drew
        generalize wr.drew = wd at hsd ⊢
        rw [w_word x0 x1 x2 x3, ← HN.out]
        generalize hnw : nextW b (sched b i) i = nw at *
        have HNW := Mx.hid hnw
        clear hnw
        go_wp2_with ((with_reducible show wpList _ _ _ _ _ _); refine wpl_store1 rfl 92 _ _ rfl hsd (i) rfl (.int .u32 (nw.toNat : Int)) rfl rfl (by kernel_rfl) (by rw [u32s_len, List.length_append, Hlen.out, List.length_replicate]; omega) rfl ?_; intro w2 hs2)
        go_roundw
        case rel => exact ⟨i + 1, by omega, by go_num, by rw [sched, HNW.out, ← HL.out]; exact hs2⟩
        case measure => simp [intOf]; omega
      · have g1 : ¬ ((i : Int) < 16) := by omega
        have hcell : ∀ k, k < i → wr.cell? ⟨w.heap.size + 1, k, none⟩ = some (.int .u32 (((sched b i).getD k 0).toNat : Int)) := fun k hk => by
          refine hs.rcell (List.mem_cons_self ..) ?_
          rw [u32s_get (by rw [List.length_append, Hlen.out]; omega), List.getElem_append_left (by rw [Hlen.out]; omega)]
          simp [Hlen.out, hk]
        have c15 := hcell (i - 15) (by omega)
        have c2 := hcell (i - 2) (by omega)
        have c16 := hcell (i - 16) (by omega)
        have c7 := hcell (i - 7) (by omega)
        have hN : nextW b (sched b i) i = ((((sched b i).getD (i - 16) 0 + sig0 ((sched b i).getD (i - 15) 0)) + (sched b i).getD (i - 7) 0) + sig1 ((sched b i).getD (i - 2) 0)) := by
          unfold nextW; rw [if_neg h16]
        generalize (sched b i).getD (i - 15) 0 = y15 at *
        generalize (sched b i).getD (i - 2) 0 = y2 at *
        generalize (sched b i).getD (i - 16) 0 = y16 at *
        generalize (sched b i).getD (i - 7) 0 = y7 at *
        have HN := Mx.hid hN
        have HL := Mx.hid (lay_word Hlen.out hlt (nextW b (sched b i) i))
        clear hN hcell
        have m15 : IntKind.i64.wrap ((i : Int) - 15) = (i : Int) - 15 := IntWalk.i64_in _ (by omega)
        have m2 : IntKind.i64.wrap ((i : Int) - 2) = (i : Int) - 2 := IntWalk.i64_in _ (by omega)
        have t15 : ((i : Int) - 15).toNat = i - 15 := by omega
        have t2 : ((i : Int) - 2).toNat = i - 2 := by omega
        have n15 : (0 : Int) ≤ (i : Int) - 15 := by omega
        have n2 : (0 : Int) ≤ (i : Int) - 2 := by omega
        have k15 : (i : Int) - 15 < 64 := by omega
        have k2 : (i : Int) - 2 < 64 := by omega
        have C16 := Mx.hid c16
        have C7 := Mx.hid c7
        clear c16 c7
        go_wp2_with fail
        go_quiet (fail)
        have hsd := hs.drewN nq
        have c16 : (wr.drewN nq).cell? ⟨w.heap.size + 1, i - 16, none⟩ = _ := C16.out
        have c7 : (wr.drewN nq).cell? ⟨w.heap.size + 1, i - 7, none⟩ = _ := C7.out
        clear c15 c2 m15 m2 t15 t2 n15 n2 k15 k2 C16 C7
        generalize wr.drewN nq = wd at hsd c16 c7 ⊢
        have C16 := Mx.hid c16
        have C7 := Mx.hid c7
        clear c16 c7
        have hS0 := w_sig0 y15
        have hS1 := w_sig1 y2
        generalize sig0 y15 = s0 at *
        generalize sig1 y2 = s1 at *
        go_wp2_with fail
        refine (rotl7_any y15 _).mono ?_
        rintro e w' ⟨rfl, rfl⟩
        go_wp2_with fail
        refine (rotl18_any y15 _).mono ?_
        rintro e w' ⟨rfl, rfl⟩
        go_wp2_with fail
        refine (rotl17_any y2 _).mono ?_
        rintro e w' ⟨rfl, rfl⟩
        go_wp2_with fail
        refine (rotl19_any y2 _).mono ?_
        rintro e w' ⟨rfl, rfl⟩
        go_wp2_with fail
        clear hS0 hS1
        have c16 := C16.out
        have c7 := C7.out
        have m16 : IntKind.i64.wrap ((i : Int) - 16) = (i : Int) - 16 := IntWalk.i64_in _ (by omega)
        have m7 : IntKind.i64.wrap ((i : Int) - 7) = (i : Int) - 7 := IntWalk.i64_in _ (by omega)
        have t16 : ((i : Int) - 16).toNat = i - 16 := by omega
        have t7 : ((i : Int) - 7).toNat = i - 7 := by omega
        have n16 : (0 : Int) ≤ (i : Int) - 16 := by omega
        have n7 : (0 : Int) ≤ (i : Int) - 7 := by omega
        have k16 : (i : Int) - 16 < 64 := by omega
        have k7 : (i : Int) - 7 < 64 := by omega
        have o7 : (7 : Int) ≤ (i : Int) := by omega
        go_still_tail 15, (by kernel_rfl)
        clear c16 c7 m16 m7 t16 t7 n16 n7 k16 k7 o7
        change wpList _ _ _ _ _ wd.drew
        have hse := hsd.drew
        generalize wd.drew = we at hse ⊢
        rw [w_addW, w_addW, w_addW, ← HN.out]
        generalize hnw : nextW b (sched b i) i = nw at *
        have HNW := Mx.hid hnw
        clear hnw
        go_wp2_with ((with_reducible show wpList _ _ _ _ _ _); refine wpl_store1 rfl 92 _ _ rfl hse (i) rfl (.int .u32 (nw.toNat : Int)) rfl rfl (by kernel_rfl) (by rw [u32s_len, List.length_append, Hlen.out, List.length_replicate]; omega) rfl ?_; intro w2 hs2)
        go_roundw
        case rel => exact ⟨i + 1, by omega, by go_num, by rw [sched, HNW.out, ← HL.out]; exact hs2⟩
        case measure => simp [intOf]; omega
    · obtain rfl : i = 64 := by omega
      have hL := Hlen.out
      have hsw := hs.swap
      rw [Nat.sub_self, List.replicate_zero, List.append_nil] at hs
      rw [Nat.sub_self, List.replicate_zero, List.append_nil] at hsw
      have HL := Mx.hid (show (u32s (sched b 64)).length = 64 by rw [u32s_len]; exact hL)
      clear hL
      have hW1 := u32s_one (sched b 64)
      generalize hWW : u32s (sched b 64) = W at *
      have HWW := Mx.hid hWW
      clear hWW
      have HCW := Mx.hid (show ∀ i u, W[i]? = some u → wr.cell? ⟨w.heap.size + 1, 0 + i, none⟩ = some u from fun i u h => by rw [Nat.zero_add]; exact hs.rcell (List.mem_cons_self ..) h)
      have HW1 := Mx.hid hW1
      have HQ2 := Mx.hid hsw
      have HZ := Mx.hid (show 0 + 64 ≤ (u32s (List.replicate 64 0)).length by rw [u32s_len, List.length_replicate]; omega)
      clear hs hsw hW1 HC HQ
      go_wp2_with (first | ((with_reducible show wpList _ _ _ _ _ _); refine wpl_loadA rfl 116 _ rfl Tryz.a64 (w.heap.size + 1) (0) rfl (W) HL.out HCW.out ?_) | ((with_reducible show wpList _ _ _ _ _ _); refine wpl_storeA rfl 116 _ _ rfl Tryz.a64 HQ2.out (0) rfl (W) rfl HL.out HZ.out HW1.out ?_; intro w2 hs2))
      have hT : List.take 0 (u32s (List.replicate 64 0)) ++ W ++ List.drop (0 + 64) (u32s (List.replicate 64 0)) = W := by
        rw [List.take_zero, List.nil_append, List.drop_eq_nil_of_le (by rw [u32s_len, List.length_replicate]; omega), List.append_nil]
      rw [hT] at hs2
      have hcw : ∀ i u, W[i]? = some u → w2.cell? ⟨w.heap.size, i, none⟩ = some u := fun i u h => hs2.rcell (List.mem_cons_self ..) h
      refine bodyPost_ret (v := .agg W.toArray) (results_cellA Tryz.results85 _ Tryz.a64 (g := w.heap.size) W ?_ HL.out hcw) ?_ ⟨by rw [HWW.out], hs2.bare⟩
      · simp [Act.put]
      · simp [Act.put]
end Go.Proofs.YtlfdnlomlbbicaaGreatDoor
