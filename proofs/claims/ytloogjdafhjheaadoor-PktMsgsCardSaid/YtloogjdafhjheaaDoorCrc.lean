/- The walks of the check sum: wire.step, wire.Crc, marref1.Crc. -/
import Derived.Test.YtloogjdafhjheaaDoorRows
import Derived.Test.YtloogjdafhjheaaDoorLib2
import Derived.Test.YtloogjdafhjheaaDoorCrcP
namespace Go.Proofs.YtloogjdafhjheaaDoor
open Go.RowKit Go.Mx

theorem w32_lt (s : W32) : (s.toNat : Int) < 4294967296 := by have := s.isLt; omega

theorem xor_byte (s : W32) (x : UInt8) : bits BinOp.xor IntKind.u32 (s.toNat : Int) ((x.toNat : Int) % 4294967296) = (((s ^^^ BitVec.ofNat 32 x.toNat) : W32).toNat : Int) := by
  have hx := x.toNat_lt
  have h1 := s.isLt
  rw [show (x.toNat : Int) % 4294967296 = (x.toNat : Int) from by omega, u32_xor_nat _ _ (by omega) (by omega), BitVec.toNat_xor, BitVec.toNat_ofNat]
  congr 1
  rw [Nat.mod_eq_of_lt (by omega)]
theorem xor_w (s t : W32) : bits BinOp.xor IntKind.u32 (s.toNat : Int) (t.toNat : Int) = (((s ^^^ t) : W32).toNat : Int) := by
  have h1 := s.isLt
  have h2 := t.isLt
  rw [u32_xor_nat _ _ (by omega) (by omega), BitVec.toNat_xor]
theorem not_w (s : W32) : bits BinOp.xor IntKind.u32 IntKind.u32.max (s.toNat : Int) = ((~~~s : W32).toNat : Int) := by
  have e : IntKind.u32.max = ((0xFFFFFFFF#32 : W32).toNat : Int) := by decide
  rw [e, xor_w]
  congr 2

theorem low_bit (s : W32) : (bits BinOp.and IntKind.u32 (s.toNat : Int) 1 == 1) = s.getLsbD 0 := by
  have h1 := s.isLt
  rw [u32_and _ 1 (by omega) (by omega) (by omega) (by omega), Int.toNat_natCast, show Int.toNat 1 = 1 from rfl, nat_mask1]
  rw [BitVec.getLsbD, Nat.testBit_zero]
  rw [Bool.eq_iff_iff, beq_iff_eq, decide_eq_true_iff]
  omega
theorem shr1 (s : W32) : (s.toNat : Int) / (2 : Int) = ((s >>> 1 : W32).toNat : Int) := by
  rw [BitVec.toNat_ushiftRight, Nat.shiftRight_eq_div_pow]; rfl
theorem shr4 (s : W32) : (s.toNat : Int) / (16 : Int) = ((s >>> 4 : W32).toNat : Int) := by
  rw [BitVec.toNat_ushiftRight, Nat.shiftRight_eq_div_pow]; rfl
theorem xor_poly (s : W32) : bits BinOp.xor IntKind.u32 (s.toNat : Int) 3988292384 = (((s ^^^ poly) : W32).toNat : Int) := by
  rw [← xor_w]; rfl

set_option maxHeartbeats 400000 in
theorem step_any (s : W32) (n : Nat) (w : World) (hn : n ≤ 100) :
    Calls Tryd.prog 55 #[.int .u32 (s.toNat : Int), .int .i64 n] w fun e w' => e = .returned (.int .u32 ((stepN n s).toNat : Int)) ∧ w = w' := by
  go_enter Tryd.func55, Tryd.ntmps55
  go_wp2_with fail
  go_loop [0, 7] (fun y x => ∃ i : Nat, i ≤ n ∧ x = .int .i64 i ∧ y = .int .u32 ((stepN i s).toNat : Int)) (fun _ x => n - (intOf x).toNat)
  case atStart => exact ⟨0, by omega, rfl, rfl⟩
  case round =>
    obtain ⟨i, hi, rfl, rfl⟩ := hrel
    by_cases hlt : i < n
    · generalize hS : stepN i s = S at *
      by_cases hl : S.getLsbD 0 = true
      · have hb := (low_bit S).trans hl
        go_wp2_with fail
        go_round
        case rel => exact ⟨i + 1, by omega, by go_num, by rw [stepN_succ', hS, shr1, xor_poly, stepB, hl]; rfl⟩
        case measure => simp [intOf]; omega
      · have hl' : S.getLsbD 0 = false := by simpa using hl
        have hb := (low_bit S).trans hl'
        go_wp2_with fail
        go_round
        case rel => exact ⟨i + 1, by omega, by go_num, by rw [stepN_succ', hS, shr1, stepB_even hl']⟩
        case measure => simp [intOf]; omega
    · go_wp2_with fail
      go_ret
      exact ⟨by rw [show i = n by omega]; rfl, rfl⟩

set_option maxHeartbeats 400000 in
theorem crcRef_any (v : Value) (b : List UInt8) (w : World) (hv : Sl w 1 v b.length (bs b)) (hb : b.length ≤ 140737488355328) :
    Calls Tryd.prog 28 #[v] w fun e w' => e = .returned (.int .u32 ((crcS b).toNat : Int)) ∧ w = w' := by
  obtain ⟨ao, cap, blk, off, rfl, h1, h2, _, hc⟩ := hv.byt
  clear hv
  have HC := hid hc
  clear hc
  go_enter Tryd.func28, Tryd.ntmps28
  go_wp2_with fail
  go_loop [3, 4] (fun y x => ∃ i : Nat, i ≤ b.length ∧ x = .int .i64 i ∧ y = .int .u32 ((crcFold 0xFFFFFFFF#32 (b.take i)).toNat : Int)) (fun _ x => b.length - (intOf x).toNat)
  case atStart => exact ⟨0, by omega, rfl, rfl⟩
  case round =>
    obtain ⟨i, hi, rfl, rfl⟩ := hrel
    by_cases hlt : i < b.length
    · obtain ⟨rfl, c1⟩ := HC.out i hlt
      generalize hS : crcFold 0xFFFFFFFF#32 (b.take i) = S at *
      have hii : (i : Int) < (b.length : Int) := by omega
      go_wp2_with fail
      simp only [xor_byte]
      go_loop [3, 5] (fun y x => ∃ k : Nat, k ≤ 8 ∧ x = .int .i64 k ∧ y = .int .u32 ((stepN k (S ^^^ BitVec.ofNat 32 b[i].toNat)).toNat : Int)) (fun _ x => 8 - (intOf x).toNat)
      case atStart => exact ⟨0, by omega, rfl, rfl⟩
      case round =>
        obtain ⟨k, hk, rfl, rfl⟩ := hrel
        by_cases hk8 : k < 8
        · generalize hT : stepN k (S ^^^ BitVec.ofNat 32 b[i].toNat) = T at *
          by_cases hl : T.getLsbD 0 = true
          · have hb := (low_bit T).trans hl
            go_wp2_with fail
            go_round
            case rel => exact ⟨k + 1, by omega, by go_num, by rw [stepN_succ', hT, shr1, xor_poly, stepB, hl]; rfl⟩
            case measure => simp [intOf]; omega
          · have hl' : T.getLsbD 0 = false := by simpa using hl
            have hb := (low_bit T).trans hl'
            go_wp2_with fail
            go_round
            case rel => exact ⟨k + 1, by omega, by go_num, by rw [stepN_succ', hT, shr1, stepB_even hl']⟩
            case measure => simp [intOf]; omega
        · go_wp2_with fail
          go_round
          case rel => exact ⟨i + 1, by omega, by go_num, by rw [List.take_succ_eq_append_getElem hlt, crcFold_snoc, hS, show k = 8 by omega]; rfl⟩
          case measure => simp [intOf]; omega
    · go_wp2_with fail
      go_ret
      exact ⟨by rw [not_w, List.take_of_length_le (by omega)]; rfl, rfl⟩

/-- The table's cells when the first i are laid. -/
def tabAt (i : Nat) : List Value := (List.range 16).map fun k => Value.int .u32 (if k < i then ((stepN 4 (BitVec.ofNat 32 k)).toNat : Int) else 0)
theorem tabAt_set {i : Nat} (h : i < 16) : (tabAt i).take i ++ [Value.int .u32 ((stepN 4 (BitVec.ofNat 32 i)).toNat : Int)] ++ (tabAt i).drop (i + 1) = tabAt (i + 1) := by
  apply List.ext_getElem
  · simp [tabAt]; omega
  · intro k h1 h2
    have hk : k < 16 := by simpa [tabAt] using h2
    simp only [tabAt, List.getElem_map, List.getElem_range, List.getElem_append, List.length_append, List.length_take, List.length_map, List.length_range, List.getElem_take, List.getElem_drop, List.length_singleton]
    have e : min i 16 = i := by omega
    simp only [e]
    by_cases h3 : k < i
    · rw [dif_pos (by omega), dif_pos h3, if_pos h3, if_pos (by omega)]
    · by_cases h4 : k = i
      · subst h4
        rw [dif_pos (by omega), dif_neg (by omega), if_pos (by omega)]
        simp
      · rw [dif_neg (by omega), if_neg (by omega), if_neg (by omega)]
theorem tabAt_get (k : Nat) (h : k < 16) : (tabAt 16)[k]? = some (.int .u32 ((stepN 4 (BitVec.ofNat 32 k)).toNat : Int)) := by
  simp [tabAt, h]

theorem and15c (s : W32) : ∃ n : Nat, bits BinOp.and IntKind.u32 (s.toNat : Int) 15 = (n : Int) ∧ (n : Int) < 16 ∧ BitVec.ofNat 32 n = s &&& 15#32 := by
  have h1 := s.isLt
  refine ⟨s.toNat % 16, ?_, by omega, ?_⟩
  · rw [u32_and _ 15 (by omega) (by omega) (by omega) (by omega), Int.toNat_natCast, show Int.toNat 15 = 15 from rfl, nat_mask4]
  · apply BitVec.eq_of_toNat_eq
    rw [BitVec.toNat_ofNat, BitVec.toNat_and, show (15#32).toNat = 15 from rfl, nat_mask4]
    omega

/-- What the round's two look-ups come to, each value under a name. -/
theorem crc_step (S : W32) (x : UInt8) (Cell : Nat → Int → Prop) (hc : ∀ k, k < 16 → Cell k ((stepN 4 (BitVec.ofNat 32 k)).toNat : Int)) :
    ∃ (S1 : W32) (n1 : Nat) (T1 S2 : W32) (n2 : Nat) (T2 S3 : W32),
      bits BinOp.xor IntKind.u32 (S.toNat : Int) ((x.toNat : Int) % 4294967296) = (S1.toNat : Int) ∧ bits BinOp.and IntKind.u32 (S1.toNat : Int) 15 = (n1 : Int) ∧ (n1 : Int) < 16 ∧ Cell n1 (T1.toNat : Int) ∧
      bits BinOp.xor IntKind.u32 (T1.toNat : Int) ((S1.toNat : Int) / 16) = (S2.toNat : Int) ∧ bits BinOp.and IntKind.u32 (S2.toNat : Int) 15 = (n2 : Int) ∧ (n2 : Int) < 16 ∧ Cell n2 (T2.toNat : Int) ∧
      bits BinOp.xor IntKind.u32 (T2.toNat : Int) ((S2.toNat : Int) / 16) = (S3.toNat : Int) ∧ crcByte S x = S3 := by
  obtain ⟨n1, a1, b1, d1⟩ := and15c (S ^^^ BitVec.ofNat 32 x.toNat)
  obtain ⟨n2, a2, b2, d2⟩ := and15c (stepN 4 (BitVec.ofNat 32 n1) ^^^ (S ^^^ BitVec.ofNat 32 x.toNat) >>> 4)
  refine ⟨S ^^^ BitVec.ofNat 32 x.toNat, n1, stepN 4 (BitVec.ofNat 32 n1), stepN 4 (BitVec.ofNat 32 n1) ^^^ (S ^^^ BitVec.ofNat 32 x.toNat) >>> 4, n2, stepN 4 (BitVec.ofNat 32 n2), _, xor_byte S x, a1, b1, hc n1 (by omega), by rw [shr4, xor_w], a2, b2, hc n2 (by omega), by rw [shr4, xor_w], ?_⟩
  rw [crcByte_nib]
  simp only []
  rw [d2, d1]

set_option maxHeartbeats 1000000 in
theorem crc_any (v : Value) (b : List UInt8) (w : World) (hv : Sl w 1 v b.length (bs b)) (hb : b.length ≤ 140737488355328) :
    Calls Tryd.prog 45 #[v] w fun e w' => e = .returned (.int .u32 ((crcS b).toNat : Int)) ∧ St w w' [] [] := by
  obtain ⟨ao, cap, blk, off, rfl, h1, h2, _, hc⟩ := hv.byt
  clear hv
  have HC := hid hc
  clear hc
  have hs := (St.refl w).made (tabAt 0).toArray 82 16 1 (by simp [tabAt]) (by simp [maxLen])
  go_enter Tryd.func45, Tryd.ntmps45
  go_wp2_with fail
  go_loopw [8] (fun x wr => ∃ i : Nat, i ≤ 16 ∧ x = .int .i64 i ∧ St w wr [⟨.slice (some ⟨w.heap.size, 0, none⟩) 1 1, 82, 16, 1, tabAt i⟩] []) (fun x _ => 16 - (intOf x).toNat)
  case atStart => exact ⟨0, by omega, rfl, hs⟩
  case round =>
    obtain ⟨i, hi, rfl, hs⟩ := hrel
    by_cases hlt : i < 16
    · have hii : (i : Int) < 16 := by omega
      have e1 : (BitVec.ofNat 32 i).toNat = i := by rw [BitVec.toNat_ofNat]; omega
      have hstep := step_any (BitVec.ofNat 32 i) 4 wr (by omega)
      rw [e1] at hstep
      have HS := hid hstep
      clear hstep e1
      go_wp2_with (first | (go_at_call 55; refine HS.out.mono ?_; rintro e w1 ⟨rfl, rfl⟩) | ((with_reducible show wpList _ _ _ _ _ _); refine wpl_store rfl 53 _ _ rfl hs i rfl (by kernel_rfl) (by simp [tabAt, Value.cells, Act.eval]; omega) (by intro u hu; simp [Value.cells, Act.eval] at hu; subst hu; rfl) ?_; intro w2 hs2))
      go_roundw
      case rel => exact ⟨i + 1, by omega, by go_num, hs2.cast rfl (tabAt_set hlt)⟩
      case measure => simp [intOf]; omega
    · obtain rfl : i = 16 := by omega
      go_wp2_with fail
      obtain ⟨wo, rfl⟩ : ∃ wo : World, wo = wr := ⟨_, rfl⟩
      go_loop [5, 19] (fun y x => ∃ i : Nat, i ≤ b.length ∧ x = .int .i64 i ∧ y = .int .u32 ((crcFold 0xFFFFFFFF#32 (b.take i)).toNat : Int)) (fun _ x => b.length - (intOf x).toNat)
      case atStart => exact ⟨0, by omega, rfl, rfl⟩
      case round =>
        obtain ⟨i, hi, rfl, rfl⟩ := hrel
        by_cases hlt : i < b.length
        · obtain ⟨rfl, c1⟩ := HC.out i hlt
          have c1 := hs.keep c1
          have ct : ∀ k, k < 16 → wo.cell? ⟨w.heap.size, k, none⟩ = some (.int .u32 ((stepN 4 (BitVec.ofNat 32 k)).toNat : Int)) := fun k hk => hs.cell (tabAt_get k hk)
          have CT := hid ct
          clear ct
          generalize hS : crcFold 0xFFFFFFFF#32 (b.take i) = S at *
          have hii : (i : Int) < (b.length : Int) := by omega
          obtain ⟨S1, n1, T1, S2, n2, T2, S3, e1, e2, l1, c2, e3, e4, l2, c3, e5, hS3⟩ := crc_step S b[i] (fun k u => wo.cell? ⟨w.heap.size, k, none⟩ = some (.int .u32 u)) CT.out
          have HS3 := hid hS3
          clear hS3
          go_wp2_with fail
          go_round
          case rel => exact ⟨i + 1, by omega, by go_num, by rw [List.take_succ_eq_append_getElem hlt, crcFold_snoc, hS, HS3.out]⟩
          case measure => simp [intOf]; omega
        · go_wp2_with fail
          go_ret
          exact ⟨by rw [not_w, List.take_of_length_le (by omega)]; rfl, hs.bare⟩
end Go.Proofs.YtloogjdafhjheaaDoor
