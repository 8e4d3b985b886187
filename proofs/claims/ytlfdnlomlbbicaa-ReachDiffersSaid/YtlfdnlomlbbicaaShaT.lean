/- Walk of the hasher's Sum. -/
import Derived.Test.YtlfdnlomlbbicaaShaC
namespace Go.Mx
open Go Go.RowKit
theorem w_b24 (x : U32) : ((x.toNat : Int) / (16777216 : Int)) % (256 : Int) = ((UInt8.ofNat (x >>> 24).toNat).toNat : Int) := by
  rw [← w_low, ← w_shr]; rfl
theorem w_b16 (x : U32) : ((x.toNat : Int) / (65536 : Int)) % (256 : Int) = ((UInt8.ofNat (x >>> 16).toNat).toNat : Int) := by
  rw [← w_low, ← w_shr]; rfl
theorem w_b8 (x : U32) : ((x.toNat : Int) / (256 : Int)) % (256 : Int) = ((UInt8.ofNat (x >>> 8).toNat).toNat : Int) := by
  rw [← w_low, ← w_shr]; rfl
theorem padH_test (n m : Nat) (h1 : 1 ≤ m) (h : m ≤ padZ n + 1) : (n + m) % 64 = 56 ↔ m = padZ n + 1 := by
  unfold padZ at h ⊢; omega
theorem padH_snoc {m : Nat} (h1 : 1 ≤ m) : bs (0x80 :: List.replicate (m - 1) 0) ++ [Value.int .u8 0] = bs (0x80 :: List.replicate (m + 1 - 1) 0) := by
  obtain ⟨k, rfl⟩ : ∃ k, m = k + 1 := ⟨m - 1, by omega⟩
  simp only [Nat.add_sub_cancel, List.replicate_succ']
  rw [← List.cons_append, bs_app]
  rfl
theorem be8_snoc (n : Nat) {i : Nat} (hi : i < 8) : bs (padH n ++ (be8 (8 * n)).take i) ++ [Value.int .u8 ((8 * n : Nat) / 2 ^ (56 - 8 * i) % 256 : Int)] = bs (padH n ++ (be8 (8 * n)).take (i + 1)) := by
  have hl : i < (be8 (8 * n)).length := by rw [be8_len]; exact hi
  rw [List.take_succ_eq_append_getElem hl, ← List.append_assoc, bs_app (padH n ++ (be8 (8 * n)).take i)]
  congr 1
  simp only [be8, List.getElem_map, List.getElem_range, bs_cons, bs_nil]
  rw [UInt8.toNat_ofNat']
  congr 2
theorem w4_cells (x : U32) : [Value.int .u8 ((x.toNat : Int) / 16777216), Value.int .u8 ((x.toNat : Int) / 65536 % 256), Value.int .u8 ((x.toNat : Int) / 256 % 256), Value.int .u8 ((x.toNat : Int) % 256)] = bs (w4 x) := by
  have h := w_b24 x
  have hx := x.isLt
  rw [show ((x.toNat : Int) / (16777216 : Int)) % (256 : Int) = (x.toNat : Int) / (16777216 : Int) by omega] at h
  simp only [w4, bs_cons, bs_nil]
  rw [h, w_b16, w_b8, w_low]
theorem outW_snoc (t : S8) {i : Nat} (hi : i < 8) : bs (outW (t.lst.take i)) ++ bs (w4 (t.lst.getD i 0)) = bs (outW (t.lst.take (i + 1))) := by
  have hl : i < t.lst.length := by rw [S8.lst_len]; exact hi
  rw [List.take_succ_eq_append_getElem hl, ← bs_app, List.getD_eq_getElem?_getD, List.getElem?_eq_getElem hl]
  congr 1
  unfold outW
  rw [List.map_append, List.flatten_append]
  simp
theorem Sl.four (w : World) (x y z t : Value) (e : TypeId) : Sl (w.alloc (.cells #[x, y, z, t] e)) 1 (.slice (some ⟨w.heap.size, 0, none⟩) 4 4) 4 [x, y, z, t] :=
  ((St.refl w).made #[x, y, z, t] e 1 4 rfl (by simp [maxLen])).sl0
theorem padZ_le (n : Nat) : padZ n < 64 := by unfold padZ; omega
theorem pad_eq (n : Nat) : pad n = padH n ++ be8 (8 * n) := rfl
end Go.Mx
namespace Go.Proofs.Ytlfdnlomlbbicaa
open Go.RowKit Go.Mx

theorem ix8 (t : S8) : ∀ i : Nat, i < 8 → ∀ w', (Instr.index 107 (.agg (u32s t.lst).toArray) (.int .i64 (i : Int))).run Try.prog w' = .ok (.int .u32 ((t.lst.getD i 0).toNat : Int)) w' := fun i hi w' => by
  have h : i = 0 ∨ i = 1 ∨ i = 2 ∨ i = 3 ∨ i = 4 ∨ i = 5 ∨ i = 6 ∨ i = 7 := by omega
  rcases h with rfl | rfl | rfl | rfl | rfl | rfl | rfl | rfl <;> (show Sem.run _ _ _ = _; kernel_rfl)

end Go.Proofs.Ytlfdnlomlbbicaa
