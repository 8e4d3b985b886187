/- Walk of sha.schedule. -/
import Derived.Test.YtlfdnlomlbbicaaSha
import Derived.Test.YtlfdnlomlbbicaaLibA
namespace Go.Proofs.Ytlfdnlomlbbicaa
open Go.RowKit Go.Mx

theorem Try.a8 : Ag Try.prog 107 8 := ⟨⟨_, Try.underlying107, rfl⟩, by kernel_rfl⟩
theorem u32s_one (l : List U32) : ∀ u ∈ u32s l, u.oneCell' = true := by
  intro u hu
  obtain ⟨_, _, rfl⟩ := List.mem_map.1 hu
  rfl
/-- A word laid behind the first i. -/
theorem lay_word {l : List U32} {i n : Nat} (hl : l.length = i) (hi : i < n) (x : U32) :
    (u32s (l ++ List.replicate (n - i) 0)).take i ++ [Value.int .u32 (x.toNat : Int)] ++ (u32s (l ++ List.replicate (n - i) 0)).drop (i + 1) = u32s ((l ++ [x]) ++ List.replicate (n - (i + 1)) 0) := by
  subst hl
  obtain ⟨m, hm⟩ : ∃ m, n - l.length = m + 1 := ⟨n - l.length - 1, by omega⟩
  rw [hm, show n - (l.length + 1) = m by omega, u32s_app, u32s_app, List.take_append_of_le_length (by rw [u32s_len]; omega), List.take_of_length_le (by rw [u32s_len]; omega),
    List.drop_append, u32s_len, List.drop_eq_nil_of_le (by rw [u32s_len]; omega), List.replicate_succ, show l.length + 1 - l.length = 1 by omega]
  simp [u32s]

theorem word_cells {b : List UInt8} (hb : b.length = 64) {l : List U32} {i j : Nat} (hi : i < 16) (hj : j = 4 * i) {w : World} {p : Prop} {blk off : Nat} (HC : ∀ k (hk : k < b.length), p ∧ w.cell? ⟨blk, off + k, none⟩ = some (.int .u8 (b[k].toNat : Int))) :
    p ∧ ∃ x0 x1 x2 x3 : U32, w.cell? ⟨blk, off + j, none⟩ = some (.int .u8 (x0.toNat : Int)) ∧ w.cell? ⟨blk, off + (j + 1), none⟩ = some (.int .u8 (x1.toNat : Int)) ∧ w.cell? ⟨blk, off + (j + 2), none⟩ = some (.int .u8 (x2.toNat : Int)) ∧ w.cell? ⟨blk, off + (j + 3), none⟩ = some (.int .u8 (x3.toNat : Int)) ∧
      nextW b l i = (((x0 <<< 24) ||| (x1 <<< 16)) ||| (x2 <<< 8)) ||| x3 := by
  have h0 : j < b.length := by omega
  have h1 : j + 1 < b.length := by omega
  have h2 : j + 2 < b.length := by omega
  have h3 : j + 3 < b.length := by omega
  refine ⟨(HC j h0).1, by32 b[j], by32 b[j + 1], by32 b[j + 2], by32 b[j + 3], ?_, ?_, ?_, ?_, ?_⟩
  · rw [(HC j h0).2, w_byte]
  · rw [(HC _ h1).2, w_byte]
  · rw [(HC _ h2).2, w_byte]
  · rw [(HC _ h3).2, w_byte]
  · unfold nextW word
    rw [if_pos hi, ← hj]
    simp [h0, h1, h2, h3]

end Go.Proofs.Ytlfdnlomlbbicaa
