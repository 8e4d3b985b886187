/- Names met, as a map holds them. -/
import Derived.Test.YtojbdlbcaoeffaaMapM
import Derived.Test.YtojbdlbcaoeffaaSortP
namespace Go.Mx
open Go Go.RowKit
def memB (M : List ByteArray) (k : ByteArray) : Bool := M.any fun x => decide (x = k)
theorem memB_iff {M : List ByteArray} {k : ByteArray} : memB M k = true ↔ k ∈ M := by
  unfold memB
  rw [List.any_eq_true]
  constructor
  · rintro ⟨x, hx, he⟩; rw [← of_decide_eq_true he]; exact hx
  · intro h; exact ⟨k, h, by simp⟩
/-- Names met, as a map holds them. -/
def met (M : List ByteArray) : List Ent := M.map fun k => (k, .int .i64 1)
theorem mget_met (M : List ByteArray) (k : ByteArray) : mget (met M) k = if memB M k = true then some (.int .i64 1) else none := by
  induction M with
  | nil => rfl
  | cons x M ih =>
    show (if x = k then some (Value.int .i64 1) else mget (met M) k) = _
    rw [ih, show memB (x :: M) k = (decide (x = k) || memB M k) from rfl]
    by_cases h : x = k
    · rw [if_pos h, decide_eq_true h]; rfl
    · rw [if_neg h, decide_eq_false h, Bool.false_or]
theorem mset_met {M : List ByteArray} {k : ByteArray} (h : k ∉ M) : mset (met M) k (.int .i64 1) = met (M ++ [k]) := by
  rw [mset_none (by rw [mget_met, if_neg (by rw [memB_iff]; exact h)])]
  simp [met]
theorem nodup_sub {M K : List ByteArray} (hn : M.Nodup) (hs : ∀ m ∈ M, m ∈ K) : M.length ≤ K.length := by
  induction M generalizing K with
  | nil => simp
  | cons x M ih =>
    rw [List.nodup_cons] at hn
    obtain ⟨a, b, rfl⟩ := List.append_of_mem (hs x (by simp))
    have := ih hn.2 (K := a ++ b) (fun m hm => by
      have h1 := hs m (List.mem_cons_of_mem _ hm)
      rcases List.mem_append.1 h1 with h1 | h1
      · exact List.mem_append_left _ h1
      · rcases List.mem_cons.1 h1 with rfl | h1
        · exact absurd hm hn.1
        · exact List.mem_append_right _ h1)
    simp only [List.length_append, List.length_cons] at this ⊢
    omega
end Go.Mx
