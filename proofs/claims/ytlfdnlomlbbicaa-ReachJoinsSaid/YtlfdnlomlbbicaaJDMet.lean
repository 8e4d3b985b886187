/- Names met, as a map holds them. What is reached by names: the plain mathematics (no program in sight). -/
import Derived.Test.YtlfdnlomlbbicaaMapM
import Derived.Test.YtlfdnlomlbbicaaSortP
namespace Go.Mx
open Go Go.RowKit
def memB (M : List ByteArray) (k : ByteArray) : Bool := M.any fun x => decide (x = k)
theorem memB_iff {M : List ByteArray} {k : ByteArray} : memB M k = true ↔ k ∈ M := by
  unfold memB
  rw [List.any_eq_true]
  constructor
  · rintro ⟨x, hx, he⟩; rw [← of_decide_eq_true he]; exact hx
  · intro h; exact ⟨k, h, by simp⟩
/-- Names met, as a map holds them. -/
def met (M : List ByteArray) : List Ent := M.map fun k => (k, .int .i64 1)
theorem mget_met (M : List ByteArray) (k : ByteArray) : mget (met M) k = if memB M k = true then some (.int .i64 1) else none := by
  induction M with
  | nil => rfl
  | cons x M ih =>
    show (if x = k then some (Value.int .i64 1) else mget (met M) k) = _
    rw [ih, show memB (x :: M) k = (decide (x = k) || memB M k) from rfl]
    by_cases h : x = k
    · rw [if_pos h, decide_eq_true h]; rfl
    · rw [if_neg h, decide_eq_false h, Bool.false_or]
theorem mset_met {M : List ByteArray} {k : ByteArray} (h : k ∉ M) : mset (met M) k (.int .i64 1) = met (M ++ [k]) := by
  rw [mset_none (by rw [mget_met, if_neg (by rw [memB_iff]; exact h)])]
  simp [met]
theorem nodup_sub {M K : List ByteArray} (hn : M.Nodup) (hs : ∀ m ∈ M, m ∈ K) : M.length ≤ K.length := by
  induction M generalizing K with
  | nil => simp
  | cons x M ih =>
    rw [List.nodup_cons] at hn
    obtain ⟨a, b, rfl⟩ := List.append_of_mem (hs x (by simp))
    have := ih hn.2 (K := a ++ b) (fun m hm => by
      have h1 := hs m (List.mem_cons_of_mem _ hm)
      rcases List.mem_append.1 h1 with h1 | h1
      · exact List.mem_append_left _ h1
      · rcases List.mem_cons.1 h1 with rfl | h1
        · exact absurd hm hn.1
        · exact List.mem_append_right _ h1)
    simp only [List.length_append, List.length_cons] at this ⊢
    omega
end Go.Mx

namespace Go.Mx
open Go Go.RowKit

/-- x is y, or named by one that y names, and so on. -/
inductive Rea (nb : ByteArray → List ByteArray) : ByteArray → ByteArray → Prop
  | refl (y : ByteArray) : Rea nb y y
  | step {x p y : ByteArray} (hp : p ∈ nb y) (ha : Rea nb x p) : Rea nb x y
theorem Rea.trans {nb : ByteArray → List ByteArray} {x y z : ByteArray} (h : Rea nb x y) (h2 : Rea nb y z) : Rea nb x z := by
  induction h2 with
  | refl => exact h
  | step h1 _ ih => exact .step h1 ih
/-- All that is reached from some names. -/
def CloN (nb : ByteArray → List ByteArray) (ids M : List ByteArray) : Prop := ∀ x, x ∈ M ↔ ∃ i ∈ ids, Rea nb x i
structure RJ (nb : ByteArray → List ByteArray) (ids Wk M : List ByteArray) : Prop where
  a : ∀ x, x ∈ M ∨ x ∈ Wk → ∃ i ∈ ids, Rea nb x i
  b : ∀ i ∈ ids, i ∈ M ∨ i ∈ Wk
  c : ∀ m ∈ M, ∀ p ∈ nb m, p ∈ M ∨ p ∈ Wk
  d : M.Nodup
theorem RJ.start (nb : ByteArray → List ByteArray) (ids : List ByteArray) : RJ nb ids ids [] :=
  ⟨fun x h => by
    rcases h with h | h
    · cases h
    · exact ⟨x, h, .refl x⟩, fun i h => .inr h, fun m h => (by cases h), List.nodup_nil⟩
/-- Names that are looked for twice: in any order, from any end. -/
theorem RJ.skip {nb : ByteArray → List ByteArray} {ids Wk Wk' M : List ByteArray} {x : ByteArray} (h : RJ nb ids Wk M) (hW : ∀ y, y ∈ Wk ↔ y = x ∨ y ∈ Wk') (hx : x ∈ M) : RJ nb ids Wk' M where
  a y hy := h.a y (by rcases hy with hy | hy; exact .inl hy; exact .inr ((hW y).2 (.inr hy)))
  b i hi := by
    rcases h.b i hi with h1 | h1
    · exact .inl h1
    · rcases (hW i).1 h1 with rfl | h1
      · exact .inl hx
      · exact .inr h1
  c m hm p hp := by
    rcases h.c m hm p hp with h1 | h1
    · exact .inl h1
    · rcases (hW p).1 h1 with rfl | h1
      · exact .inl hx
      · exact .inr h1
  d := h.d
theorem RJ.meet {nb : ByteArray → List ByteArray} {ids Wk Wk' Wk2 M : List ByteArray} {x : ByteArray} (h : RJ nb ids Wk M) (hW : ∀ y, y ∈ Wk ↔ y = x ∨ y ∈ Wk') (hx : x ∉ M) (hW2 : ∀ y, y ∈ Wk2 ↔ y ∈ Wk' ∨ y ∈ nb x) : RJ nb ids Wk2 (M ++ [x]) where
  a y hy := by
    have hxr : ∃ i ∈ ids, Rea nb x i := h.a x (.inr ((hW x).2 (.inl rfl)))
    rcases hy with hy | hy
    · rcases List.mem_append.1 hy with hy | hy
      · exact h.a y (.inl hy)
      · rw [List.mem_singleton.1 hy]; exact hxr
    · rcases (hW2 y).1 hy with hy | hy
      · exact h.a y (.inr ((hW y).2 (.inr hy)))
      · obtain ⟨i, hi, ha⟩ := hxr
        exact ⟨i, hi, Rea.trans (.step hy (.refl y)) ha⟩
  b i hi := by
    rcases h.b i hi with h1 | h1
    · exact .inl (List.mem_append_left _ h1)
    · rcases (hW i).1 h1 with rfl | h1
      · exact .inl (by simp)
      · exact .inr ((hW2 i).2 (.inl h1))
  c m hm p hp := by
    rcases List.mem_append.1 hm with hm | hm
    · rcases h.c m hm p hp with h1 | h1
      · exact .inl (List.mem_append_left _ h1)
      · rcases (hW p).1 h1 with rfl | h1
        · exact .inl (by simp)
        · exact .inr ((hW2 p).2 (.inl h1))
    · rw [List.mem_singleton.1 hm] at hp
      exact .inr ((hW2 p).2 (.inr hp))
  d := by
    rw [List.nodup_append]
    exact ⟨h.d, by simp, fun a ha b hb e => by rw [List.mem_singleton.1 hb] at e; exact hx (e ▸ ha)⟩
theorem RJ.done {nb : ByteArray → List ByteArray} {ids M : List ByteArray} (h : RJ nb ids [] M) : CloN nb ids M ∧ M.Nodup := by
  have hcl : ∀ {x y : ByteArray}, Rea nb x y → y ∈ M → x ∈ M := by
    intro x y ha
    induction ha with
    | refl => exact id
    | @step p y hp _ ih =>
      intro hy
      rcases h.c y hy p hp with h1 | h1
      · exact ih h1
      · cases h1
  refine ⟨fun x => ⟨fun hx => h.a x (.inl hx), fun ⟨i, hi, ha⟩ => hcl ha ?_⟩, h.d⟩
  rcases h.b i hi with h1 | h1
  · exact h1
  · cases h1
/-- What is met is reached. -/
theorem RJ.sub {nb : ByteArray → List ByteArray} {ids Wk M : List ByteArray} (h : RJ nb ids Wk M) : ∀ x ∈ M, ∃ i ∈ ids, Rea nb x i := fun x hx => h.a x (.inl hx)
/-- All that is reached lies among the names and what is named. -/
theorem rt_in {nb : ByteArray → List ByteArray} {ids U : List ByteArray} (h1 : ∀ i ∈ ids, i ∈ U) (h2 : ∀ y, ∀ p ∈ nb y, p ∈ U) {x i : ByteArray} (hi : i ∈ ids) (h : Rea nb x i) : x ∈ U := by
  have : ∀ {x y : ByteArray}, Rea nb x y → y ∈ U → x ∈ U := by
    intro x y ha
    induction ha with
    | refl => exact id
    | @step p y hp _ ih => exact fun _ => ih (h2 y p hp)
  exact this h (h1 i hi)
theorem CloN.eq {nb : ByteArray → List ByteArray} {ids M M' : List ByteArray} (h : CloN nb ids M) (h' : CloN nb ids M') : ∀ x, x ∈ M ↔ x ∈ M' := fun x => (h x).trans (h' x).symm
end Go.Mx
