/- A slice of slices of bytes: it reads as a list of lists of bytes. -/
import Derived.Test.YtloogjdafhjheaaDoorLib3
namespace Go.Mx
open Go Go.RowKit

/-- The slices vs, each for itself, as what is read. -/
def rds (vs : List Value) (ls : List (List UInt8)) : List Rd := List.zipWith (fun v l => ⟨v, 1, l.length, bs l⟩) vs ls
theorem rds_snoc (vs : List Value) (ls : List (List UInt8)) (v : Value) (l : List UInt8) (h : vs.length = ls.length) : rds (vs ++ [v]) (ls ++ [l]) = rds vs ls ++ [⟨v, 1, l.length, bs l⟩] := by
  unfold rds
  rw [List.zipWith_append h]
  rfl

/-- v reads as the list ls of lists of bytes. -/
def LL (w : World) (v : Value) (ls : List (List UInt8)) : Prop :=
  ∃ vs : List Value, vs.length = ls.length ∧ Sl w 1 v ls.length vs ∧ ∀ q ∈ rds vs ls, Sl w q.size q.v q.n q.xs

theorem LL.old {w0 w : World} {R : List Row} {Q : List Rd} {v : Value} {ls : List (List UInt8)} (h : St w0 w R Q) (hl : LL w0 v ls) : LL w v ls := by
  obtain ⟨vs, h1, h2, h3⟩ := hl
  exact ⟨vs, h1, h.old h2, fun q hq => h.old (h3 q hq)⟩
theorem LL.ofSt {w0 w : World} {v : Value} {e : TypeId} {vs : List Value} {ls : List (List UInt8)} (h : St w0 w [⟨v, e, 1, ls.length, vs⟩] (rds vs ls)) (hl : vs.length = ls.length) : LL w v ls :=
  ⟨vs, hl, h.sl0, fun q hq => h.rd q hq⟩
theorem LL.nil (w : World) : LL w (.slice none 0 0) [] := ⟨[], rfl, Sl.nil w 1, by simp [rds]⟩

theorem LL.at {w : World} {v : Value} {ls : List (List UInt8)} (h : LL w v ls) : ∃ ao cap blk off, ∃ us : Nat → Value, v = .slice ao ls.length cap ∧ ls.length ≤ cap ∧ cap ≤ 9223372036854775807 ∧
    (∀ k, k < ls.length → ao = some ⟨blk, off, none⟩ ∧ w.cell? ⟨blk, off + k, none⟩ = some (us k)) ∧ ∀ k (hk : k < ls.length), Sl w 1 (us k) ls[k].length (bs ls[k]) := by
  obtain ⟨vs, h1, h2, h3⟩ := h
  obtain ⟨ao, cap, rfl, g1, g2, g3, _, g4⟩ := h2.form
  unfold maxLen at g2
  have hq : ∀ k (hk : k < ls.length), Sl w 1 (vs.getD k (.bool false)) ls[k].length (bs ls[k]) := fun k hk => by
    have : (⟨vs[k]'(by omega), 1, ls[k].length, bs ls[k]⟩ : Rd) ∈ rds vs ls := by
      unfold rds
      rw [List.mem_iff_getElem]
      exact ⟨k, by simp; omega, by simp⟩
    have := h3 _ this
    simpa [List.getD_eq_getElem?_getD, List.getElem?_eq_getElem (show k < vs.length by omega)] using this
  by_cases hnil : ls = []
  · subst hnil; exact ⟨ao, cap, 0, 0, _, rfl, g1, by omega, fun k hk => by simp at hk, hq⟩
  · have hne : vs ≠ [] := by rintro rfl; simp at h1; exact hnil (List.eq_nil_of_length_eq_zero h1.symm)
    obtain ⟨b, off, rfl, hc⟩ := g4 hne
    exact ⟨_, cap, b, off, _, rfl, g1, by omega, fun k hk => ⟨rfl, hc k _ (by simp [List.getD_eq_getElem?_getD, List.getElem?_eq_getElem (show k < vs.length by omega)])⟩, hq⟩

theorem Sl.cutB {w : World} {v : Value} {b : List UInt8} {l r : Nat} (h : Sl w 1 v (r - l) (((bs b).take (r * 1)).drop (l * 1))) (hr : r ≤ b.length) (hl : l ≤ r) : Sl w 1 v ((b.take r).drop l).length (bs ((b.take r).drop l)) := by
  rw [bs_cut] at h
  rwa [show ((b.take r).drop l).length = r - l by rw [List.length_drop, List.length_take]; omega]
theorem Sl.cutS {w : World} {v : Value} {b : List ByteArray} {l r : Nat} (h : Sl w 1 v (r - l) (((ss b).take (r * 1)).drop (l * 1))) (hr : r ≤ b.length) (hl : l ≤ r) : Sl w 1 v ((b.take r).drop l).length (ss ((b.take r).drop l)) := by
  rw [ss_cut] at h
  rwa [show ((b.take r).drop l).length = r - l by rw [List.length_drop, List.length_take]; omega]

/-- One list more. -/
theorem St.pushL {w0 w : World} {v c : Value} {e : TypeId} {vs : List Value} {ls : List (List UInt8)} {l : List UInt8} (h : St w0 w [⟨v, e, 1, ls.length + 1, vs ++ [c]⟩] (⟨c, 1, l.length, bs l⟩ :: rds vs ls)) (hl : vs.length = ls.length) :
    St w0 w [⟨v, e, 1, (ls ++ [l]).length, vs ++ [c]⟩] (rds (vs ++ [c]) (ls ++ [l])) ∧ (vs ++ [c]).length = (ls ++ [l]).length := by
  refine ⟨(h.cast (by simp) rfl).sub (List.Sublist.refl _) fun q hq => ?_, by simp [hl]⟩
  rw [rds_snoc _ _ _ _ hl] at hq
  rcases List.mem_append.1 hq with hq | hq
  · exact List.mem_cons_of_mem _ hq
  · simp at hq; subst hq; exact List.mem_cons_self ..
end Go.Mx
