/- Walks of the small functions that many statements use: bytes and texts held against one another, copies. A slice of slices of bytes: it reads as a list of lists of bytes. -/
import Derived.Test.YtlfdnlomlbbicaaDoorRows
import Derived.Test.YtlfdnlomlbbicaaDoorLib3
import Derived.Test.YtlfdnlomlbbicaaDoorJ2HexP
namespace Go.Proofs.YtlfdnlomlbbicaaDoor
open Go.RowKit Go.Mx

theorem Tryd.elU8 : El Tryd.prog 25 5 1 1 := El.mk' Tryd.underlying25 (z := .int .u8 0) (by kernel_rfl) rfl (by omega)

theorem Tryd.elStr : El Tryd.prog 52 9 1 16 := El.mk' Tryd.underlying52 (z := .string ByteArray.empty) (by kernel_rfl) rfl (by omega)

theorem Tryd.elInt : El Tryd.prog 42 3 1 8 := El.mk' Tryd.underlying42 (z := .int .i64 0) (by kernel_rfl) rfl (by omega)
theorem Tryd.elBs : El Tryd.prog 22 25 1 24 := El.mk' Tryd.underlying22 (z := .slice none 0 0) (by kernel_rfl) rfl (by omega)

theorem u8_nat {m : Nat} (h : m < 256) : ((UInt8.ofNat m).toNat : Int) = m := by
  rw [UInt8.toNat_ofNat']; omega

/-- Cells that were read before are read behind. -/
theorem keepC {w0 w : World} {R : List Row} {Q : List Rd} (h : St w0 w R Q) {n : Nat} {p : Prop} {blk off : Nat} {f : (k : Nat) → k < n → Value} (C : Hid (∀ k (hk : k < n), p ∧ w0.cell? ⟨blk, off + k, none⟩ = some (f k hk))) :
    Hid (∀ k (hk : k < n), p ∧ w.cell? ⟨blk, off + k, none⟩ = some (f k hk)) := fun k hk => ⟨(C.out k hk).1, h.keep (C.out k hk).2⟩

theorem tx_beq {x y : ByteArray} (h : x = y) : (x.toList == y.toList) = true := by simp [h]
theorem tx_bne {x y : ByteArray} (h : x ≠ y) : (x.toList == y.toList) = false := by
  simp only [beq_eq_false_iff_ne, ne_eq]
  exact fun h' => h (toL_inj h')

theorem tx_ite (x y : ByteArray) : (if (x.toList == y.toList) = true then 1 else 0) = if x = y then 1 else 0 := by
  by_cases h : x = y
  · rw [tx_beq h, if_pos h]; rfl
  · rw [tx_bne h, if_neg h]; rfl

theorem bytes_any (v v' : Value) (l l' : List UInt8) (w : World) (hv : Sl w 1 v l.length (bs l)) (hv' : Sl w 1 v' l'.length (bs l')) :
    Calls Tryd.prog 19 #[v, v'] w fun e w' => e = .returned (.bool (decide (l = l'))) ∧ w = w' := by
  go_enter Tryd.func19, Tryd.ntmps19
  go_wp2_with (first | ((with_reducible show wpList _ _ _ _ _ _); refine wpl_b2s rfl 25 9 5 _ rfl Tryd.underlying25 Tryd.underlying5 Tryd.underlying9 (by exact hv) ?_) | ((with_reducible show wpList _ _ _ _ _ _); refine wpl_b2s rfl 25 9 5 _ rfl Tryd.underlying25 Tryd.underlying5 Tryd.underlying9 (by exact hv') ?_))
  go_ret
  exact ⟨by rw [← str_beq]; rfl, rfl⟩

end Go.Proofs.YtlfdnlomlbbicaaDoor

namespace Go.Mx
open Go Go.RowKit

/-- The slices vs, each for itself, as what is read. -/
def rds (vs : List Value) (ls : List (List UInt8)) : List Rd := List.zipWith (fun v l => ⟨v, 1, l.length, bs l⟩) vs ls
theorem rds_snoc (vs : List Value) (ls : List (List UInt8)) (v : Value) (l : List UInt8) (h : vs.length = ls.length) : rds (vs ++ [v]) (ls ++ [l]) = rds vs ls ++ [⟨v, 1, l.length, bs l⟩] := by
  unfold rds
  rw [List.zipWith_append h]
  rfl

/-- v reads as the list ls of lists of bytes. -/
def LL (w : World) (v : Value) (ls : List (List UInt8)) : Prop :=
  ∃ vs : List Value, vs.length = ls.length ∧ Sl w 1 v ls.length vs ∧ ∀ q ∈ rds vs ls, Sl w q.size q.v q.n q.xs

theorem LL.old {w0 w : World} {R : List Row} {Q : List Rd} {v : Value} {ls : List (List UInt8)} (h : St w0 w R Q) (hl : LL w0 v ls) : LL w v ls := by
  obtain ⟨vs, h1, h2, h3⟩ := hl
  exact ⟨vs, h1, h.old h2, fun q hq => h.old (h3 q hq)⟩
theorem LL.ofSt {w0 w : World} {v : Value} {e : TypeId} {vs : List Value} {ls : List (List UInt8)} (h : St w0 w [⟨v, e, 1, ls.length, vs⟩] (rds vs ls)) (hl : vs.length = ls.length) : LL w v ls :=
  ⟨vs, hl, h.sl0, fun q hq => h.rd q hq⟩
theorem LL.nil (w : World) : LL w (.slice none 0 0) [] := ⟨[], rfl, Sl.nil w 1, by simp [rds]⟩

theorem LL.at {w : World} {v : Value} {ls : List (List UInt8)} (h : LL w v ls) : ∃ ao cap blk off, ∃ us : Nat → Value, v = .slice ao ls.length cap ∧ ls.length ≤ cap ∧ cap ≤ 9223372036854775807 ∧
    (∀ k, k < ls.length → ao = some ⟨blk, off, none⟩ ∧ w.cell? ⟨blk, off + k, none⟩ = some (us k)) ∧ ∀ k (hk : k < ls.length), Sl w 1 (us k) ls[k].length (bs ls[k]) := by
  obtain ⟨vs, h1, h2, h3⟩ := h
  obtain ⟨ao, cap, rfl, g1, g2, g3, _, g4⟩ := h2.form
  unfold maxLen at g2
  have hq : ∀ k (hk : k < ls.length), Sl w 1 (vs.getD k (.bool false)) ls[k].length (bs ls[k]) := fun k hk => by
    have : (⟨vs[k]'(by omega), 1, ls[k].length, bs ls[k]⟩ : Rd) ∈ rds vs ls := by
      unfold rds
      rw [List.mem_iff_getElem]
      exact ⟨k, by simp; omega, by simp⟩
    have := h3 _ this
    simpa [List.getD_eq_getElem?_getD, List.getElem?_eq_getElem (show k < vs.length by omega)] using this
  by_cases hnil : ls = []
  · subst hnil; exact ⟨ao, cap, 0, 0, _, rfl, g1, by omega, fun k hk => by simp at hk, hq⟩
  · have hne : vs ≠ [] := by rintro rfl; simp at h1; exact hnil (List.eq_nil_of_length_eq_zero h1.symm)
    obtain ⟨b, off, rfl, hc⟩ := g4 hne
    exact ⟨_, cap, b, off, _, rfl, g1, by omega, fun k hk => ⟨rfl, hc k _ (by simp [List.getD_eq_getElem?_getD, List.getElem?_eq_getElem (show k < vs.length by omega)])⟩, hq⟩

theorem Sl.cutB {w : World} {v : Value} {b : List UInt8} {l r : Nat} (h : Sl w 1 v (r - l) (((bs b).take (r * 1)).drop (l * 1))) (hr : r ≤ b.length) (hl : l ≤ r) : Sl w 1 v ((b.take r).drop l).length (bs ((b.take r).drop l)) := by
  rw [bs_cut] at h
  rwa [show ((b.take r).drop l).length = r - l by rw [List.length_drop, List.length_take]; omega]
theorem Sl.cutS {w : World} {v : Value} {b : List ByteArray} {l r : Nat} (h : Sl w 1 v (r - l) (((ss b).take (r * 1)).drop (l * 1))) (hr : r ≤ b.length) (hl : l ≤ r) : Sl w 1 v ((b.take r).drop l).length (ss ((b.take r).drop l)) := by
  rw [ss_cut] at h
  rwa [show ((b.take r).drop l).length = r - l by rw [List.length_drop, List.length_take]; omega]

/-- One list more. -/
theorem St.pushL {w0 w : World} {v c : Value} {e : TypeId} {vs : List Value} {ls : List (List UInt8)} {l : List UInt8} (h : St w0 w [⟨v, e, 1, ls.length + 1, vs ++ [c]⟩] (⟨c, 1, l.length, bs l⟩ :: rds vs ls)) (hl : vs.length = ls.length) :
    St w0 w [⟨v, e, 1, (ls ++ [l]).length, vs ++ [c]⟩] (rds (vs ++ [c]) (ls ++ [l])) ∧ (vs ++ [c]).length = (ls ++ [l]).length := by
  refine ⟨(h.cast (by simp) rfl).sub (List.Sublist.refl _) fun q hq => ?_, by simp [hl]⟩
  rw [rds_snoc _ _ _ _ hl] at hq
  rcases List.mem_append.1 hq with hq | hq
  · exact List.mem_cons_of_mem _ hq
  · simp at hq; subst hq; exact List.mem_cons_self ..
end Go.Mx
