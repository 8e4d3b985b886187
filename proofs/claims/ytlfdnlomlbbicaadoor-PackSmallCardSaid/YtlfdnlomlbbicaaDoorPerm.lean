/- Lists of rows: one brought to the head, and set back; make([]T, n) with a known zero. -/
import Derived.Test.YtlfdnlomlbbicaaDoorLib3
namespace Go.Mx
open Go Go.RowKit
theorem perm_pick {α : Type} (l : List α) (i : Nat) (h : i < l.length) : l.Perm (l[i] :: l.eraseIdx i) := by
  induction l generalizing i with
  | nil => simp at h
  | cons x l ih =>
    match i with
    | 0 => simp
    | i + 1 =>
      simp only [List.getElem_cons_succ, List.eraseIdx_cons_succ]
      exact ((ih i (by simpa using h)).cons x).trans (List.Perm.swap _ _ _)
theorem perm_set {α : Type} (l : List α) (i : Nat) (h : i < l.length) (x : α) : (x :: l.eraseIdx i).Perm (l.set i x) := by
  induction l generalizing i with
  | nil => simp at h
  | cons y l ih =>
    match i with
    | 0 => simp
    | i + 1 =>
      simp only [List.set_cons_succ, List.eraseIdx_cons_succ]
      exact (List.Perm.swap _ _ _).trans ((ih i (by simpa using h)).cons y)
theorem run_make_rep {P : Program} {t e : TypeId} {z : Value} {bytes : Nat} (ht : P.underlying t = some (.slice e)) (h : (P.info? e).map (fun i => (i.zero, i.size, i.bytes)) = some (some z, 1, bytes)) (hz : z.cells = #[z]) (hby : 1 ≤ bytes) (n : Nat) (hb : bytes * n ≤ 281474976710656) :
    ∃ C : Array Value, C.toList = List.replicate n z ∧ ∀ (i : Int), i = n → ∀ w : World, (Instr.makeSlice t (.int .i64 i) (.int .i64 i)).run P w = .ok (.slice (some ⟨w.heap.size, 0, none⟩) n n) (w.alloc (.cells C e)) := by
  obtain ⟨i, h1, h2, h3, h4⟩ := info_parts h
  refine ⟨madeCells #[z] n, toList_madeCells_one z n, fun k hk w => ?_⟩
  subst hk
  have hn : n ≤ bytes * n := Nat.le_mul_of_pos_left n hby
  have := run_make (P := P) w t e i z ht h1 h2 .i64 .i64 (n : Int) (n : Int) (by omega) (by omega) (by rw [h4]; have : ((bytes * n : Nat) : Int) = (bytes : Int) * (n : Int) := Int.natCast_mul _ _; omega) (by omega)
  rw [this, h3, hz, Nat.mul_one, Int.toNat_natCast]
end Go.Mx
