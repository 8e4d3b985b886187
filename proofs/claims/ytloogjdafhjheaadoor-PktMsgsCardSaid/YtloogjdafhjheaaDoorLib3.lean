/- Laws for regions that draw their order and make memory. -/
import Derived.Test.YtloogjdafhjheaaDoorLib2
import Derived.Deep.RegionHeld3
import Derived.Deep.QuietTactic
import Derived.BigQuiet
import Derived.StillTailTactics
namespace Go.Mx
open Go Go.RowKit

/-- append to the head row, as one step of a region that draws. -/
theorem step_app {P : Program} {w0 w : World} {R : List Row} {Qs : List Rd} {ops : Array Oper} {o : Oper} {a : Act} {K : Act → World → Prop} {Q : Exit → Act → World → Prop} {E : Prop} (hgd : o.guard = none) (s x : Operand) (t : TypeId)
    (ho : o.op = .call { callee := .builtin .append, args := #[s, x], argTypes := #[t, t] })
    {v : Value} {e : TypeId} {size bytes n : Nat} (El : El P t e size bytes) {xs : List Value} (hst : St w0 w (⟨v, e, size, n, xs⟩ :: R) Qs) (hs : a.eval s = v)
    {m : Nat} {news : List Value} (hx : Sl w size (a.eval x) m news) (h1 : ∀ u ∈ news, u.oneCell' = true) (hbytes : (n + m) * bytes ≤ 140737488355328)
    (h : ∀ v' w', St w0 w' (⟨v', e, size, n + m, xs ++ news⟩ :: R) Qs → (v' = .slice none 0 0 ↔ v = .slice none 0 0 ∧ m = 0) → K (a.put o.dst v') w') :
    if Region.wanted o (yielded ops a.tmps) = true then Oper.wp P o a w K Q else E := by
  have hw : Region.wanted o (yielded ops a.tmps) = true := by simp [Region.wanted, hgd]
  rw [if_pos hw]
  obtain ⟨i, z, h2, h3, h4, h5, h6⟩ := El.hi
  have hl : news.length = m * size := hx.len
  obtain ⟨v', w', hr, g2, g3, g4, g5⟩ := run_append_src (P := P) w0.heap.size t t o.type e i z size bytes El.ht (.slice e) El.ht (.inr ⟨_, rfl⟩) h2 h3 h4 h5 h6 v n xs (hst.own _ (List.mem_cons_self ..)) (a.eval x) m news hl (lenOf_sl hx) (firstCells_sl hx) h1 (len_of_bytes El.hb hbytes) hbytes hst.size
  unfold Oper.wp execOp
  simp only [ho, resolve, invoke, builtin, Sem.run_bind, Sem.run_pure, Result.andThen_ok, List.map_toArray, List.map_cons, List.map_nil, hs, hr]
  exact h v' w' (hst.turn g2 g3 g4) g5

/-- The same to the second row. -/
theorem step_app1 {P : Program} {w0 w : World} {R : List Row} {Qs : List Rd} {ops : Array Oper} {o : Oper} {a : Act} {K : Act → World → Prop} {Q : Exit → Act → World → Prop} {E : Prop} (hgd : o.guard = none) (s x : Operand) (t : TypeId)
    (ho : o.op = .call { callee := .builtin .append, args := #[s, x], argTypes := #[t, t] })
    {q : Row} {v : Value} {e : TypeId} {size bytes n : Nat} (El : El P t e size bytes) {xs : List Value} (hst : St w0 w (q :: ⟨v, e, size, n, xs⟩ :: R) Qs) (hs : a.eval s = v)
    {m : Nat} {news : List Value} (hx : Sl w size (a.eval x) m news) (h1 : ∀ u ∈ news, u.oneCell' = true) (hbytes : (n + m) * bytes ≤ 140737488355328)
    (h : ∀ v' w', St w0 w' (q :: ⟨v', e, size, n + m, xs ++ news⟩ :: R) Qs → (v' = .slice none 0 0 ↔ v = .slice none 0 0 ∧ m = 0) → K (a.put o.dst v') w') :
    if Region.wanted o (yielded ops a.tmps) = true then Oper.wp P o a w K Q else E :=
  step_app hgd s x t ho El hst.swap hs hx h1 hbytes fun v' w' h1 h2 => h v' w' h1.swap h2

/-- make([]T, n), n a variable: the run. -/
theorem run_make_n {P : Program} {t e : TypeId} {size bytes : Nat} (E : El P t e size bytes) (n : Nat) (hb : bytes * n ≤ 281474976710656) :
    ∃ z : Value, z.cells.size = size ∧ ∀ w : World, (Instr.makeSlice t (.int .i64 (n : Int)) (.int .i64 (n : Int))).run P w = .ok (.slice (some ⟨w.heap.size, 0, none⟩) n n) (w.alloc (.cells (madeCells z.cells (n * size)) e)) := by
  obtain ⟨i, z, h2, h3, h4, h5, h6⟩ := E.hi
  refine ⟨z, h6, fun w => ?_⟩
  have hn : n ≤ bytes * n := Nat.le_mul_of_pos_left n E.hb
  have := run_make (P := P) w t e i z E.ht h2 h3 .i64 .i64 (n : Int) (n : Int) (by omega) (by omega) (by rw [h5]; have : ((bytes * n : Nat) : Int) = (bytes : Int) * (n : Int) := Int.natCast_mul _ _; omega) (by omega)
  rw [this, h4, Int.toNat_natCast]

/-- x[lo:hi] as a run, the cut under a name. -/
theorem Sl.cutRun {P : Program} {t e : TypeId} {size bytes : Nat} (E : El P t e size bytes) {w : World} {v : Value} {n : Nat} {xs : List Value} (h : Sl w size v n xs) (lo hi : Option Value) (l r : Nat)
    (hl : (lo = none ∧ l = 0) ∨ ∃ k, lo = some (.int k (l : Int))) (hr : (hi = none ∧ r = n) ∨ ∃ k, hi = some (.int k (r : Int))) (hlr : l ≤ r) (hrn : r ≤ n) :
    ∃ v', (∀ w', (Instr.sliceAt t v lo hi none).run P w' = .ok v' w') ∧ ∀ w', Sl w' size v n xs → Sl w' size v' (r - l) ((xs.take (r * size)).drop (l * size)) := by
  obtain ⟨ao, cap, rfl, h1, _⟩ := h
  exact ⟨_, fun w' => run_slice_sl E h1 lo hi l r hl hr hlr hrn, fun w' h' => h'.cut hlr hrn⟩

/-- A row made with room and no elements. -/
theorem St.madeC {w0 w : World} {R : List Row} {Q : List Rd} (h : St w0 w R Q) (cells : Array Value) (e : TypeId) (size c : Nat) (hn : cells.size = c * size) (hm : c ≤ maxLen) :
    St w0 (w.alloc (.cells cells e)) (⟨.slice (some ⟨w.heap.size, 0, none⟩) 0 c, e, size, 0, []⟩ :: R) Q := by
  refine h.call1 ⟨(Below.refl _ _).alloc (Nat.le_refl _) _, fun r hr => ?_, by simp, by simp, by simp⟩
  obtain rfl := List.mem_singleton.1 hr
  exact ⟨by simp, .inr ⟨w.heap.size, c, cells, (0, 0), rfl, Nat.le_refl _, heap_alloc_new w _, by simp, Nat.zero_le _, hm, hn, by simp⟩⟩

/-- make([]T, 0, c). -/
theorem wpl_make0 {P : Program} {w0 w : World} {R : List Row} {Qs : List Rd} {ops : Array Oper} {rest : List Oper} {o : Oper} {a : Act} {Q : Exit → Act → World → Prop} (hgd : o.guard = none) (t : TypeId) (x y : Operand) (ho : o.op = .makeSlice t x y)
    {e : TypeId} {size bytes : Nat} (E : El P t e size bytes) (hst : St w0 w R Qs) {k k' : IntKind} (c : Nat) (hx : a.eval x = .int k 0) (hy : a.eval y = .int k' (c : Int)) (hb : bytes * c ≤ 140737488355328)
    (h : ∀ v' w', St w0 w' (⟨v', e, size, 0, []⟩ :: R) Qs → v' ≠ .slice none 0 0 → wpList P ops Q rest (a.put o.dst v') w') : wpList P ops Q (o :: rest) a w := by
  refine wpList_plain hgd fun K hK => ?_
  obtain ⟨i, z, h2, h3, h4, h5, h6⟩ := E.hi
  have hn : c ≤ bytes * c := Nat.le_mul_of_pos_left c E.hb
  have hr := run_make (P := P) w t e i z E.ht h2 h3 k k' 0 (c : Int) (by omega) (by omega) (by rw [h5]; have : ((bytes * c : Nat) : Int) = (bytes : Int) * (c : Int) := Int.natCast_mul _ _; omega) (by omega)
  rw [h4, Int.toNat_natCast] at hr
  unfold Oper.wp execOp
  simp only [ho, hx, hy, Sem.run_bind, hr, Result.andThen_ok, Sem.run_pure]
  exact hK _ _ (h _ _ (hst.madeC _ e size c (size_madeCells _ _) (by unfold maxLen; omega)) (by simp))

/-- The rows in another order. -/
theorem St.perm {w0 w : World} {R R' : List Row} {Q : List Rd} (h : St w0 w R Q) (p : R.Perm R') : St w0 w R' Q where
  below := h.below
  own r hr := h.own r (p.mem_iff.2 hr)
  sep := (p.pairwise_iff (fun hrs b hb hs => hrs b hs hb)).1 h.sep
  rd := h.rd
  apart q hq r hr := h.apart q hq r (p.mem_iff.2 hr)
theorem perm4a {α : Type} (t x a i : α) : [t, x, a, i].Perm [x, a, t, i] := (List.perm_append_comm (l₁ := [t]) (l₂ := [x, a])).append_right [i]
theorem perm4b {α : Type} (t i x a : α) : [t, i, x, a].Perm [x, a, t, i] := List.perm_append_comm (l₁ := [t, i]) (l₂ := [x, a])
theorem perm4c {α : Type} (t x a i : α) : [t, x, a, i].Perm [t, i, x, a] := (List.perm_append_comm (l₁ := [x, a]) (l₂ := [i])).cons t
theorem St.pick2 {w0 w : World} {t x a i : Row} {Q : List Rd} (h : St w0 w [x, a, t, i] Q) : St w0 w [a, i] Q :=
  h.sub (List.Sublist.cons _ (List.Sublist.cons_cons _ (List.Sublist.cons _ (List.Sublist.refl _)))) fun _ h => h
theorem St.pick2' {w0 w : World} {t x a i : Row} {Q : List Rd} (h : St w0 w [t, i, x, a] Q) : St w0 w [a, i] Q := (h.perm (perm4b t i x a)).pick2

/-- make([]T, n), the cells under a name. -/
theorem run_make_c {P : Program} {t e : TypeId} {size bytes : Nat} (E : El P t e size bytes) (n : Nat) (hb : bytes * n ≤ 281474976710656) :
    ∃ C : Array Value, C.size = n * size ∧ ∀ w : World, (Instr.makeSlice t (.int .i64 (n : Int)) (.int .i64 (n : Int))).run P w = .ok (.slice (some ⟨w.heap.size, 0, none⟩) n n) (w.alloc (.cells C e)) := by
  obtain ⟨z, _, h⟩ := run_make_n (P := P) E n hb
  exact ⟨_, size_madeCells _ _, h⟩

theorem heap_size_alloc (w : World) (o : Obj) : (w.alloc o).heap.size = w.heap.size + 1 := Array.size_push _

/-- A row made, its block's number as the walk spells it. -/
theorem St.madeAt {w0 w : World} {R : List Row} {Q : List Rd} (h : St w0 w R Q) (cells : Array Value) (e : TypeId) (size n g : Nat) (hn : cells.size = n * size) (hm : n ≤ maxLen) (hg : g = w.heap.size) :
    St w0 (w.alloc (.cells cells e)) (⟨.slice (some ⟨g, 0, none⟩) n n, e, size, n, cells.toList⟩ :: R) Q := by
  subst hg; exact h.made cells e size n hn hm
end Go.Mx
