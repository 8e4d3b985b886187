/- Laws for regions that draw their order and make memory. Walks of the small functions that many statements use: bytes and texts held against one another, copies. A slice of slices of bytes: it reads as a list of lists of bytes. -/
import Derived.Test.YtlfdnlomlbbicaaGreatDoorLib2
import Derived.Deep.RegionHeld3
import Derived.Deep.QuietTactic
import Derived.BigQuiet
import Derived.StillTailTactics
import Derived.Test.YtlfdnlomlbbicaaGreatDoorRows
import Derived.Test.YtlfdnlomlbbicaaGreatDoorJ3HexP
namespace Go.Mx
open Go Go.RowKit

/-- append to the head row, as one step of a region that draws. -/
theorem step_app {P : Program} {w0 w : World} {R : List Row} {Qs : List Rd} {ops : Array Oper} {o : Oper} {a : Act} {K : Act → World → Prop} {Q : Exit → Act → World → Prop} {E : Prop} (hgd : o.guard = none) (s x : Operand) (t : TypeId)
    (ho : o.op = .call { callee := .builtin .append, args := #[s, x], argTypes := #[t, t] })
    {v : Value} {e : TypeId} {size bytes n : Nat} (El : El P t e size bytes) {xs : List Value} (hst : St w0 w (⟨v, e, size, n, xs⟩ :: R) Qs) (hs : a.eval s = v)
    {m : Nat} {news : List Value} (hx : Sl w size (a.eval x) m news) (h1 : ∀ u ∈ news, u.oneCell' = true) (hbytes : (n + m) * bytes ≤ 140737488355328)
    (h : ∀ v' w', St w0 w' (⟨v', e, size, n + m, xs ++ news⟩ :: R) Qs → (v' = .slice none 0 0 ↔ v = .slice none 0 0 ∧ m = 0) → K (a.put o.dst v') w') :
    if Region.wanted o (yielded ops a.tmps) = true then Oper.wp P o a w K Q else E := by
  have hw : Region.wanted o (yielded ops a.tmps) = true := by simp [Region.wanted, hgd]
  rw [if_pos hw]
  obtain ⟨i, z, h2, h3, h4, h5, h6⟩ := El.hi
  have hl : news.length = m * size := hx.len
  obtain ⟨v', w', hr, g2, g3, g4, g5⟩ := run_append_src (P := P) w0.heap.size t t o.type e i z size bytes El.ht (.slice e) El.ht (.inr ⟨_, rfl⟩) h2 h3 h4 h5 h6 v n xs (hst.own _ (List.mem_cons_self ..)) (a.eval x) m news hl (lenOf_sl hx) (firstCells_sl hx) h1 (len_of_bytes El.hb hbytes) hbytes hst.size
  unfold Oper.wp execOp
  simp only [ho, resolve, invoke, builtin, Sem.run_bind, Sem.run_pure, Result.andThen_ok, List.map_toArray, List.map_cons, List.map_nil, hs, hr]
  exact h v' w' (hst.turn g2 g3 g4) g5

/-- The same to the second row. -/
theorem step_app1 {P : Program} {w0 w : World} {R : List Row} {Qs : List Rd} {ops : Array Oper} {o : Oper} {a : Act} {K : Act → World → Prop} {Q : Exit → Act → World → Prop} {E : Prop} (hgd : o.guard = none) (s x : Operand) (t : TypeId)
    (ho : o.op = .call { callee := .builtin .append, args := #[s, x], argTypes := #[t, t] })
    {q : Row} {v : Value} {e : TypeId} {size bytes n : Nat} (El : El P t e size bytes) {xs : List Value} (hst : St w0 w (q :: ⟨v, e, size, n, xs⟩ :: R) Qs) (hs : a.eval s = v)
    {m : Nat} {news : List Value} (hx : Sl w size (a.eval x) m news) (h1 : ∀ u ∈ news, u.oneCell' = true) (hbytes : (n + m) * bytes ≤ 140737488355328)
    (h : ∀ v' w', St w0 w' (q :: ⟨v', e, size, n + m, xs ++ news⟩ :: R) Qs → (v' = .slice none 0 0 ↔ v = .slice none 0 0 ∧ m = 0) → K (a.put o.dst v') w') :
    if Region.wanted o (yielded ops a.tmps) = true then Oper.wp P o a w K Q else E :=
  step_app hgd s x t ho El hst.swap hs hx h1 hbytes fun v' w' h1 h2 => h v' w' h1.swap h2

/-- make([]T, n), n a variable: the run. -/
theorem run_make_n {P : Program} {t e : TypeId} {size bytes : Nat} (E : El P t e size bytes) (n : Nat) (hb : bytes * n ≤ 281474976710656) :
    ∃ z : Value, z.cells.size = size ∧ ∀ w : World, (Instr.makeSlice t (.int .i64 (n : Int)) (.int .i64 (n : Int))).run P w = .ok (.slice (some ⟨w.heap.size, 0, none⟩) n n) (w.alloc (.cells (madeCells z.cells (n * size)) e)) := by
  obtain ⟨i, z, h2, h3, h4, h5, h6⟩ := E.hi
  refine ⟨z, h6, fun w => ?_⟩
  have hn : n ≤ bytes * n := Nat.le_mul_of_pos_left n E.hb
  have := run_make (P := P) w t e i z E.ht h2 h3 .i64 .i64 (n : Int) (n : Int) (by omega) (by omega) (by rw [h5]; have : ((bytes * n : Nat) : Int) = (bytes : Int) * (n : Int) := Int.natCast_mul _ _; omega) (by omega)
  rw [this, h4, Int.toNat_natCast]

/-- x[lo:hi] as a run, the cut under a name. -/
theorem Sl.cutRun {P : Program} {t e : TypeId} {size bytes : Nat} (E : El P t e size bytes) {w : World} {v : Value} {n : Nat} {xs : List Value} (h : Sl w size v n xs) (lo hi : Option Value) (l r : Nat)
    (hl : (lo = none ∧ l = 0) ∨ ∃ k, lo = some (.int k (l : Int))) (hr : (hi = none ∧ r = n) ∨ ∃ k, hi = some (.int k (r : Int))) (hlr : l ≤ r) (hrn : r ≤ n) :
    ∃ v', (∀ w', (Instr.sliceAt t v lo hi none).run P w' = .ok v' w') ∧ ∀ w', Sl w' size v n xs → Sl w' size v' (r - l) ((xs.take (r * size)).drop (l * size)) := by
  obtain ⟨ao, cap, rfl, h1, _⟩ := h
  exact ⟨_, fun w' => run_slice_sl E h1 lo hi l r hl hr hlr hrn, fun w' h' => h'.cut hlr hrn⟩

/-- A row made with room and no elements. -/
theorem St.madeC {w0 w : World} {R : List Row} {Q : List Rd} (h : St w0 w R Q) (cells : Array Value) (e : TypeId) (size c : Nat) (hn : cells.size = c * size) (hm : c ≤ maxLen) :
    St w0 (w.alloc (.cells cells e)) (⟨.slice (some ⟨w.heap.size, 0, none⟩) 0 c, e, size, 0, []⟩ :: R) Q := by
  refine h.call1 ⟨(Below.refl _ _).alloc (Nat.le_refl _) _, fun r hr => ?_, by simp, by simp, by simp⟩
  obtain rfl := List.mem_singleton.1 hr
  exact ⟨by simp, .inr ⟨w.heap.size, c, cells, (0, 0), rfl, Nat.le_refl _, heap_alloc_new w _, by simp, Nat.zero_le _, hm, hn, by simp⟩⟩

/-- make([]T, 0, c). -/
theorem wpl_make0 {P : Program} {w0 w : World} {R : List Row} {Qs : List Rd} {ops : Array Oper} {rest : List Oper} {o : Oper} {a : Act} {Q : Exit → Act → World → Prop} (hgd : o.guard = none) (t : TypeId) (x y : Operand) (ho : o.op = .makeSlice t x y)
    {e : TypeId} {size bytes : Nat} (E : El P t e size bytes) (hst : St w0 w R Qs) {k k' : IntKind} (c : Nat) (hx : a.eval x = .int k 0) (hy : a.eval y = .int k' (c : Int)) (hb : bytes * c ≤ 140737488355328)
    (h : ∀ v' w', St w0 w' (⟨v', e, size, 0, []⟩ :: R) Qs → v' ≠ .slice none 0 0 → wpList P ops Q rest (a.put o.dst v') w') : wpList P ops Q (o :: rest) a w := by
  refine wpList_plain hgd fun K hK => ?_
  obtain ⟨i, z, h2, h3, h4, h5, h6⟩ := E.hi
  have hn : c ≤ bytes * c := Nat.le_mul_of_pos_left c E.hb
  have hr := run_make (P := P) w t e i z E.ht h2 h3 k k' 0 (c : Int) (by omega) (by omega) (by rw [h5]; have : ((bytes * c : Nat) : Int) = (bytes : Int) * (c : Int) := Int.natCast_mul _ _; omega) (by omega)
  rw [h4, Int.toNat_natCast] at hr
  unfold Oper.wp execOp
  simp only [ho, hx, hy, Sem.run_bind, hr, Result.andThen_ok, Sem.run_pure]
  exact hK _ _ (h _ _ (hst.madeC _ e size c (size_madeCells _ _) (by unfold maxLen; omega)) (by simp))

/-- The rows in another order. -/
theorem St.perm {w0 w : World} {R R' : List Row} {Q : List Rd} (h : St w0 w R Q) (p : R.Perm R') : St w0 w R' Q where
  below := h.below
  own r hr := h.own r (p.mem_iff.2 hr)
  sep := (p.pairwise_iff (fun hrs b hb hs => hrs b hs hb)).1 h.sep
  rd := h.rd
  apart q hq r hr := h.apart q hq r (p.mem_iff.2 hr)
theorem perm4a {α : Type} (t x a i : α) : [t, x, a, i].Perm [x, a, t, i] := (List.perm_append_comm (l₁ := [t]) (l₂ := [x, a])).append_right [i]
theorem perm4b {α : Type} (t i x a : α) : [t, i, x, a].Perm [x, a, t, i] := List.perm_append_comm (l₁ := [t, i]) (l₂ := [x, a])
theorem perm4c {α : Type} (t x a i : α) : [t, x, a, i].Perm [t, i, x, a] := (List.perm_append_comm (l₁ := [x, a]) (l₂ := [i])).cons t
theorem St.pick2 {w0 w : World} {t x a i : Row} {Q : List Rd} (h : St w0 w [x, a, t, i] Q) : St w0 w [a, i] Q :=
  h.sub (List.Sublist.cons _ (List.Sublist.cons_cons _ (List.Sublist.cons _ (List.Sublist.refl _)))) fun _ h => h
theorem St.pick2' {w0 w : World} {t x a i : Row} {Q : List Rd} (h : St w0 w [t, i, x, a] Q) : St w0 w [a, i] Q := (h.perm (perm4b t i x a)).pick2

/-- make([]T, n), the cells under a name. -/
theorem run_make_c {P : Program} {t e : TypeId} {size bytes : Nat} (E : El P t e size bytes) (n : Nat) (hb : bytes * n ≤ 281474976710656) :
    ∃ C : Array Value, C.size = n * size ∧ ∀ w : World, (Instr.makeSlice t (.int .i64 (n : Int)) (.int .i64 (n : Int))).run P w = .ok (.slice (some ⟨w.heap.size, 0, none⟩) n n) (w.alloc (.cells C e)) := by
  obtain ⟨z, _, h⟩ := run_make_n (P := P) E n hb
  exact ⟨_, size_madeCells _ _, h⟩

theorem heap_size_alloc (w : World) (o : Obj) : (w.alloc o).heap.size = w.heap.size + 1 := Array.size_push _

/-- A row made, its block's number as the walk spells it. -/
theorem St.madeAt {w0 w : World} {R : List Row} {Q : List Rd} (h : St w0 w R Q) (cells : Array Value) (e : TypeId) (size n g : Nat) (hn : cells.size = n * size) (hm : n ≤ maxLen) (hg : g = w.heap.size) :
    St w0 (w.alloc (.cells cells e)) (⟨.slice (some ⟨g, 0, none⟩) n n, e, size, n, cells.toList⟩ :: R) Q := by
  subst hg; exact h.made cells e size n hn hm
end Go.Mx

namespace Go.Proofs.YtlfdnlomlbbicaaGreatDoor
open Go.RowKit Go.Mx

theorem Tryz.elU8 : El Tryz.prog 25 5 1 1 := El.mk' Tryz.underlying25 (z := .int .u8 0) (by kernel_rfl) rfl (by omega)

theorem Tryz.elStr : El Tryz.prog 37 9 1 16 := El.mk' Tryz.underlying37 (z := .string ByteArray.empty) (by kernel_rfl) rfl (by omega)

theorem Tryz.elInt : El Tryz.prog 54 3 1 8 := El.mk' Tryz.underlying54 (z := .int .i64 0) (by kernel_rfl) rfl (by omega)
theorem Tryz.elBs : El Tryz.prog 22 25 1 24 := El.mk' Tryz.underlying22 (z := .slice none 0 0) (by kernel_rfl) rfl (by omega)

theorem u8_nat {m : Nat} (h : m < 256) : ((UInt8.ofNat m).toNat : Int) = m := by
  rw [UInt8.toNat_ofNat']; omega

/-- Cells that were read before are read behind. -/
theorem keepC {w0 w : World} {R : List Row} {Q : List Rd} (h : St w0 w R Q) {n : Nat} {p : Prop} {blk off : Nat} {f : (k : Nat) → k < n → Value} (C : Hid (∀ k (hk : k < n), p ∧ w0.cell? ⟨blk, off + k, none⟩ = some (f k hk))) :
    Hid (∀ k (hk : k < n), p ∧ w.cell? ⟨blk, off + k, none⟩ = some (f k hk)) := fun k hk => ⟨(C.out k hk).1, h.keep (C.out k hk).2⟩

theorem tx_beq {x y : ByteArray} (h : x = y) : (x.toList == y.toList) = true := by simp [h]
theorem tx_bne {x y : ByteArray} (h : x ≠ y) : (x.toList == y.toList) = false := by
  simp only [beq_eq_false_iff_ne, ne_eq]
  exact fun h' => h (toL_inj h')

theorem tx_ite (x y : ByteArray) : (if (x.toList == y.toList) = true then 1 else 0) = if x = y then 1 else 0 := by
  by_cases h : x = y
  · rw [tx_beq h, if_pos h]; rfl
  · rw [tx_bne h, if_neg h]; rfl

theorem copyBytes_any (v : Value) (l : List UInt8) (w : World) (hv : Sl w 1 v l.length (bs l)) (hl : l.length ≤ 140737488355328) :
    Calls Tryz.prog 7 #[v] w fun e w' => ∃ v', e = .returned v' ∧ St w w' [⟨v', 5, 1, l.length, bs l⟩] [] := by
  have hs := (St.refl w).made #[] 5 1 0 rfl (by simp)
  go_enter Tryz.func7, Tryz.ntmps7
  go_wp2_with (at_builtin; refine wpl_app rfl _ _ 25 rfl Tryz.elU8 hs rfl (by exact hs.old hv) (bs_one _) (by omega) ?_; intro v1 w1 hs1 _)
  go_ret
  exact ⟨_, rfl, hs1.cast (by simp) (by simp)⟩

theorem bytes_any (v v' : Value) (l l' : List UInt8) (w : World) (hv : Sl w 1 v l.length (bs l)) (hv' : Sl w 1 v' l'.length (bs l')) :
    Calls Tryz.prog 10 #[v, v'] w fun e w' => e = .returned (.bool (decide (l = l'))) ∧ w = w' := by
  go_enter Tryz.func10, Tryz.ntmps10
  go_wp2_with (first | ((with_reducible show wpList _ _ _ _ _ _); refine wpl_b2s rfl 25 9 5 _ rfl Tryz.underlying25 Tryz.underlying5 Tryz.underlying9 (by exact hv) ?_) | ((with_reducible show wpList _ _ _ _ _ _); refine wpl_b2s rfl 25 9 5 _ rfl Tryz.underlying25 Tryz.underlying5 Tryz.underlying9 (by exact hv') ?_))
  go_ret
  exact ⟨by rw [← str_beq]; rfl, rfl⟩

end Go.Proofs.YtlfdnlomlbbicaaGreatDoor

namespace Go.Mx
open Go Go.RowKit

/-- The slices vs, each for itself, as what is read. -/
def rds (vs : List Value) (ls : List (List UInt8)) : List Rd := List.zipWith (fun v l => ⟨v, 1, l.length, bs l⟩) vs ls
theorem rds_snoc (vs : List Value) (ls : List (List UInt8)) (v : Value) (l : List UInt8) (h : vs.length = ls.length) : rds (vs ++ [v]) (ls ++ [l]) = rds vs ls ++ [⟨v, 1, l.length, bs l⟩] := by
  unfold rds
  rw [List.zipWith_append h]
  rfl

/-- v reads as the list ls of lists of bytes. -/
def LL (w : World) (v : Value) (ls : List (List UInt8)) : Prop :=
  ∃ vs : List Value, vs.length = ls.length ∧ Sl w 1 v ls.length vs ∧ ∀ q ∈ rds vs ls, Sl w q.size q.v q.n q.xs

theorem LL.old {w0 w : World} {R : List Row} {Q : List Rd} {v : Value} {ls : List (List UInt8)} (h : St w0 w R Q) (hl : LL w0 v ls) : LL w v ls := by
  obtain ⟨vs, h1, h2, h3⟩ := hl
  exact ⟨vs, h1, h.old h2, fun q hq => h.old (h3 q hq)⟩
theorem LL.ofSt {w0 w : World} {v : Value} {e : TypeId} {vs : List Value} {ls : List (List UInt8)} (h : St w0 w [⟨v, e, 1, ls.length, vs⟩] (rds vs ls)) (hl : vs.length = ls.length) : LL w v ls :=
  ⟨vs, hl, h.sl0, fun q hq => h.rd q hq⟩
theorem LL.nil (w : World) : LL w (.slice none 0 0) [] := ⟨[], rfl, Sl.nil w 1, by simp [rds]⟩

theorem LL.at {w : World} {v : Value} {ls : List (List UInt8)} (h : LL w v ls) : ∃ ao cap blk off, ∃ us : Nat → Value, v = .slice ao ls.length cap ∧ ls.length ≤ cap ∧ cap ≤ 9223372036854775807 ∧
    (∀ k, k < ls.length → ao = some ⟨blk, off, none⟩ ∧ w.cell? ⟨blk, off + k, none⟩ = some (us k)) ∧ ∀ k (hk : k < ls.length), Sl w 1 (us k) ls[k].length (bs ls[k]) := by
  obtain ⟨vs, h1, h2, h3⟩ := h
  obtain ⟨ao, cap, rfl, g1, g2, g3, _, g4⟩ := h2.form
  unfold maxLen at g2
  have hq : ∀ k (hk : k < ls.length), Sl w 1 (vs.getD k (.bool false)) ls[k].length (bs ls[k]) := fun k hk => by
    have : (⟨vs[k]'(by omega), 1, ls[k].length, bs ls[k]⟩ : Rd) ∈ rds vs ls := by
      unfold rds
      rw [List.mem_iff_getElem]
      exact ⟨k, by simp; omega, by simp⟩
    have := h3 _ this
    simpa [List.getD_eq_getElem?_getD, List.getElem?_eq_getElem (show k < vs.length by omega)] using this
  by_cases hnil : ls = []
  · subst hnil; exact ⟨ao, cap, 0, 0, _, rfl, g1, by omega, fun k hk => by simp at hk, hq⟩
  · have hne : vs ≠ [] := by rintro rfl; simp at h1; exact hnil (List.eq_nil_of_length_eq_zero h1.symm)
    obtain ⟨b, off, rfl, hc⟩ := g4 hne
    exact ⟨_, cap, b, off, _, rfl, g1, by omega, fun k hk => ⟨rfl, hc k _ (by simp [List.getD_eq_getElem?_getD, List.getElem?_eq_getElem (show k < vs.length by omega)])⟩, hq⟩

theorem Sl.cutB {w : World} {v : Value} {b : List UInt8} {l r : Nat} (h : Sl w 1 v (r - l) (((bs b).take (r * 1)).drop (l * 1))) (hr : r ≤ b.length) (hl : l ≤ r) : Sl w 1 v ((b.take r).drop l).length (bs ((b.take r).drop l)) := by
  rw [bs_cut] at h
  rwa [show ((b.take r).drop l).length = r - l by rw [List.length_drop, List.length_take]; omega]
theorem Sl.cutS {w : World} {v : Value} {b : List ByteArray} {l r : Nat} (h : Sl w 1 v (r - l) (((ss b).take (r * 1)).drop (l * 1))) (hr : r ≤ b.length) (hl : l ≤ r) : Sl w 1 v ((b.take r).drop l).length (ss ((b.take r).drop l)) := by
  rw [ss_cut] at h
  rwa [show ((b.take r).drop l).length = r - l by rw [List.length_drop, List.length_take]; omega]

/-- One list more. -/
theorem St.pushL {w0 w : World} {v c : Value} {e : TypeId} {vs : List Value} {ls : List (List UInt8)} {l : List UInt8} (h : St w0 w [⟨v, e, 1, ls.length + 1, vs ++ [c]⟩] (⟨c, 1, l.length, bs l⟩ :: rds vs ls)) (hl : vs.length = ls.length) :
    St w0 w [⟨v, e, 1, (ls ++ [l]).length, vs ++ [c]⟩] (rds (vs ++ [c]) (ls ++ [l])) ∧ (vs ++ [c]).length = (ls ++ [l]).length := by
  refine ⟨(h.cast (by simp) rfl).sub (List.Sublist.refl _) fun q hq => ?_, by simp [hl]⟩
  rw [rds_snoc _ _ _ _ hl] at hq
  rcases List.mem_append.1 hq with hq | hq
  · exact List.mem_cons_of_mem _ hq
  · simp at hq; subst hq; exact List.mem_cons_self ..
end Go.Mx
