/- Laws for regions that draw their order and make memory. The order of byte strings: plain facts. Walks of the small functions that many statements use: bytes and texts held against one another, copies. The hash of bytes, in plain Lean. -/
import Derived.Test.YtloogjdafhjheaaGreatLib2
import Derived.Deep.RegionHeld3
import Derived.Deep.QuietTactic
import Derived.BigQuiet
import Derived.StillTailTactics
import Derived.WalkLawsBesides
import Derived.Test.YtloogjdafhjheaaGreatRows
namespace Go.Mx
open Go Go.RowKit

/-- append to the head row, as one step of a region that draws. -/
theorem step_app {P : Program} {w0 w : World} {R : List Row} {Qs : List Rd} {ops : Array Oper} {o : Oper} {a : Act} {K : Act → World → Prop} {Q : Exit → Act → World → Prop} {E : Prop} (hgd : o.guard = none) (s x : Operand) (t : TypeId)
    (ho : o.op = .call { callee := .builtin .append, args := #[s, x], argTypes := #[t, t] })
    {v : Value} {e : TypeId} {size bytes n : Nat} (El : El P t e size bytes) {xs : List Value} (hst : St w0 w (⟨v, e, size, n, xs⟩ :: R) Qs) (hs : a.eval s = v)
    {m : Nat} {news : List Value} (hx : Sl w size (a.eval x) m news) (h1 : ∀ u ∈ news, u.oneCell' = true) (hbytes : (n + m) * bytes ≤ 140737488355328)
    (h : ∀ v' w', St w0 w' (⟨v', e, size, n + m, xs ++ news⟩ :: R) Qs → (v' = .slice none 0 0 ↔ v = .slice none 0 0 ∧ m = 0) → K (a.put o.dst v') w') :
    if Region.wanted o (yielded ops a.tmps) = true then Oper.wp P o a w K Q else E := by
  have hw : Region.wanted o (yielded ops a.tmps) = true := by simp [Region.wanted, hgd]
  rw [if_pos hw]
  obtain ⟨i, z, h2, h3, h4, h5, h6⟩ := El.hi
  have hl : news.length = m * size := hx.len
  obtain ⟨v', w', hr, g2, g3, g4, g5⟩ := run_append_src (P := P) w0.heap.size t t o.type e i z size bytes El.ht (.slice e) El.ht (.inr ⟨_, rfl⟩) h2 h3 h4 h5 h6 v n xs (hst.own _ (List.mem_cons_self ..)) (a.eval x) m news hl (lenOf_sl hx) (firstCells_sl hx) h1 (len_of_bytes El.hb hbytes) hbytes hst.size
  unfold Oper.wp execOp
  simp only [ho, resolve, invoke, builtin, Sem.run_bind, Sem.run_pure, Result.andThen_ok, List.map_toArray, List.map_cons, List.map_nil, hs, hr]
  exact h v' w' (hst.turn g2 g3 g4) g5

/-- The same to the second row. -/
theorem step_app1 {P : Program} {w0 w : World} {R : List Row} {Qs : List Rd} {ops : Array Oper} {o : Oper} {a : Act} {K : Act → World → Prop} {Q : Exit → Act → World → Prop} {E : Prop} (hgd : o.guard = none) (s x : Operand) (t : TypeId)
    (ho : o.op = .call { callee := .builtin .append, args := #[s, x], argTypes := #[t, t] })
    {q : Row} {v : Value} {e : TypeId} {size bytes n : Nat} (El : El P t e size bytes) {xs : List Value} (hst : St w0 w (q :: ⟨v, e, size, n, xs⟩ :: R) Qs) (hs : a.eval s = v)
    {m : Nat} {news : List Value} (hx : Sl w size (a.eval x) m news) (h1 : ∀ u ∈ news, u.oneCell' = true) (hbytes : (n + m) * bytes ≤ 140737488355328)
    (h : ∀ v' w', St w0 w' (q :: ⟨v', e, size, n + m, xs ++ news⟩ :: R) Qs → (v' = .slice none 0 0 ↔ v = .slice none 0 0 ∧ m = 0) → K (a.put o.dst v') w') :
    if Region.wanted o (yielded ops a.tmps) = true then Oper.wp P o a w K Q else E :=
  step_app hgd s x t ho El hst.swap hs hx h1 hbytes fun v' w' h1 h2 => h v' w' h1.swap h2

/-- make([]T, n), n a variable: the run. -/
theorem run_make_n {P : Program} {t e : TypeId} {size bytes : Nat} (E : El P t e size bytes) (n : Nat) (hb : bytes * n ≤ 281474976710656) :
    ∃ z : Value, z.cells.size = size ∧ ∀ w : World, (Instr.makeSlice t (.int .i64 (n : Int)) (.int .i64 (n : Int))).run P w = .ok (.slice (some ⟨w.heap.size, 0, none⟩) n n) (w.alloc (.cells (madeCells z.cells (n * size)) e)) := by
  obtain ⟨i, z, h2, h3, h4, h5, h6⟩ := E.hi
  refine ⟨z, h6, fun w => ?_⟩
  have hn : n ≤ bytes * n := Nat.le_mul_of_pos_left n E.hb
  have := run_make (P := P) w t e i z E.ht h2 h3 .i64 .i64 (n : Int) (n : Int) (by omega) (by omega) (by rw [h5]; have : ((bytes * n : Nat) : Int) = (bytes : Int) * (n : Int) := Int.natCast_mul _ _; omega) (by omega)
  rw [this, h4, Int.toNat_natCast]

/-- x[lo:hi] as a run, the cut under a name. -/
theorem Sl.cutRun {P : Program} {t e : TypeId} {size bytes : Nat} (E : El P t e size bytes) {w : World} {v : Value} {n : Nat} {xs : List Value} (h : Sl w size v n xs) (lo hi : Option Value) (l r : Nat)
    (hl : (lo = none ∧ l = 0) ∨ ∃ k, lo = some (.int k (l : Int))) (hr : (hi = none ∧ r = n) ∨ ∃ k, hi = some (.int k (r : Int))) (hlr : l ≤ r) (hrn : r ≤ n) :
    ∃ v', (∀ w', (Instr.sliceAt t v lo hi none).run P w' = .ok v' w') ∧ ∀ w', Sl w' size v n xs → Sl w' size v' (r - l) ((xs.take (r * size)).drop (l * size)) := by
  obtain ⟨ao, cap, rfl, h1, _⟩ := h
  exact ⟨_, fun w' => run_slice_sl E h1 lo hi l r hl hr hlr hrn, fun w' h' => h'.cut hlr hrn⟩

/-- A row made with room and no elements. -/
theorem St.madeC {w0 w : World} {R : List Row} {Q : List Rd} (h : St w0 w R Q) (cells : Array Value) (e : TypeId) (size c : Nat) (hn : cells.size = c * size) (hm : c ≤ maxLen) :
    St w0 (w.alloc (.cells cells e)) (⟨.slice (some ⟨w.heap.size, 0, none⟩) 0 c, e, size, 0, []⟩ :: R) Q := by
  refine h.call1 ⟨(Below.refl _ _).alloc (Nat.le_refl _) _, fun r hr => ?_, by simp, by simp, by simp⟩
  obtain rfl := List.mem_singleton.1 hr
  exact ⟨by simp, .inr ⟨w.heap.size, c, cells, (0, 0), rfl, Nat.le_refl _, heap_alloc_new w _, by simp, Nat.zero_le _, hm, hn, by simp⟩⟩

/-- make([]T, 0, c). -/
theorem wpl_make0 {P : Program} {w0 w : World} {R : List Row} {Qs : List Rd} {ops : Array Oper} {rest : List Oper} {o : Oper} {a : Act} {Q : Exit → Act → World → Prop} (hgd : o.guard = none) (t : TypeId) (x y : Operand) (ho : o.op = .makeSlice t x y)
    {e : TypeId} {size bytes : Nat} (E : El P t e size bytes) (hst : St w0 w R Qs) {k k' : IntKind} (c : Nat) (hx : a.eval x = .int k 0) (hy : a.eval y = .int k' (c : Int)) (hb : bytes * c ≤ 140737488355328)
    (h : ∀ v' w', St w0 w' (⟨v', e, size, 0, []⟩ :: R) Qs → v' ≠ .slice none 0 0 → wpList P ops Q rest (a.put o.dst v') w') : wpList P ops Q (o :: rest) a w := by
  refine wpList_plain hgd fun K hK => ?_
  obtain ⟨i, z, h2, h3, h4, h5, h6⟩ := E.hi
  have hn : c ≤ bytes * c := Nat.le_mul_of_pos_left c E.hb
  have hr := run_make (P := P) w t e i z E.ht h2 h3 k k' 0 (c : Int) (by omega) (by omega) (by rw [h5]; have : ((bytes * c : Nat) : Int) = (bytes : Int) * (c : Int) := Int.natCast_mul _ _; omega) (by omega)
  rw [h4, Int.toNat_natCast] at hr
  unfold Oper.wp execOp
  simp only [ho, hx, hy, Sem.run_bind, hr, Result.andThen_ok, Sem.run_pure]
  exact hK _ _ (h _ _ (hst.madeC _ e size c (size_madeCells _ _) (by unfold maxLen; omega)) (by simp))

/-- The rows in another order. -/
theorem St.perm {w0 w : World} {R R' : List Row} {Q : List Rd} (h : St w0 w R Q) (p : R.Perm R') : St w0 w R' Q where
  below := h.below
  own r hr := h.own r (p.mem_iff.2 hr)
  sep := (p.pairwise_iff (fun hrs b hb hs => hrs b hs hb)).1 h.sep
  rd := h.rd
  apart q hq r hr := h.apart q hq r (p.mem_iff.2 hr)
theorem perm4a {α : Type} (t x a i : α) : [t, x, a, i].Perm [x, a, t, i] := (List.perm_append_comm (l₁ := [t]) (l₂ := [x, a])).append_right [i]
theorem perm4b {α : Type} (t i x a : α) : [t, i, x, a].Perm [x, a, t, i] := List.perm_append_comm (l₁ := [t, i]) (l₂ := [x, a])
theorem perm4c {α : Type} (t x a i : α) : [t, x, a, i].Perm [t, i, x, a] := (List.perm_append_comm (l₁ := [x, a]) (l₂ := [i])).cons t
theorem St.pick2 {w0 w : World} {t x a i : Row} {Q : List Rd} (h : St w0 w [x, a, t, i] Q) : St w0 w [a, i] Q :=
  h.sub (List.Sublist.cons _ (List.Sublist.cons_cons _ (List.Sublist.cons _ (List.Sublist.refl _)))) fun _ h => h
theorem St.pick2' {w0 w : World} {t x a i : Row} {Q : List Rd} (h : St w0 w [t, i, x, a] Q) : St w0 w [a, i] Q := (h.perm (perm4b t i x a)).pick2

/-- make([]T, n), the cells under a name. -/
theorem run_make_c {P : Program} {t e : TypeId} {size bytes : Nat} (E : El P t e size bytes) (n : Nat) (hb : bytes * n ≤ 281474976710656) :
    ∃ C : Array Value, C.size = n * size ∧ ∀ w : World, (Instr.makeSlice t (.int .i64 (n : Int)) (.int .i64 (n : Int))).run P w = .ok (.slice (some ⟨w.heap.size, 0, none⟩) n n) (w.alloc (.cells C e)) := by
  obtain ⟨z, _, h⟩ := run_make_n (P := P) E n hb
  exact ⟨_, size_madeCells _ _, h⟩

theorem heap_size_alloc (w : World) (o : Obj) : (w.alloc o).heap.size = w.heap.size + 1 := Array.size_push _

/-- A row made, its block's number as the walk spells it. -/
theorem St.madeAt {w0 w : World} {R : List Row} {Q : List Rd} (h : St w0 w R Q) (cells : Array Value) (e : TypeId) (size n g : Nat) (hn : cells.size = n * size) (hm : n ≤ maxLen) (hg : g = w.heap.size) :
    St w0 (w.alloc (.cells cells e)) (⟨.slice (some ⟨g, 0, none⟩) n n, e, size, n, cells.toList⟩ :: R) Q := by
  subst hg; exact h.made cells e size n hn hm
end Go.Mx

namespace Go.Mx
open Go

theorem toL_inj {s t : ByteArray} (h : s.toList = t.toList) : s = t := by
  rw [ByteArray.toList_eq, ByteArray.toList_eq] at h
  rw [← str_toList s, ← str_toList t, h]
theorem bl_irrefl (x : List UInt8) : Op.bytesLess x x = false := by
  induction x with
  | nil => rfl
  | cons a x ih => simp [Op.bytesLess, ih, UInt8.lt_irrefl]
theorem bl_asymm : ∀ (x y : List UInt8), Op.bytesLess x y = true → Op.bytesLess y x = false
  | [], [], h => by simp [Op.bytesLess] at h
  | [], _ :: _, _ => rfl
  | _ :: _, [], h => by simp [Op.bytesLess] at h
  | a :: x, b :: y, h => by
    simp only [Op.bytesLess, Bool.or_eq_true, Bool.and_eq_true, decide_eq_true_eq, beq_iff_eq] at h
    simp only [Op.bytesLess]
    rcases h with h | ⟨rfl, h⟩
    · have h1 : ¬ b < a := fun h' => UInt8.lt_irrefl _ (UInt8.lt_trans h h')
      have h2 : b ≠ a := by rintro rfl; exact UInt8.lt_irrefl _ h
      simp [h1, h2]
    · rw [bl_asymm x y h]; simp [UInt8.lt_irrefl]
theorem bl_total : ∀ (x y : List UInt8), Op.bytesLess x y = false → Op.bytesLess y x = false → x = y
  | [], [], _, _ => rfl
  | [], _ :: _, h, _ => by simp [Op.bytesLess] at h
  | _ :: _, [], _, h => by simp [Op.bytesLess] at h
  | a :: x, b :: y, h, h' => by
    simp only [Op.bytesLess, Bool.or_eq_false_iff, Bool.and_eq_false_iff, decide_eq_false_iff_not] at h h'
    have e : a = b := UInt8.le_antisymm (UInt8.not_lt.1 h'.1) (UInt8.not_lt.1 h.1)
    subst e
    have e2 := bl_total x y (by simpa using h.2) (by simpa using h'.2)
    rw [e2]
theorem bl_trans : ∀ (x y z : List UInt8), Op.bytesLess x y = true → Op.bytesLess y z = true → Op.bytesLess x z = true
  | _, _, [], _, h => by cases ‹List UInt8› <;> simp [Op.bytesLess] at h
  | _, [], _ :: _, h, _ => by cases ‹List UInt8› <;> simp [Op.bytesLess] at h
  | [], _ :: _, _ :: _, _, _ => rfl
  | a :: x, b :: y, c :: z, h, h' => by
    simp only [Op.bytesLess, Bool.or_eq_true, Bool.and_eq_true, decide_eq_true_eq, beq_iff_eq] at h h' ⊢
    rcases h with h | ⟨rfl, h⟩
    · rcases h' with h' | ⟨rfl, h'⟩
      · exact .inl (UInt8.lt_trans h h')
      · exact .inl h
    · rcases h' with h' | ⟨rfl, h'⟩
      · exact .inl h'
      · exact .inr ⟨rfl, bl_trans x y z h h'⟩

/-- What Compare tells. -/
def cmpL (x y : List UInt8) : Int := if Op.bytesLess x y then -1 else if x = y then 0 else 1
theorem cmpL_neg (x y : List UInt8) : cmpL y x = - cmpL x y := by
  unfold cmpL
  by_cases h : Op.bytesLess x y = true
  · rw [if_pos h, bl_asymm x y h, if_neg (by simp), if_neg (by rintro rfl; rw [bl_irrefl] at h; cases h)]; rfl
  · have h : Op.bytesLess x y = false := by simpa using h
    by_cases h' : Op.bytesLess y x = true
    · rw [h, if_pos h', if_neg (by simp), if_neg (by rintro rfl; rw [bl_irrefl] at h'; cases h')]
    · have h' : Op.bytesLess y x = false := by simpa using h'
      have := bl_total x y h h'
      subst this
      simp [bl_irrefl]
theorem cmpL_range (x y : List UInt8) : cmpL x y = -1 ∨ cmpL x y = 0 ∨ cmpL x y = 1 := by unfold cmpL; split <;> (try split) <;> simp
end Go.Mx

namespace Go.Proofs.YtloogjdafhjheaaGreat
open Go.RowKit Go.Mx

theorem Tryz.elU8 : El Tryz.prog 51 5 1 1 := El.mk' Tryz.underlying51 (z := .int .u8 0) (by kernel_rfl) rfl (by omega)

theorem Tryz.elStr : El Tryz.prog 23 9 1 16 := El.mk' Tryz.underlying23 (z := .string ByteArray.empty) (by kernel_rfl) rfl (by omega)

theorem Tryz.elInt : El Tryz.prog 43 3 1 8 := El.mk' Tryz.underlying43 (z := .int .i64 0) (by kernel_rfl) rfl (by omega)
theorem Tryz.elBs : El Tryz.prog 22 51 1 24 := El.mk' Tryz.underlying22 (z := .slice none 0 0) (by kernel_rfl) rfl (by omega)

theorem u8_nat {m : Nat} (h : m < 256) : ((UInt8.ofNat m).toNat : Int) = m := by
  rw [UInt8.toNat_ofNat']; omega

/-- Cells that were read before are read behind. -/
theorem keepC {w0 w : World} {R : List Row} {Q : List Rd} (h : St w0 w R Q) {n : Nat} {p : Prop} {blk off : Nat} {f : (k : Nat) → k < n → Value} (C : Hid (∀ k (hk : k < n), p ∧ w0.cell? ⟨blk, off + k, none⟩ = some (f k hk))) :
    Hid (∀ k (hk : k < n), p ∧ w.cell? ⟨blk, off + k, none⟩ = some (f k hk)) := fun k hk => ⟨(C.out k hk).1, h.keep (C.out k hk).2⟩

theorem tx_beq {x y : ByteArray} (h : x = y) : (x.toList == y.toList) = true := by simp [h]
theorem tx_bne {x y : ByteArray} (h : x ≠ y) : (x.toList == y.toList) = false := by
  simp only [beq_eq_false_iff_ne, ne_eq]
  exact fun h' => h (toL_inj h')

theorem tx_ite (x y : ByteArray) : (if (x.toList == y.toList) = true then 1 else 0) = if x = y then 1 else 0 := by
  by_cases h : x = y
  · rw [tx_beq h, if_pos h]; rfl
  · rw [tx_bne h, if_neg h]; rfl

theorem copyBytes_any (v : Value) (l : List UInt8) (w : World) (hv : Sl w 1 v l.length (bs l)) (hl : l.length ≤ 140737488355328) :
    Calls Tryz.prog 22 #[v] w fun e w' => ∃ v', e = .returned v' ∧ St w w' [⟨v', 5, 1, l.length, bs l⟩] [] := by
  have hs := (St.refl w).made #[] 5 1 0 rfl (by simp)
  go_enter Tryz.func22, Tryz.ntmps22
  go_wp2_with (at_builtin; refine wpl_app rfl _ _ 51 rfl Tryz.elU8 hs rfl (by exact hs.old hv) (bs_one _) (by omega) ?_; intro v1 w1 hs1 _)
  go_ret
  exact ⟨_, rfl, hs1.cast (by simp) (by simp)⟩

theorem bytes_any (v v' : Value) (l l' : List UInt8) (w : World) (hv : Sl w 1 v l.length (bs l)) (hv' : Sl w 1 v' l'.length (bs l')) :
    Calls Tryz.prog 55 #[v, v'] w fun e w' => e = .returned (.bool (decide (l = l'))) ∧ w = w' := by
  go_enter Tryz.func55, Tryz.ntmps55
  go_wp2_with (first | ((with_reducible show wpList _ _ _ _ _ _); refine wpl_b2s rfl 51 9 5 _ rfl Tryz.underlying51 Tryz.underlying5 Tryz.underlying9 (by exact hv) ?_) | ((with_reducible show wpList _ _ _ _ _ _); refine wpl_b2s rfl 51 9 5 _ rfl Tryz.underlying51 Tryz.underlying5 Tryz.underlying9 (by exact hv') ?_))
  go_ret
  exact ⟨by rw [← str_beq]; rfl, rfl⟩

theorem copyTexts_any (v : Value) (l : List ByteArray) (w : World) (hv : Sl w 1 v l.length (ss l)) (hl : l.length ≤ 8796093022208) :
    Calls Tryz.prog 38 #[v] w fun e w' => ∃ v', e = .returned v' ∧ St w w' [⟨v', 9, 1, l.length, ss l⟩] [] := by
  have hs := (St.refl w).made #[] 9 1 0 rfl (by simp)
  go_enter Tryz.func38, Tryz.ntmps38
  go_wp2_with (at_builtin; refine wpl_app rfl _ _ 23 rfl Tryz.elStr hs rfl (by exact hs.old hv) (ss_one _) (by omega) ?_; intro v1 w1 hs1 _)
  go_ret
  exact ⟨_, rfl, hs1.cast (by simp) (by simp)⟩

theorem texts_any (v v' : Value) (l l' : List ByteArray) (w : World) (hv : Sl w 1 v l.length (ss l)) (hv' : Sl w 1 v' l'.length (ss l')) :
    Calls Tryz.prog 15 #[v, v'] w fun e w' => e = .returned (.bool (decide (l = l'))) ∧ St w w' [] [] := by
  obtain ⟨ao, cap, blk, off, rfl, h1, h2, _, hc⟩ := hv.txt
  obtain ⟨ao', cap', blk', off', rfl, h1', h2', _, hc'⟩ := hv'.txt
  clear hv hv'
  have HC := hid hc
  have HC' := hid hc'
  clear hc hc'
  by_cases he : l.length = l'.length
  · have hb : ((l.length : Int) != (l'.length : Int)) = false := by simp [he]
    have He := hid he
    clear he
    go_enter Tryz.func15, Tryz.ntmps15
    go_wp2_with fail
    go_loopw [5] (fun x wr => ∃ i : Nat, i ≤ l.length ∧ x = .int .i64 i ∧ Hid (l.take i = l'.take i) ∧ St w wr [] []) (fun x _ => l.length - (intOf x).toNat)
    case atStart => exact ⟨0, by omega, rfl, by simp [Hid], St.refl w⟩
    case round =>
      obtain ⟨i, hi, rfl, Ht, hs⟩ := hrel
      by_cases hlt : i < l.length
      · have hlt' : i < l'.length := by have := He.out; omega
        obtain ⟨rfl, c1⟩ := HC.out i hlt
        obtain ⟨rfl, c2⟩ := HC'.out i hlt'
        have c1 := hs.keep c1
        have c2 := hs.keep c2
        have hii : (i : Int) < (l.length : Int) := by omega
        have hii' : (i : Int) < (l'.length : Int) := by omega
        by_cases hx : l[i] = l'[i]
        · have hb := tx_beq hx
          have Hx := hid hx
          clear hx
          go_wp2_with fail
          go_quiet (fail)
          go_wp2_with fail
          go_roundw
          case rel => exact ⟨i + 1, by omega, by go_num, by rw [List.take_succ_eq_append_getElem hlt, List.take_succ_eq_append_getElem hlt', Ht.out, Hx.out]; rfl, hs.drewN _⟩
          case measure => simp [intOf]; omega
        · have hb := tx_bne hx
          have Hx := hid hx
          clear hx
          go_wp2_with fail
          go_quiet (fail)
          go_wp2_with fail
          go_ret
          have hne : l ≠ l' := by intro h; subst h; exact Hx.out rfl
          exact ⟨by rw [decide_eq_false hne]; rfl, hs.drewN _⟩
      · go_wp2_with fail
        go_ret
        have heq : l = l' := by have h1 := Ht.out; rw [List.take_of_length_le (by omega), List.take_of_length_le (by have := He.out; omega)] at h1; exact h1
        exact ⟨by rw [decide_eq_true heq]; rfl, hs⟩
  · have hb : ((l.length : Int) != (l'.length : Int)) = true := by simp; omega
    have hne : l ≠ l' := by rintro rfl; exact he rfl
    have He := hid he
    have Hne := hid hne
    clear he hne
    go_enter Tryz.func15, Tryz.ntmps15
    go_wp2_with fail
    go_ret
    exact ⟨by rw [decide_eq_false Hne.out]; rfl, St.refl w⟩

theorem texts_same (v v' : Value) (l l' : List ByteArray) (w : World) (hv : Sl w 1 v l.length (ss l)) (hv' : Sl w 1 v' l'.length (ss l')) (h : Hid (l = l')) :
    Calls Tryz.prog 15 #[v, v'] w fun e w' => e = .returned (.bool true) ∧ St w w' [] [] :=
  (texts_any v v' l l' w hv hv').mono fun e w' he => by rw [decide_eq_true h.out] at he; exact he
end Go.Proofs.YtloogjdafhjheaaGreat

namespace Go.Mx
open Go Go.RowKit

abbrev U32 := BitVec 32
def rotr (x : U32) (n : Nat) : U32 := (x >>> n) ||| (x <<< (32 - n))
def sig0 (x : U32) : U32 := (rotr x 7 ^^^ rotr x 18) ^^^ (x >>> 3)
def sig1 (x : U32) : U32 := (rotr x 17 ^^^ rotr x 19) ^^^ (x >>> 10)
def by32 (x : UInt8) : U32 := BitVec.ofNat 32 x.toNat
/-- A word of a block. -/
def word (b : List UInt8) (i : Nat) : U32 :=
  (((by32 (b.getD (4 * i) 0) <<< 24) ||| (by32 (b.getD (4 * i + 1) 0) <<< 16)) ||| (by32 (b.getD (4 * i + 2) 0) <<< 8)) ||| by32 (b.getD (4 * i + 3) 0)
/-- The next word of the schedule. -/
def nextW (b : List UInt8) (l : List U32) (n : Nat) : U32 :=
  if n < 16 then word b n else ((l.getD (n - 16) 0 + sig0 (l.getD (n - 15) 0)) + l.getD (n - 7) 0) + sig1 (l.getD (n - 2) 0)
/-- The first n words of the schedule. -/
def sched (b : List UInt8) : Nat → List U32
  | 0 => []
  | n + 1 => sched b n ++ [nextW b (sched b n) n]
theorem sched_len (b : List UInt8) : ∀ n, (sched b n).length = n
  | 0 => rfl
  | n + 1 => by rw [sched, List.length_append, sched_len b n]; rfl

structure S8 where
  a : U32
  b : U32
  c : U32
  d : U32
  e : U32
  f : U32
  g : U32
  h : U32
deriving DecidableEq
def S8.lst (s : S8) : List U32 := [s.a, s.b, s.c, s.d, s.e, s.f, s.g, s.h]
theorem S8.lst_len (s : S8) : s.lst.length = 8 := rfl
def sg1 (e : U32) : U32 := (rotr e 6 ^^^ rotr e 11) ^^^ rotr e 25
def sg0 (a : U32) : U32 := (rotr a 2 ^^^ rotr a 13) ^^^ rotr a 22
def chf (e f g : U32) : U32 := (e &&& f) ^^^ (~~~e &&& g)
def majf (a b c : U32) : U32 := ((a &&& b) ^^^ (a &&& c)) ^^^ (b &&& c)
def tm1 (s : S8) (k w : U32) : U32 := (((s.h + sg1 s.e) + chf s.e s.f s.g) + k) + w
def rnd (s : S8) (k w : U32) : S8 := ⟨(tm1 s k w + sg0 s.a) + majf s.a s.b s.c, s.a, s.b, s.c, s.d + tm1 s k w, s.e, s.f, s.g⟩
def rnds (ks ws : List U32) (s : S8) : Nat → S8
  | 0 => s
  | n + 1 => rnd (rnds ks ws s n) (ks.getD n 0) (ws.getD n 0)
def S8.add (s t : S8) : S8 := ⟨s.a + t.a, s.b + t.b, s.c + t.c, s.d + t.d, s.e + t.e, s.f + t.f, s.g + t.g, s.h + t.h⟩

/-- The 64 numbers. -/
def K64 : List U32 := [
  0x428a2f98#32, 0x71374491#32, 0xb5c0fbcf#32, 0xe9b5dba5#32, 0x3956c25b#32, 0x59f111f1#32, 0x923f82a4#32, 0xab1c5ed5#32,
  0xd807aa98#32, 0x12835b01#32, 0x243185be#32, 0x550c7dc3#32, 0x72be5d74#32, 0x80deb1fe#32, 0x9bdc06a7#32, 0xc19bf174#32,
  0xe49b69c1#32, 0xefbe4786#32, 0x0fc19dc6#32, 0x240ca1cc#32, 0x2de92c6f#32, 0x4a7484aa#32, 0x5cb0a9dc#32, 0x76f988da#32,
  0x983e5152#32, 0xa831c66d#32, 0xb00327c8#32, 0xbf597fc7#32, 0xc6e00bf3#32, 0xd5a79147#32, 0x06ca6351#32, 0x14292967#32,
  0x27b70a85#32, 0x2e1b2138#32, 0x4d2c6dfc#32, 0x53380d13#32, 0x650a7354#32, 0x766a0abb#32, 0x81c2c92e#32, 0x92722c85#32,
  0xa2bfe8a1#32, 0xa81a664b#32, 0xc24b8b70#32, 0xc76c51a3#32, 0xd192e819#32, 0xd6990624#32, 0xf40e3585#32, 0x106aa070#32,
  0x19a4c116#32, 0x1e376c08#32, 0x2748774c#32, 0x34b0bcb5#32, 0x391c0cb3#32, 0x4ed8aa4a#32, 0x5b9cca4f#32, 0x682e6ff3#32,
  0x748f82ee#32, 0x78a5636f#32, 0x84c87814#32, 0x8cc70208#32, 0x90befffa#32, 0xa4506ceb#32, 0xbef9a3f7#32, 0xc67178f2#32]
def I8 : S8 := ⟨0x6a09e667#32, 0xbb67ae85#32, 0x3c6ef372#32, 0xa54ff53a#32, 0x510e527f#32, 0x9b05688c#32, 0x1f83d9ab#32, 0x5be0cd19#32⟩
/-- A block taken. -/
def comp (s : S8) (b : List UInt8) : S8 := s.add (rnds K64 (sched b 64) s 64)
def eatN : Nat → S8 → List UInt8 → S8
  | 0, s, _ => s
  | n + 1, s, l => eatN n (comp s (l.take 64)) (l.drop 64)
/-- The state behind all whole blocks; what is left. -/
def eatS (s : S8) (l : List UInt8) : S8 := eatN (l.length / 64) s l
def eatR (l : List UInt8) : List UInt8 := l.drop (l.length / 64 * 64)
theorem eatN_snoc : ∀ (n : Nat) (s : S8) (l : List UInt8), eatN (n + 1) s l = comp (eatN n s l) ((l.drop (64 * n)).take 64)
  | 0, s, l => by simp [eatN]
  | n + 1, s, l => by
    rw [eatN, eatN_snoc n, eatN, List.drop_drop]
    congr 3
    omega
theorem eatN_app : ∀ (n m : Nat) (s : S8) (l : List UInt8), eatN (n + m) s l = eatN m (eatN n s l) (l.drop (64 * n))
  | 0, m, s, l => by simp [eatN]
  | n + 1, m, s, l => by
    rw [show n + 1 + m = (n + m) + 1 by omega, eatN, eatN_app n m, eatN, List.drop_drop]
    congr 2
    omega
theorem eatN_pre : ∀ (n : Nat) (s : S8) (l m : List UInt8), 64 * n ≤ l.length → eatN n s (l ++ m) = eatN n s l
  | 0, _, _, _, _ => rfl
  | n + 1, s, l, m, h => by
    rw [eatN, eatN, List.take_append_of_le_length (by omega), List.drop_append_of_le_length (by omega)]
    exact eatN_pre n _ _ _ (by rw [List.length_drop]; omega)
theorem eatR_len (l : List UInt8) : (eatR l).length = l.length % 64 := by unfold eatR; rw [List.length_drop]; omega
theorem eatR_lt (l : List UInt8) : (eatR l).length < 64 := by rw [eatR_len]; omega
/-- A piece more. -/
theorem eatS_app (s : S8) (l m : List UInt8) : eatS s (l ++ m) = eatS (eatS s l) (eatR l ++ m) := by
  unfold eatS
  have h1 : (l ++ m).length / 64 = l.length / 64 + (eatR l ++ m).length / 64 := by
    rw [List.length_append, List.length_append, eatR_len]; omega
  rw [h1, eatN_app, eatN_pre _ _ l m (by omega)]
  congr 1
  unfold eatR
  rw [List.drop_append_of_le_length (by omega), Nat.mul_comm]
theorem eatR_app (l m : List UInt8) : eatR (l ++ m) = eatR (eatR l ++ m) := by
  unfold eatR
  have h2 : (l.drop (l.length / 64 * 64)).length = l.length % 64 := eatR_len l
  rw [List.length_append, List.length_append, h2]
  have h3 : (l.length + m.length) / 64 * 64 = l.length / 64 * 64 + (l.length % 64 + m.length) / 64 * 64 := by omega
  rw [h3, ← List.drop_drop, List.drop_append_of_le_length (by omega)]
theorem eatS_small (s : S8) {l : List UInt8} (h : l.length < 64) : eatS s l = s := by unfold eatS; rw [Nat.div_eq_of_lt h]; rfl
theorem eatR_small {l : List UInt8} (h : l.length < 64) : eatR l = l := by unfold eatR; rw [Nat.div_eq_of_lt h]; simp
/-- One block is taken. -/
theorem eatS_step (s : S8) {l : List UInt8} (h : 64 ≤ l.length) : eatS s l = eatS (comp s (l.take 64)) (l.drop 64) := by
  unfold eatS
  rw [List.length_drop, show l.length / 64 = (l.length - 64) / 64 + 1 by omega, eatN]
theorem eatR_step {l : List UInt8} (h : 64 ≤ l.length) : eatR l = eatR (l.drop 64) := by
  unfold eatR
  rw [List.length_drop, List.drop_drop]
  congr 1
  omega

/-- Eight bytes of a number, the greatest first. -/
def be8 (n : Nat) : List UInt8 := (List.range 8).map fun i => UInt8.ofNat (n / 2 ^ (56 - 8 * i))
def padZ (n : Nat) : Nat := (119 - n % 64) % 64
def pad (n : Nat) : List UInt8 := 0x80 :: (List.replicate (padZ n) 0 ++ be8 (8 * n))
def padH (n : Nat) : List UInt8 := 0x80 :: List.replicate (padZ n) 0
theorem be8_len (n : Nat) : (be8 n).length = 8 := by simp [be8]
theorem pad_len (n : Nat) : (n + (pad n).length) % 64 = 0 := by
  simp only [pad, padZ, List.length_cons, List.length_append, List.length_replicate, be8_len]; omega
/-- A word's four bytes. -/
def w4 (x : U32) : List UInt8 := [UInt8.ofNat (x >>> 24).toNat, UInt8.ofNat (x >>> 16).toNat, UInt8.ofNat (x >>> 8).toNat, UInt8.ofNat x.toNat]
def outW (l : List U32) : List UInt8 := (l.map w4).flatten
theorem outW_len (l : List U32) : (outW l).length = 4 * l.length := by
  induction l with
  | nil => rfl
  | cons x l ih => unfold outW at ih ⊢; rw [List.map_cons, List.flatten_cons, List.length_append, ih]; simp [w4]; omega
/-- The hash. -/
def sha (l : List UInt8) : List UInt8 := outW (eatS I8 (l ++ pad l.length)).lst
theorem sha_len (l : List UInt8) : (sha l).length = 32 := by unfold sha; rw [outW_len, S8.lst_len]
theorem sha_eat (l : List UInt8) : sha l = outW (eatS (eatS I8 l) (eatR l ++ pad l.length)).lst := by unfold sha; rw [eatS_app]
set_option maxRecDepth 100000 in
theorem sha_abc : sha [97, 98, 99] = [0xba, 0x78, 0x16, 0xbf, 0x8f, 0x01, 0xcf, 0xea, 0x41, 0x41, 0x40, 0xde, 0x5d, 0xae, 0x22, 0x23, 0xb0, 0x03, 0x61, 0xa3, 0x96, 0x17, 0x7a, 0x9c, 0xb4, 0x10, 0xff, 0x61, 0xf2, 0x00, 0x15, 0xad] := by kernel_rfl
theorem sha_nil : (sha []).take 4 = [0xe3, 0xb0, 0xc4, 0x42] := by kernel_rfl

/-- Words as cells. -/
def u32s (l : List U32) : List Value := l.map fun x => Value.int .u32 (x.toNat : Int)
theorem u32s_len (l : List U32) : (u32s l).length = l.length := by simp [u32s]
theorem u32s_get {l : List U32} {k : Nat} (h : k < l.length) : (u32s l)[k]? = some (.int .u32 (l[k].toNat : Int)) := by simp [u32s, h]
theorem u32s_app (l m : List U32) : u32s (l ++ m) = u32s l ++ u32s m := by simp [u32s]
end Go.Mx
