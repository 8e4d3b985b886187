/- Longest common subsequences: plain facts. -/
import Derived.Test.YtloogjdafhjheaaDoorLib2
namespace Go.Mx
open Go Go.RowKit

/-- How long a longest common subsequence is. -/
def lcs : List ByteArray → List ByteArray → Nat
  | [], _ => 0
  | _ :: _, [] => 0
  | x :: xs, y :: ys => if x = y then lcs xs ys + 1 else max (lcs xs (y :: ys)) (lcs (x :: xs) ys)
termination_by a b => a.length + b.length

theorem lcs_nil (l : List ByteArray) : lcs l [] = 0 := by cases l <;> simp [lcs]
theorem lcs_le : ∀ (a b : List ByteArray), lcs a b ≤ a.length
  | [], _ => by simp [lcs]
  | _ :: _, [] => by simp [lcs]
  | x :: xs, y :: ys => by
    have h1 := lcs_le xs ys
    have h2 := lcs_le xs (y :: ys)
    have h3 := lcs_le (x :: xs) ys
    rw [lcs]
    simp only [List.length_cons] at *
    split <;> omega
termination_by a b => a.length + b.length

/-- The table: what is left from two places on. -/
def lt2 (a b : List ByteArray) (i j : Nat) : Nat := lcs (a.drop i) (b.drop j)
theorem lt2_end {a b : List ByteArray} {i j : Nat} (h : a.length ≤ i ∨ b.length ≤ j) : lt2 a b i j = 0 := by
  unfold lt2
  rcases h with h | h
  · rw [List.drop_of_length_le h]; simp [lcs]
  · rw [List.drop_of_length_le h, lcs_nil]
theorem lt2_step {a b : List ByteArray} {i j : Nat} (hi : i < a.length) (hj : j < b.length) :
    lt2 a b i j = if a[i] = b[j] then lt2 a b (i + 1) (j + 1) + 1 else max (lt2 a b (i + 1) j) (lt2 a b i (j + 1)) := by
  unfold lt2
  rw [List.drop_eq_getElem_cons hi, List.drop_eq_getElem_cons hj, lcs]
theorem lt2_le (a b : List ByteArray) (i j : Nat) : lt2 a b i j ≤ a.length := by
  have := lcs_le (a.drop i) (b.drop j)
  rw [List.length_drop] at this
  unfold lt2; omega

/-- The pairs that are told, from two places on. -/
def mpairs (a b : List ByteArray) (i j : Nat) : List (Nat × Nat) :=
  if h : i < a.length ∧ j < b.length then
    if a[i] = b[j] then (i, j) :: mpairs a b (i + 1) (j + 1)
    else if lt2 a b i (j + 1) ≤ lt2 a b (i + 1) j then mpairs a b (i + 1) j else mpairs a b i (j + 1)
  else []
termination_by (a.length - i) + (b.length - j)
decreasing_by all_goals omega

theorem mpairs_len (a b : List ByteArray) (i j : Nat) : (mpairs a b i j).length ≤ a.length - i := by
  rw [mpairs]
  split
  · rename_i h
    split
    · have := mpairs_len a b (i + 1) (j + 1); simp only [List.length_cons]; omega
    · split
      · have := mpairs_len a b (i + 1) j; omega
      · exact mpairs_len a b i (j + 1)
  · simp
termination_by (a.length - i) + (b.length - j)
decreasing_by all_goals omega

/-- Pairs as cells. -/
def pr (l : List (Nat × Nat)) : List Value := l.flatMap fun p => [Value.int .i64 (p.1 : Int), Value.int .i64 (p.2 : Int)]
theorem pr_len (l : List (Nat × Nat)) : (pr l).length = l.length * 2 := by
  induction l with
  | nil => rfl
  | cons p l ih => simp only [pr, List.flatMap_cons, List.length_append, List.length_cons, List.length_nil] at *; omega
theorem pr_app (l m : List (Nat × Nat)) : pr (l ++ m) = pr l ++ pr m := by simp [pr]
theorem pr_one (l : List (Nat × Nat)) : ∀ u ∈ pr l, u.oneCell' = true := by
  intro u hu
  obtain ⟨p, _, h⟩ := List.mem_flatMap.1 hu
  simp at h
  rcases h with rfl | rfl <;> rfl
theorem pr_get {l : List (Nat × Nat)} : ∀ {k : Nat} (h : k < l.length), (pr l)[2 * k]? = some (.int .i64 (l[k].1 : Int)) ∧ (pr l)[2 * k + 1]? = some (.int .i64 (l[k].2 : Int)) := by
  induction l with
  | nil => intro k h; simp at h
  | cons p l ih =>
    intro k h
    match k with
    | 0 => exact ⟨rfl, rfl⟩
    | k + 1 =>
      have := ih (k := k) (by simpa using h)
      show (_ :: _ :: pr l)[2 * k + 1 + 1]? = _ ∧ (_ :: _ :: pr l)[2 * k + 1 + 1 + 1]? = _
      simpa using this

/-- The table in memory. -/
def Tab (w : World) (v : Value) (a b : List ByteArray) : Prop :=
  ∃ vs : List Value, Sl w 1 v (a.length + 1) vs ∧ ∀ k, k ≤ a.length → ∃ u r, vs[k]? = some u ∧ Sl w 1 u (b.length + 1) r ∧ ∀ j, j ≤ b.length → r[j]? = some (.int .i64 (lt2 a b k j : Int))
theorem Tab.old {w0 w : World} {R : List Row} {Q : List Rd} {v : Value} {a b : List ByteArray} (h : St w0 w R Q) (ht : Tab w0 v a b) : Tab w v a b := by
  obtain ⟨vs, h1, h2⟩ := ht
  exact ⟨vs, h.old h1, fun k hk => by obtain ⟨u, r, g1, g2, g3⟩ := h2 k hk; exact ⟨u, r, g1, h.old g2, g3⟩⟩
theorem Tab.at {w : World} {v : Value} {a b : List ByteArray} (h : Tab w v a b) : ∃ cap blk off, v = .slice (some ⟨blk, off, none⟩) (a.length + 1) cap ∧ a.length + 1 ≤ cap ∧ cap ≤ 9223372036854775807 ∧
    ∀ k, k ≤ a.length → ∃ g o c, w.cell? ⟨blk, off + k, none⟩ = some (.slice (some ⟨g, o, none⟩) (b.length + 1) c) ∧ b.length + 1 ≤ c ∧ c ≤ 9223372036854775807 ∧ ∀ j, j ≤ b.length → w.cell? ⟨g, o + j, none⟩ = some (.int .i64 (lt2 a b k j : Int)) := by
  obtain ⟨vs, h1, h2⟩ := h
  obtain ⟨ao, cap, rfl, g1, g2, g3, _, g4⟩ := h1.form
  unfold maxLen at g2
  obtain ⟨blk, off, rfl, hc⟩ := g4 (by rintro rfl; simp at g3)
  refine ⟨cap, blk, off, rfl, g1, by omega, fun k hk => ?_⟩
  obtain ⟨u, r, e1, e2, e3⟩ := h2 k hk
  obtain ⟨ao', cap', rfl, f1, f2, f3, _, f4⟩ := e2.form
  unfold maxLen at f2
  obtain ⟨g, o, rfl, hd⟩ := f4 (by rintro rfl; simp at f3)
  exact ⟨g, o, cap', hc k _ e1, f1, by omega, fun j hj => hd j _ (e3 j hj)⟩

/-- A row out of the rest, and back. -/
theorem St.mem {w0 w : World} {R : List Row} {Q : List Rd} (h : St w0 w R Q) {v : Value} {e : TypeId} {size n : Nat} {xs : List Value} (hr : (⟨v, e, size, n, xs⟩ : Row) ∈ R) : Sl w size v n xs := h.sl hr
theorem perm_pick {α : Type} (l : List α) (i : Nat) (h : i < l.length) : l.Perm (l[i] :: l.eraseIdx i) := by
  induction l generalizing i with
  | nil => simp at h
  | cons x l ih =>
    match i with
    | 0 => simp
    | i + 1 =>
      simp only [List.getElem_cons_succ, List.eraseIdx_cons_succ]
      exact ((ih i (by simpa using h)).cons x).trans (List.Perm.swap _ _ _)
theorem perm_set {α : Type} (l : List α) (i : Nat) (h : i < l.length) (x : α) : (x :: l.eraseIdx i).Perm (l.set i x) := by
  induction l generalizing i with
  | nil => simp at h
  | cons y l ih =>
    match i with
    | 0 => simp
    | i + 1 =>
      simp only [List.set_cons_succ, List.eraseIdx_cons_succ]
      exact (List.Perm.swap _ _ _).trans ((ih i (by simpa using h)).cons y)
theorem mem_erase_ne {α : Type} {l : List α} {i k : Nat} (hk : k < l.length) (hne : k ≠ i) : l[k] ∈ l.eraseIdx i := by
  rw [List.mem_iff_getElem?]
  rcases Nat.lt_or_gt_of_ne hne with h | h
  · exact ⟨k, by rw [List.getElem?_eraseIdx, if_pos h, List.getElem?_eq_getElem hk]⟩
  · exact ⟨k - 1, by rw [List.getElem?_eraseIdx, if_neg (by omega), show k - 1 + 1 = k by omega, List.getElem?_eq_getElem hk]⟩
theorem St.rowCell {w0 w : World} {R : List Row} {Q : List Rd} {g n cap : Nat} {e : TypeId} {size : Nat} {xs : List Value} (h : St w0 w R Q) (hr : (⟨.slice (some ⟨g, 0, none⟩) n cap, e, size, n, xs⟩ : Row) ∈ R) {j : Nat} {u : Value} (hj : xs[j]? = some u) : w.cell? ⟨g, j, none⟩ = some u := by
  have := (h.own _ hr).cells (g := g) rfl j u hj
  rw [Addr.add_lit, Nat.zero_add] at this
  exact this
theorem put_eq {xs : List Value} {j : Nat} (h : j < xs.length) (u : Value) : xs.take j ++ [u] ++ xs.drop (j + 1) = xs.set j u := by
  rw [List.set_eq_take_append_cons_drop, if_pos h, List.append_assoc]; rfl
theorem perm_last {α : Type} (x o : α) (l : List α) : (x :: o :: l).Perm (o :: (l ++ [x])) :=
  (List.Perm.swap _ _ _).trans (List.Perm.cons o (List.perm_append_singleton x l).symm)
/-- make([]T, n), all zero. -/
theorem run_make_rep {P : Program} {t e : TypeId} {z : Value} {bytes : Nat} (ht : P.underlying t = some (.slice e)) (h : (P.info? e).map (fun i => (i.zero, i.size, i.bytes)) = some (some z, 1, bytes)) (hz : z.cells = #[z]) (hby : 1 ≤ bytes) (n : Nat) (hb : bytes * n ≤ 281474976710656) :
    ∃ C : Array Value, C.toList = List.replicate n z ∧ ∀ (i : Int), i = n → ∀ w : World, (Instr.makeSlice t (.int .i64 i) (.int .i64 i)).run P w = .ok (.slice (some ⟨w.heap.size, 0, none⟩) n n) (w.alloc (.cells C e)) := by
  obtain ⟨i, h1, h2, h3, h4⟩ := info_parts h
  refine ⟨madeCells #[z] n, toList_madeCells_one z n, fun k hk w => ?_⟩
  subst hk
  have hn : n ≤ bytes * n := Nat.le_mul_of_pos_left n hby
  have := run_make (P := P) w t e i z ht h1 h2 .i64 .i64 (n : Int) (n : Int) (by omega) (by omega) (by rw [h4]; have : ((bytes * n : Nat) : Int) = (bytes : Int) * (n : Int) := Int.natCast_mul _ _; omega) (by omega)
  rw [this, h3, hz, Nat.mul_one, Int.toNat_natCast]

/-- The value of a row of its own. -/
abbrev slv (g n : Nat) : Value := .slice (some ⟨g, 0, none⟩) n n
/-- The rows k from lo on, each behind its place in vs. -/
def RowsAt (vs : List Value) (rows : List Row) (e : TypeId) (m lo hi : Nat) (P : Nat → List Value → Prop) : Prop :=
  ∀ k, lo ≤ k → k < hi → ∃ g r, vs[k]? = some (slv g m) ∧ rows[k - lo]? = some ⟨slv g m, e, 1, m, r⟩ ∧ r.length = m ∧ P k r
theorem RowsAt.tab {w0 w : World} {vs : List Value} {rows : List Row} {Q : List Rd} {v : Value} {e e' : TypeId} {a b : List ByteArray} (h : RowsAt vs rows e (b.length + 1) 0 (a.length + 1) fun k r => ∀ j, j ≤ b.length → r[j]? = some (.int .i64 (lt2 a b k j : Int)))
    (hs : St w0 w (⟨v, e', 1, a.length + 1, vs⟩ :: rows) Q) : Tab w v a b := by
  refine ⟨vs, hs.sl0, fun k hk => ?_⟩
  obtain ⟨g, r, h1, h2, h3, h4⟩ := h k (Nat.zero_le _) (by omega)
  exact ⟨_, r, h1, hs.mem (e := e) (List.mem_cons_of_mem _ (List.mem_of_getElem? h2)), h4⟩
theorem RowsAt.push {vs : List Value} {rows : List Row} {e : TypeId} {m k : Nat} {P : Nat → List Value → Prop} (h : RowsAt vs rows e m 0 k P) (hl : rows.length = k) (hk : k < vs.length) {g : Nat} {r : List Value} (hr : r.length = m) (hp : P k r) :
    RowsAt (vs.set k (slv g m)) (rows ++ [⟨slv g m, e, 1, m, r⟩]) e m 0 (k + 1) P := by
  intro i _ hi
  by_cases he : i = k
  · subst he
    exact ⟨g, r, by rw [List.getElem?_set_self hk], by rw [Nat.sub_zero, List.getElem?_append_right (by omega), hl]; simp, hr, hp⟩
  · obtain ⟨g', r', h1, h2, h3, h4⟩ := h i (by omega) (by omega)
    exact ⟨g', r', by rw [List.getElem?_set_ne (by omega)]; exact h1, by rw [List.getElem?_append_left (by omega)]; exact h2, h3, h4⟩
/-- The rows from lo on, one more ahead of them. -/
theorem RowsAt.front {vs : List Value} {rows : List Row} {e : TypeId} {m lo hi : Nat} {P : Nat → List Value → Prop} (h : RowsAt vs rows e m (lo + 1) hi P) (hk : lo < vs.length) {g : Nat} {r : List Value} (hr : r.length = m) (hp : P lo r) :
    RowsAt (vs.set lo (slv g m)) (⟨slv g m, e, 1, m, r⟩ :: rows) e m lo hi P := by
  intro i h1 h2
  by_cases he : i = lo
  · subst he
    exact ⟨g, r, by rw [List.getElem?_set_self hk], by rw [Nat.sub_self]; rfl, hr, hp⟩
  · obtain ⟨g', r', q1, q2, q3, q4⟩ := h i (by omega) (by omega)
    exact ⟨g', r', by rw [List.getElem?_set_ne (by omega)]; exact q1, by rw [show i - lo = (i - (lo + 1)) + 1 by omega, List.getElem?_cons_succ]; exact q2, q3, q4⟩
/-- One row's content turned. -/
theorem RowsAt.set' {vs : List Value} {rows : List Row} {e : TypeId} {m hi i : Nat} {P P' : Nat → List Value → Prop} (h : RowsAt vs rows e m 0 hi P) (hl : i < rows.length) {g : Nat} {r : List Value} (hv : vs[i]? = some (slv g m)) (hr : r.length = m)
    (hp : ∀ k r, k ≠ i → P k r → P' k r) (hi' : P' i r) : RowsAt vs (rows.set i ⟨slv g m, e, 1, m, r⟩) e m 0 hi P' := by
  intro k h1 h2
  by_cases he : k = i
  · subst he
    exact ⟨g, r, hv, by rw [Nat.sub_zero, List.getElem?_set_self hl], hr, hi'⟩
  · obtain ⟨g', r', q1, q2, q3, q4⟩ := h k h1 h2
    exact ⟨g', r', q1, by rw [Nat.sub_zero] at q2 ⊢; rw [List.getElem?_set_ne (Ne.symm he)]; exact q2, q3, hp k _ he q4⟩
theorem row_step {a b : List ByteArray} {i x L : Nat} {r : List Value} (h : ∀ y : Nat, (x : Int) < (y : Int) → y ≤ b.length → r[y]? = some (.int .i64 (lt2 a b i y : Int))) (hx : x < r.length) (_hb : x < b.length) (hl : lt2 a b i x = L) {z : Int} (hz : z = (L : Int) := by rfl) :
    Hid (∀ y : Nat, (x : Int) - 1 < (y : Int) → y ≤ b.length → (r.take x ++ [Value.int .i64 z] ++ r.drop (x + 1))[y]? = some (.int .i64 (lt2 a b i y : Int))) := by
  intro y h1 h2
  rw [put_eq hx]
  by_cases he : y = x
  · subst he
    rw [List.getElem?_set_self hx, hl, hz]
  · rw [List.getElem?_set_ne (Ne.symm he)]
    exact h y (by omega) h2
end Go.Mx
