/- Edits: plain facts, and edits in memory. -/
import Derived.Test.YtloogjdafhjheaaDoorLcs
import Derived.Test.YtloogjdafhjheaaDoorLists
namespace Go.Mx
open Go Go.RowKit

abbrev Ed : Type := Int × Int × List ByteArray
/-- The edits that pairs leave. -/
def eds (b : List ByteArray) : List (Nat × Nat) → Nat → Nat → List Ed
  | [], _, _ => []
  | p :: ps, i, j => if i < p.1 ∨ j < p.2 then ((i : Int), (p.1 : Int) - (i : Int), (b.take p.2).drop j) :: eds b ps (p.1 + 1) (p.2 + 1) else eds b ps (p.1 + 1) (p.2 + 1)
theorem eds_len (b : List ByteArray) : ∀ (l : List (Nat × Nat)) (i j : Nat), (eds b l i j).length ≤ l.length
  | [], _, _ => by simp [eds]
  | p :: ps, i, j => by
    have := eds_len b ps (p.1 + 1) (p.2 + 1)
    rw [eds]; split <;> simp <;> omega

/-- Pairs rise. -/
def Ris (n m : Nat) : List (Nat × Nat) → Nat → Nat → Prop
  | [], _, _ => True
  | p :: ps, i, j => i ≤ p.1 ∧ j ≤ p.2 ∧ p.1 ≤ n ∧ p.2 ≤ m ∧ Ris n m ps (p.1 + 1) (p.2 + 1)
theorem Ris.le {n m : Nat} : ∀ {l : List (Nat × Nat)} {i j i' j' : Nat}, Ris n m l i j → i' ≤ i → j' ≤ j → Ris n m l i' j'
  | [], _, _, _, _, _, _, _ => trivial
  | p :: ps, i, j, i', j', h, hi, hj => ⟨by have := h.1; omega, by have := h.2.1; omega, h.2.2.1, h.2.2.2.1, h.2.2.2.2⟩
theorem mpairs_ris (a b : List ByteArray) (i j : Nat) (hi : i ≤ a.length) (hj : j ≤ b.length) : Ris a.length b.length (mpairs a b i j ++ [(a.length, b.length)]) i j := by
  rw [mpairs]
  split
  · rename_i h
    split
    · exact ⟨Nat.le_refl _, Nat.le_refl _, hi, hj, mpairs_ris a b (i + 1) (j + 1) (by omega) (by omega)⟩
    · split
      · exact (mpairs_ris a b (i + 1) j (by omega) hj).le (by omega) (Nat.le_refl _)
      · exact (mpairs_ris a b i (j + 1) hi (by omega)).le (Nat.le_refl _) (by omega)
  · exact ⟨hi, hj, Nat.le_refl _, Nat.le_refl _, trivial⟩
termination_by (a.length - i) + (b.length - j)
decreasing_by all_goals omega

/-- Edits as cells: the places, how many, and the slice of what is put in. -/
def edc (vs : List Value) (es : List Ed) : List Value := (List.zipWith (fun v (e : Ed) => [Value.int .i64 e.1, Value.int .i64 e.2.1, v]) vs es).flatten
def rdt (vs : List Value) (es : List Ed) : List Rd := List.zipWith (fun v (e : Ed) => ⟨v, 1, e.2.2.length, ss e.2.2⟩) vs es
theorem edc_len : ∀ (vs : List Value) (es : List Ed), vs.length = es.length → (edc vs es).length = es.length * 3
  | [], [], _ => rfl
  | v :: vs, e :: es, h => by
    have := edc_len vs es (by simpa using h)
    simp only [edc, List.zipWith_cons_cons, List.flatten_cons, List.length_append, List.length_cons, List.length_nil] at *
    omega
theorem edc_snoc (vs : List Value) (es : List Ed) (v : Value) (e : Ed) (h : vs.length = es.length) : edc (vs ++ [v]) (es ++ [e]) = edc vs es ++ [Value.int .i64 e.1, Value.int .i64 e.2.1, v] := by
  unfold edc
  rw [List.zipWith_append h]
  simp
theorem rdt_snoc (vs : List Value) (es : List Ed) (v : Value) (e : Ed) (h : vs.length = es.length) : rdt (vs ++ [v]) (es ++ [e]) = rdt vs es ++ [⟨v, 1, e.2.2.length, ss e.2.2⟩] := by
  unfold rdt
  rw [List.zipWith_append h]
  rfl
theorem edc_get : ∀ {vs : List Value} {es : List Ed} {k : Nat} (h : vs.length = es.length) (hk : k < es.length),
    (edc vs es)[3 * k]? = some (.int .i64 es[k].1) ∧ (edc vs es)[3 * k + 1]? = some (.int .i64 es[k].2.1) ∧ (edc vs es)[3 * k + 2]? = some (vs[k]'(by omega))
  | _, [], _, _, hk => by simp at hk
  | [], e :: es, _, h, _ => by simp at h
  | v :: vs, e :: es, 0, _, _ => ⟨rfl, rfl, rfl⟩
  | v :: vs, e :: es, k + 1, h, hk => by
    have := edc_get (vs := vs) (es := es) (k := k) (by simpa using h) (by simpa using hk)
    show (_ :: _ :: _ :: edc vs es)[3 * k + 1 + 1 + 1]? = _ ∧ (_ :: _ :: _ :: edc vs es)[3 * k + 1 + 1 + 1 + 1]? = _ ∧ (_ :: _ :: _ :: edc vs es)[3 * k + 1 + 1 + 1 + 1 + 1]? = _
    simpa using this

/-- v reads as the edits es. -/
def ED (w : World) (v : Value) (es : List Ed) : Prop :=
  ∃ vs : List Value, vs.length = es.length ∧ Sl w 3 v es.length (edc vs es) ∧ ∀ q ∈ rdt vs es, Sl w q.size q.v q.n q.xs
theorem ED.old {w0 w : World} {R : List Row} {Q : List Rd} {v : Value} {es : List Ed} (h : St w0 w R Q) (hl : ED w0 v es) : ED w v es := by
  obtain ⟨vs, h1, h2, h3⟩ := hl
  exact ⟨vs, h1, h.old h2, fun q hq => h.old (h3 q hq)⟩
theorem ED.ofSt {w0 w : World} {v : Value} {e : TypeId} {vs : List Value} {es : List Ed} (h : St w0 w [⟨v, e, 3, es.length, edc vs es⟩] (rdt vs es)) (hl : vs.length = es.length) : ED w v es :=
  ⟨vs, hl, h.sl0, fun q hq => h.rd q hq⟩
theorem ED.nil (w : World) : ED w (.slice none 0 0) [] := ⟨[], rfl, Sl.nil w 3, by simp [rdt]⟩
theorem ED.at {w : World} {v : Value} {es : List Ed} (h : ED w v es) : ∃ ao cap blk off, ∃ us : Nat → Value, v = .slice ao es.length cap ∧ es.length ≤ cap ∧ cap ≤ 9223372036854775807 ∧
    (∀ k (hk : k < es.length), ao = some ⟨blk, off, none⟩ ∧ w.cell? ⟨blk, off + 3 * k, none⟩ = some (.int .i64 es[k].1) ∧ w.cell? ⟨blk, off + (3 * k + 1), none⟩ = some (.int .i64 es[k].2.1) ∧ w.cell? ⟨blk, off + (3 * k + 2), none⟩ = some (us k)) ∧
    ∀ k (hk : k < es.length), Sl w 1 (us k) es[k].2.2.length (ss es[k].2.2) := by
  obtain ⟨vs, h1, h2, h3⟩ := h
  obtain ⟨ao, cap, rfl, g1, g2, g3, _, g4⟩ := h2.form
  unfold maxLen at g2
  have hq : ∀ k (hk : k < es.length), Sl w 1 (vs.getD k (.bool false)) es[k].2.2.length (ss es[k].2.2) := fun k hk => by
    have : (⟨vs[k]'(by omega), 1, es[k].2.2.length, ss es[k].2.2⟩ : Rd) ∈ rdt vs es := by
      unfold rdt
      rw [List.mem_iff_getElem]
      exact ⟨k, by simp; omega, by simp⟩
    have := h3 _ this
    simpa [List.getD_eq_getElem?_getD, List.getElem?_eq_getElem (show k < vs.length by omega)] using this
  by_cases hnil : es = []
  · subst hnil; exact ⟨ao, cap, 0, 0, _, rfl, g1, by omega, fun k hk => by simp at hk, hq⟩
  · have hlen := edc_len vs es h1
    have hne : edc vs es ≠ [] := by intro h; rw [h] at hlen; simp at hlen; exact hnil (List.eq_nil_of_length_eq_zero (by omega))
    obtain ⟨b, off, rfl, hc⟩ := g4 hne
    refine ⟨_, cap, b, off, _, rfl, g1, by omega, fun k hk => ?_, hq⟩
    obtain ⟨e1, e2, e3⟩ := edc_get h1 hk
    exact ⟨rfl, hc _ _ e1, hc _ _ e2, hc _ _ (by rw [e3]; simp [List.getD_eq_getElem?_getD, List.getElem?_eq_getElem (show k < vs.length by omega)])⟩
theorem St.pushE {w0 w : World} {v c : Value} {e : TypeId} {vs : List Value} {es : List Ed} {d : Ed} (h : St w0 w [⟨v, e, 3, es.length + 1, edc vs es ++ [Value.int .i64 d.1, Value.int .i64 d.2.1, c]⟩] (⟨c, 1, d.2.2.length, ss d.2.2⟩ :: rdt vs es)) (hl : vs.length = es.length) :
    St w0 w [⟨v, e, 3, (es ++ [d]).length, edc (vs ++ [c]) (es ++ [d])⟩] (rdt (vs ++ [c]) (es ++ [d])) ∧ (vs ++ [c]).length = (es ++ [d]).length := by
  refine ⟨(h.cast (by simp) (edc_snoc _ _ _ _ hl).symm).sub (List.Sublist.refl _) fun q hq => ?_, by simp [hl]⟩
  rw [rdt_snoc _ _ _ _ hl] at hq
  rcases List.mem_append.1 hq with hq | hq
  · exact List.mem_cons_of_mem _ hq
  · simp at hq; subst hq; exact List.mem_cons_self ..
theorem Sl.two {w : World} {g cap : Nat} {x y : Value} (h : Sl w 2 (.slice (some ⟨g, 0, none⟩) 1 cap) 1 [x, y]) : w.cell? ⟨g, 0, none⟩ = some x ∧ w.cell? ⟨g, 1, none⟩ = some y := by
  obtain ⟨ao, c, he, _, _, _, _, hc⟩ := h
  obtain ⟨rfl, rfl⟩ : some ⟨g, 0, none⟩ = ao ∧ cap = c := by simpa using he
  obtain ⟨a, ha, h0⟩ := hc 0 x rfl
  obtain ⟨a', ha', h1⟩ := hc 1 y rfl
  cases ha; cases ha'
  exact ⟨h0, h1⟩
end Go.Mx
