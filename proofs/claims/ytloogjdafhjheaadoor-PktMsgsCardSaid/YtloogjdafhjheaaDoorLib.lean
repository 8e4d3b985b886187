/- The symbolic heap used by all walks of this claim: which blocks the call owns, which slices read as which cells. -/
import Derived.WalkKit
import Derived.Laws.AppendOwnNone
import Derived.Outline
import Derived.Deep.Draws
namespace Go.Mx
open Go Go.RowKit

/-- A slice value of n elements (size cells each) that reads as the cells xs. -/
def Sl (w : World) (size : Nat) (v : Value) (n : Nat) (xs : List Value) : Prop :=
  ∃ ao cap, v = .slice ao n cap ∧ n ≤ cap ∧ cap ≤ maxLen ∧ xs.length = n * size ∧ (ao = none → cap = 0) ∧
    ∀ j u, xs[j]? = some u → ∃ a, ao = some a ∧ w.cell? (a.add j) = some u

/-- The slice value v, of n elements, owns the cells xs: it is nil, or begins at the head of a block from 'base' on in which no cell is frozen. -/
def Ow (w : World) (base : Nat) (e : TypeId) (size : Nat) (v : Value) (n : Nat) (xs : List Value) : Prop :=
  xs.length = n * size ∧
  ((v = .slice none 0 0 ∧ n = 0) ∨
   ∃ g cap cur fr, v = .slice (some ⟨g, 0, none⟩) n cap ∧ base ≤ g ∧ w.heap[g]? = some (.cells cur e fr) ∧ (∀ i, i < cur.size → ¬ (fr.1 ≤ i ∧ i < fr.2)) ∧ n ≤ cap ∧ cap ≤ maxLen ∧ cur.size = cap * size ∧ cur.toList.take (n * size) = xs)

theorem Ow.lt {w : World} {base : Nat} {e : TypeId} {size : Nat} {v : Value} {n : Nat} {xs : List Value} (h : Ow w base e size v n xs) : ∀ k, v.ownBlock = some k → base ≤ k ∧ k < w.heap.size := by
  intro k hk
  rcases h.2 with ⟨rfl, _⟩ | ⟨g, cap, cur, fr, rfl, hb, hg, _⟩
  · simp [Value.ownBlock] at hk
  · simp [Value.ownBlock] at hk
    subst hk
    exact ⟨hb, (Array.getElem?_eq_some_iff.1 hg).1⟩

theorem Ow.kept {w w' : World} {base : Nat} {e : TypeId} {size : Nat} {v : Value} {n : Nat} {xs : List Value} {row : Option Nat} (h : Ow w base e size v n xs) (hg : w.grownBy w' row) (hne : v.ownBlock = none ∨ v.ownBlock ≠ row) : Ow w' base e size v n xs := by
  refine ⟨h.1, ?_⟩
  rcases h.2 with hn | ⟨g, cap, cur, fr, rfl, hb, hgg, rest⟩
  · exact .inl hn
  · refine .inr ⟨g, cap, cur, fr, rfl, hb, ?_, rest⟩
    rw [hg.block g (Array.getElem?_eq_some_iff.1 hgg).1 (by simpa [Value.ownBlock] using hne)]
    exact hgg

theorem Ow.mono {w : World} {base base' : Nat} {e : TypeId} {size : Nat} {v : Value} {n : Nat} {xs : List Value} (h : Ow w base e size v n xs) (hb : base' ≤ base) : Ow w base' e size v n xs :=
  ⟨h.1, h.2.imp id fun ⟨g, cap, cur, fr, hv, hbg, rest⟩ => ⟨g, cap, cur, fr, hv, Nat.le_trans hb hbg, rest⟩⟩

theorem Ow.cells {w : World} {base : Nat} {e : TypeId} {size : Nat} {v : Value} {n : Nat} {xs : List Value} (h : Ow w base e size v n xs) {g : Nat} (hg : v.ownBlock = some g) : ∀ j u, xs[j]? = some u → w.cell? ((⟨g, 0, none⟩ : Addr).add j) = some u := by
  intro j u hu
  rcases h.2 with ⟨rfl, _⟩ | ⟨g', cap, cur, fr, rfl, _, hgg, _, _, _, _, htake⟩
  · simp [Value.ownBlock] at hg
  · simp [Value.ownBlock] at hg
    subst hg
    have hadd : (⟨g', 0, none⟩ : Addr).add j = ⟨g', j, none⟩ := by unfold Addr.add; split <;> simp_all
    rw [hadd, cell_of_row w g' j cur e fr hgg]
    rw [← htake, List.getElem?_take] at hu
    split at hu
    · simpa using hu
    · cases hu

theorem Ow.nil (w : World) (base : Nat) (e : TypeId) (size : Nat) : Ow w base e size (.slice none 0 0) 0 [] := ⟨by simp, .inl ⟨rfl, rfl⟩⟩

/-- A store of cells into a block in which no cell is frozen. -/
theorem run_storeCells_fr (P : Program) (g o : Nat) (t : TypeId) (fr : Nat × Nat) : ∀ (vs : List Value) (i : Nat) (cur : Array Value) (w : World), w.heap[g]? = some (.cells cur t fr) → (∀ i, i < cur.size → ¬ (fr.1 ≤ i ∧ i < fr.2)) → o + i + vs.length ≤ cur.size → (∀ v ∈ vs, v.oneCell' = true) →
    (storeCells ⟨g, o, none⟩ vs i).run P w = .ok () (w.setRow g (cur.toList.take (o + i) ++ vs ++ cur.toList.drop (o + i + vs.length)).toArray)
  | [], i, cur, w, hg, _, _, _ => by
    simp only [storeCells, List.append_nil, List.length_nil, Nat.add_zero, List.take_append_drop, Array.toArray_toList]
    rw [setRow_self w g cur t fr hg]
    rfl
  | v :: rest, i, cur, w, hg, hfr, hl, h1 => by
    have hi : o + i < cur.size := by simp at hl; omega
    have hadd : (⟨g, o, none⟩ : Addr).add i = ⟨g, o + i, none⟩ := by unfold Addr.add; split <;> simp_all
    have hcell : w.cell? ⟨g, o + i, none⟩ = some cur[o + i] := by simp [World.cell?, hg, hi]
    have hfro : w.frozen? ⟨g, o + i, none⟩ = false := by
      have := hfr (o + i) hi
      simp only [World.frozen?, hg]
      rw [Bool.and_eq_false_iff]
      rw [decide_eq_false_iff_not, decide_eq_false_iff_not]
      omega
    have hst : (store ((⟨g, o, none⟩ : Addr).add i) v).run P w = .ok () (w.setRow g (cur.setIfInBounds (o + i) v)) := by
      rw [hadd, run_store P w _ v _ (h1 v (by simp)), hcell]
      simp [hfro, setCell_eq_setRow w g (o + i) cur t fr v hg]
    have ih := run_storeCells_fr P g o t fr rest (i + 1) (cur.setIfInBounds (o + i) v) (w.setRow g (cur.setIfInBounds (o + i) v)) (setRow_heap w g cur _ t _ hg) (by simpa using hfr) (by simp at hl ⊢; omega) (fun x hx => h1 x (by simp [hx]))
    simp only [storeCells, Sem.run_bind, hst, Result.andThen_ok, ih, setRow_setRow]
    congr 3
    have e := list_seg_step cur.toList (o + i) v rest (by simp at hl ⊢; omega)
    simpa [Array.toList_setIfInBounds, Nat.add_assoc] using e

structure Row where
  v : Value
  e : TypeId
  size : Nat
  n : Nat
  xs : List Value

structure Rd where
  v : Value
  size : Nat
  n : Nat
  xs : List Value

/-- From the world w0 (at the call's start) to w: nothing that was there has turned; the rows R are owned, apart from one another; the slices Q read as told and lie in none of the rows. -/
structure St (w0 w : World) (R : List Row) (Q : List Rd) : Prop where
  below : Below w0.heap.size w0 w
  own : ∀ r ∈ R, Ow w w0.heap.size r.e r.size r.v r.n r.xs
  sep : R.Pairwise fun r s => ∀ b, r.v.ownBlock = some b → s.v.ownBlock ≠ some b
  rd : ∀ q ∈ Q, Sl w q.size q.v q.n q.xs
  apart : ∀ q ∈ Q, ∀ r ∈ R, q.xs ≠ [] → ∀ b, r.v.ownBlock = some b → q.v.ownBlock ≠ some b

theorem Addr.add_block (a : Addr) (j : Nat) : (a.add j).block = a.block := by unfold Addr.add; split <;> rfl

theorem Sl.same {w w' : World} {size : Nat} {v : Value} {n : Nat} {xs : List Value} (h : Sl w size v n xs)
    (hb : xs ≠ [] → ∀ b, v.ownBlock = some b → b < w.heap.size → w'.heap[b]? = w.heap[b]?) : Sl w' size v n xs := by
  obtain ⟨ao, cap, rfl, h1, h2, h3, h0, h4⟩ := h
  refine ⟨ao, cap, rfl, h1, h2, h3, h0, fun j u hu => ?_⟩
  obtain ⟨a, rfl, hc⟩ := h4 j u hu
  refine ⟨a, rfl, ?_⟩
  have hne : xs ≠ [] := by rintro rfl; simp at hu
  have hlt := World.block_lt_of_cell? w _ hc
  rw [Addr.add_block] at hlt
  rw [← hc]
  exact World.cell?_of_block (by rw [Addr.add_block]; exact hb hne a.block rfl hlt)

theorem Sl.below {w w' : World} {size : Nat} {v : Value} {n : Nat} {xs : List Value} (h : Sl w size v n xs) (hb : Below w.heap.size w w') : Sl w' size v n xs :=
  h.same fun _ b _ hlt => hb.block b hlt

theorem Sl.lt {w : World} {size : Nat} {v : Value} {n : Nat} {xs : List Value} (h : Sl w size v n xs) (hne : xs ≠ []) {b : Nat} (hb : v.ownBlock = some b) : b < w.heap.size := by
  obtain ⟨ao, cap, rfl, h1, h2, h3, h0, h4⟩ := h
  match xs, hne with
  | x :: xs, _ =>
    obtain ⟨a, rfl, hc⟩ := h4 0 x rfl
    have := World.block_lt_of_cell? w _ hc
    rw [Addr.add_block] at this
    simp [Value.ownBlock] at hb
    omega

theorem Sl.nil (w : World) (size : Nat) : Sl w size (.slice none 0 0) 0 [] := ⟨none, 0, rfl, by simp, by simp, by simp, fun _ => rfl, by simp⟩

/-- What a slice that reads as cells is: its address, where there is a cell. -/
theorem Sl.form {w : World} {size : Nat} {v : Value} {n : Nat} {xs : List Value} (h : Sl w size v n xs) :
    ∃ ao cap, v = .slice ao n cap ∧ n ≤ cap ∧ cap ≤ maxLen ∧ xs.length = n * size ∧ (ao = none → cap = 0) ∧
      (xs ≠ [] → ∃ b off, ao = some ⟨b, off, none⟩ ∧ ∀ j u, xs[j]? = some u → w.cell? ⟨b, off + j, none⟩ = some u) := by
  obtain ⟨ao, cap, rfl, h1, h2, h3, h0, h4⟩ := h
  refine ⟨ao, cap, rfl, h1, h2, h3, h0, fun hne => ?_⟩
  match xs, hne with
  | x :: xs, _ =>
    obtain ⟨a, rfl, hc⟩ := h4 0 x rfl
    obtain ⟨b, off, spot⟩ := a
    have hspot : spot = none := by simpa [Addr.add] using World.cell?_spot hc
    subst hspot
    refine ⟨b, off, rfl, fun j u hu => ?_⟩
    obtain ⟨a, ha, hc⟩ := h4 j u hu
    obtain rfl := Option.some.inj ha
    rw [Addr.add_lit] at hc
    exact hc

theorem Ow.sl {w : World} {base : Nat} {e : TypeId} {size : Nat} {v : Value} {n : Nat} {xs : List Value} (h : Ow w base e size v n xs) : Sl w size v n xs := by
  rcases h.2 with ⟨rfl, rfl⟩ | ⟨g, cap, cur, fr, rfl, hb, hg, hfr, hn, hm, hs, htake⟩
  · have : xs = [] := List.eq_nil_of_length_eq_zero (by simpa using h.1)
    subst this
    exact Sl.nil w size
  · refine ⟨some ⟨g, 0, none⟩, cap, rfl, hn, hm, h.1, by simp, fun j u hu => ⟨_, rfl, ?_⟩⟩
    exact h.cells (g := g) rfl j u hu

section
variable {w0 w : World} {R : List Row} {Q : List Rd}

theorem St.init (w : World) {Q : List Rd} (h : ∀ q ∈ Q, Sl w q.size q.v q.n q.xs) : St w w [] Q :=
  ⟨Below.refl _ _, by simp, by simp, h, by simp⟩
theorem St.refl (w : World) : St w w [] [] := St.init w (by simp)

theorem St.size (h : St w0 w R Q) : w0.heap.size ≤ w.heap.size := h.below.size

/-- New blocks alone: whatever was there reads as before. -/
theorem St.grow {w' : World} (h : St w0 w R Q) (hb : Below w.heap.size w w') : St w0 w' R Q where
  below := h.below.trans (hb.mono h.size)
  own r hr := by
    have := h.own r hr
    refine ⟨this.1, ?_⟩
    rcases this.2 with hn | ⟨g, cap, cur, fr, hv, hbg, hg, rest⟩
    · exact .inl hn
    · exact .inr ⟨g, cap, cur, fr, hv, hbg, by rw [hb.block g (Array.getElem?_eq_some_iff.1 hg).1]; exact hg, rest⟩
  sep := h.sep
  rd q hq := (h.rd q hq).below hb
  apart := h.apart

theorem St.alloc (h : St w0 w R Q) (o : Obj) : St w0 (w.alloc o) R Q := h.grow ((Below.refl _ _).alloc (Nat.le_refl _) o)
theorem St.drew (h : St w0 w R Q) : St w0 w.drew R Q := h.grow (Below.refl _ _).drew
theorem below_drewN' (w : World) (n : Nat) : Below w.heap.size w (w.drewN n) := ⟨rfl, rfl, rfl, Nat.le_refl _, fun _ _ => rfl⟩
theorem St.drewN (h : St w0 w R Q) (n : Nat) : St w0 (w.drewN n) R Q := h.grow (below_drewN' w n)

theorem St.sub (h : St w0 w R Q) {R' : List Row} {Q' : List Rd} (hR : R'.Sublist R) (hQ : ∀ q ∈ Q', q ∈ Q) : St w0 w R' Q' where
  below := h.below
  own r hr := h.own r (hR.subset hr)
  sep := h.sep.sublist hR
  rd q hq := h.rd q (hQ q hq)
  apart q hq r hr := h.apart q (hQ q hq) r (hR.subset hr)

theorem St.tail {r : Row} (h : St w0 w (r :: R) Q) : St w0 w R Q := h.sub (List.sublist_cons_self _ _) fun _ h => h
theorem St.tailQ {q : Rd} (h : St w0 w R (q :: Q)) : St w0 w R Q := h.sub (List.Sublist.refl _) fun _ h => List.mem_cons_of_mem _ h
theorem St.bare (h : St w0 w R Q) : St w0 w [] [] := h.sub (List.nil_sublist _) (by simp)
theorem St.noQ (h : St w0 w R Q) : St w0 w R [] := h.sub (List.Sublist.refl _) (by simp)
theorem St.head {r : Row} (h : St w0 w (r :: R) Q) : St w0 w [r] Q := h.sub (by simp) fun _ h => h

/-- What reads at the start reads on. -/
theorem St.addQ (h : St w0 w R Q) {q : Rd} (hq : Sl w0 q.size q.v q.n q.xs) : St w0 w R (q :: Q) where
  below := h.below
  own := h.own
  sep := h.sep
  rd p hp := by
    rcases List.mem_cons.1 hp with rfl | hp
    · exact hq.same fun hne b hb hlt => h.below.block b hlt
    · exact h.rd p hp
  apart p hp r hr hne b hb := by
    rcases List.mem_cons.1 hp with rfl | hp
    · intro hc
      have h1 := hq.lt hne hc
      have h2 := (h.own r hr).lt b hb
      omega
    · exact h.apart p hp r hr hne b hb

theorem St.old (h : St w0 w R Q) {size : Nat} {v : Value} {n : Nat} {xs : List Value} (hq : Sl w0 size v n xs) : Sl w size v n xs :=
  (h.addQ (q := ⟨v, size, n, xs⟩) hq).rd _ (List.mem_cons_self ..)

/-- What a callee leaves, laid beside what was there. -/
theorem St.call {w' : World} {R' : List Row} (h : St w0 w R Q) (hc : St w w' R' []) : St w0 w' (R' ++ R) Q := by
  have hg := h.grow hc.below
  refine ⟨hg.below, fun r hr => ?_, ?_, hg.rd, fun q hq r hr hne b hb => ?_⟩
  · rcases List.mem_append.1 hr with hr | hr
    · exact (hc.own r hr).mono h.size
    · exact hg.own r hr
  · refine List.pairwise_append.2 ⟨hc.sep, hg.sep, fun r hr s hs b hb he => ?_⟩
    have h1 := (hc.own r hr).lt b hb
    have h2 := (h.own s hs).lt b he
    omega
  · rcases List.mem_append.1 hr with hr | hr
    · intro he
      have h1 := (hc.own r hr).lt b hb
      have h2 := (h.rd q hq).lt hne he
      omega
    · exact hg.apart q hq r hr hne b hb

theorem St.call0 {w' : World} (h : St w0 w R Q) (hc : St w w' [] []) : St w0 w' R Q := h.grow hc.below
theorem St.call1 {w' : World} {r : Row} (h : St w0 w R Q) (hc : St w w' [r] []) : St w0 w' (r :: R) Q := h.call hc

/-- A row given to reading alone. -/
theorem St.freeze {r : Row} (h : St w0 w (r :: R) Q) : St w0 w R (⟨r.v, r.size, r.n, r.xs⟩ :: Q) where
  below := h.below
  own s hs := h.own s (List.mem_cons_of_mem _ hs)
  sep := (List.pairwise_cons.1 h.sep).2
  rd p hp := by
    rcases List.mem_cons.1 hp with rfl | hp
    · exact (h.own r (List.mem_cons_self ..)).sl
    · exact h.rd p hp
  apart p hp s hs hne b hb := by
    rcases List.mem_cons.1 hp with rfl | hp
    · intro he
      exact (List.pairwise_cons.1 h.sep).1 s hs b he hb
    · exact h.apart p hp s (List.mem_cons_of_mem _ hs) hne b hb

theorem St.sl {r : Row} (h : St w0 w R Q) (hr : r ∈ R) : Sl w r.size r.v r.n r.xs := (h.own r hr).sl
theorem St.sl0 {v : Value} {e : TypeId} {size n : Nat} {xs : List Value} (h : St w0 w (⟨v, e, size, n, xs⟩ :: R) Q) : Sl w size v n xs := h.sl (r := ⟨v, e, size, n, xs⟩) (List.mem_cons_self ..)
theorem St.sl1 {s : Row} {v : Value} {e : TypeId} {size n : Nat} {xs : List Value} (h : St w0 w (s :: ⟨v, e, size, n, xs⟩ :: R) Q) : Sl w size v n xs := h.sl (r := ⟨v, e, size, n, xs⟩) (by simp)
theorem St.sl2 {s t : Row} {v : Value} {e : TypeId} {size n : Nat} {xs : List Value} (h : St w0 w (t :: s :: ⟨v, e, size, n, xs⟩ :: R) Q) : Sl w size v n xs := h.sl (r := ⟨v, e, size, n, xs⟩) (by simp)
theorem St.q0 {v : Value} {size n : Nat} {xs : List Value} (h : St w0 w R (⟨v, size, n, xs⟩ :: Q)) : Sl w size v n xs := h.rd ⟨v, size, n, xs⟩ (by simp)
theorem St.q1 {p : Rd} {v : Value} {size n : Nat} {xs : List Value} (h : St w0 w R (p :: ⟨v, size, n, xs⟩ :: Q)) : Sl w size v n xs := h.rd ⟨v, size, n, xs⟩ (by simp)
theorem St.q2 {p q : Rd} {v : Value} {size n : Nat} {xs : List Value} (h : St w0 w R (p :: q :: ⟨v, size, n, xs⟩ :: Q)) : Sl w size v n xs := h.rd ⟨v, size, n, xs⟩ (by simp)

theorem St.swap {r s : Row} (h : St w0 w (r :: s :: R) Q) : St w0 w (s :: r :: R) Q where
  below := h.below
  own q hq := h.own q (by simp at hq ⊢; rcases hq with h | h | h <;> simp [h])
  sep := by
    have h1 := List.pairwise_cons.1 h.sep
    have h2 := List.pairwise_cons.1 h1.2
    refine List.pairwise_cons.2 ⟨fun q hq b hb => ?_, List.pairwise_cons.2 ⟨fun q hq => h1.1 q (by simp [hq]), h2.2⟩⟩
    rcases List.mem_cons.1 hq with rfl | hq
    · intro he; exact h1.1 s (by simp) b he hb
    · exact h2.1 q hq b hb
  rd := h.rd
  apart q hq t ht := h.apart q hq t (by simp at ht ⊢; rcases ht with h | h | h <;> simp [h])

/-- The head row turned into another one (an append, a store, a cut): what is in other blocks stays. -/
theorem St.turn {w' : World} {r r' : Row} (h : St w0 w (r :: R) Q) (hown : Ow w' w0.heap.size r'.e r'.size r'.v r'.n r'.xs)
    (hg : w.grownBy w' r.v.ownBlock) (hnew : ∀ b, r'.v.ownBlock = some b → r.v.ownBlock = some b ∨ w.heap.size ≤ b) : St w0 w' (r' :: R) Q := by
  have hr := h.own r (List.mem_cons_self ..)
  have hsep := List.pairwise_cons.1 h.sep
  have hbl : ∀ b, b < w0.heap.size → some b ≠ r.v.ownBlock := fun b hb he => by have := hr.lt b he.symm; omega
  refine ⟨⟨hg.os.trans h.below.os, hg.tape.trans h.below.tape, hg.output.trans h.below.output, Nat.le_trans h.size hg.size,
      fun k hk => (hg.block k (Nat.lt_of_lt_of_le hk h.size) (hbl k hk)).trans (h.below.block k hk)⟩, fun s hs => ?_, List.pairwise_cons.2 ⟨fun s hs b hb he => ?_, hsep.2⟩, fun q hq => ?_, fun q hq s hs hne b hb => ?_⟩
  · rcases List.mem_cons.1 hs with rfl | hs
    · exact hown
    · have h1 := h.own s (List.mem_cons_of_mem _ hs)
      refine h1.kept hg ?_
      cases hb : s.v.ownBlock with
      | none => exact .inl rfl
      | some b => exact .inr fun he => hsep.1 s hs b he.symm hb
  · rcases hnew b hb with h1 | h1
    · exact hsep.1 s hs b h1 he
    · have := (h.own s (List.mem_cons_of_mem _ hs)).lt b he; omega
  · refine (h.rd q hq).same fun hne b hb hlt => hg.block b hlt fun he => ?_
    exact h.apart q hq r (List.mem_cons_self ..) hne b he.symm hb
  · rcases List.mem_cons.1 hs with rfl | hs
    · intro he
      rcases hnew b hb with h1 | h1
      · exact h.apart q hq r (List.mem_cons_self ..) hne b h1 he
      · have := (h.rd q hq).lt hne he; omega
    · exact h.apart q hq s (List.mem_cons_of_mem _ hs) hne b hb
end


theorem St.cast {w0 w : World} {R : List Row} {Q : List Rd} {v : Value} {e : TypeId} {size n n' : Nat} {xs xs' : List Value} (h : St w0 w (⟨v, e, size, n, xs⟩ :: R) Q) (hn : n = n') (hx : xs = xs') :
    St w0 w (⟨v, e, size, n', xs'⟩ :: R) Q := by subst hn; subst hx; exact h
theorem St.nil (w : World) (e : TypeId) (size : Nat) : St w w [⟨.slice none 0 0, e, size, 0, []⟩] [] :=
  ⟨Below.refl _ _, by simp [Ow.nil], by simp, by simp, by simp⟩
/-- A nil slice may be appended to: it is a row of its own. -/
theorem St.addNil {w0 w : World} {R : List Row} {Q : List Rd} (h : St w0 w R Q) (e : TypeId) (size : Nat) : St w0 w (⟨.slice none 0 0, e, size, 0, []⟩ :: R) Q :=
  h.call1 ⟨Below.refl _ _, by simp [Ow.nil], by simp, by simp, by simp⟩

/-- append to a row that the call owns, from whatever source of which the first m elements read as 'news'. -/
theorem run_append_src {P : Program} {w : World} (base : Nat) (t u ty e : TypeId) (i : TypeInfo) (z : Value) (size bytes : Nat) (ht : P.underlying t = some (.slice e)) (U : TypeDesc) (hu : P.underlying u = some U) (hU : U = .string ∨ ∃ e', U = .slice e')
    (hi : P.info? e = some i) (hz : i.zero = some z) (hsize : i.size = size) (hby : i.bytes = bytes) (hzs : z.cells.size = size)
    (v : Value) (n : Nat) (xs : List Value) (hown : Ow w base e size v n xs)
    (x : Value) (m : Nat) (news : List Value) (hl : news.length = m * size) (hlen : ∀ w' : World, (Builtin.lenOf x).run P w' = .ok m w')
    (hfx : ∀ w' : World, w'.heap = w.heap → (Builtin.firstCells size m x).run P w' = .ok news.toArray w') (h1 : ∀ u ∈ news, u.oneCell' = true)
    (h63 : n + m ≤ maxLen) (hbytes : (n + m) * bytes ≤ 140737488355328) (hbase : base ≤ w.heap.size) :
    ∃ v' w', (Builtin.append_ #[t, u] ty #[v, x]).run P w = .ok v' w' ∧ Ow w' base e size v' (n + m) (xs ++ news) ∧ w.grownBy w' v.ownBlock ∧
      (∀ b, v'.ownBlock = some b → v.ownBlock = some b ∨ w.heap.size ≤ b) ∧ (v' = .slice none 0 0 ↔ v = .slice none 0 0 ∧ m = 0) := by
  subst hsize
  subst hby
  have hsmall : n + m ≤ 9223372036854775807 := by simp only [maxLen] at h63; omega
  have hlen' : (xs ++ news).length = (n + m) * i.size := by rw [List.length_append, hown.1, hl, Nat.add_mul]
  have grown : ∀ (old : Nat) (cells : Array Value), cells = (xs ++ news).toArray ++ Builtin.zeroCells z.cells (grownCap w (n + m) old e - (n + m)) → ∀ (row : Option Nat),
      Ow (w.drew.alloc (.cells cells e)) base e i.size
        (.slice (some ⟨w.heap.size, 0, none⟩) (n + m) (grownCap w (n + m) old e)) (n + m) (xs ++ news) ∧
      w.grownBy (w.drew.alloc (.cells cells e)) row := by
    intro old cells hcells row
    subst hcells
    have hge := grownCap_ge w (n + m) old e
    have hcm : grownCap w (n + m) old e ≤ maxLen := grownCap_le_maxLen w (n + m) old e h63
    refine ⟨⟨hlen', .inr ⟨w.heap.size, _, _, (0, 0), rfl, hbase, heap_alloc_new w.drew _, by simp, hge, hcm, ?_, ?_⟩⟩, ⟨rfl, rfl, rfl, by simp, fun k hk _ => Below.heap_alloc w.drew _ k hk⟩⟩
    · simp only [Array.size_append, List.size_toArray, size_zeroCells, hzs, hlen', ← Nat.add_mul]
      congr 1
      omega
    · simp only [Array.toList_append]
      rw [← hlen']
      exact List.take_left
  rcases hown.2 with ⟨rfl, rfl⟩ | ⟨g, cap, cur, fr, rfl, hbg, hg, hfr, hnc, hcm, hcs, htake⟩
  · have hx : xs = [] := List.eq_nil_of_length_eq_zero (by simpa using hown.1)
    subst hx
    by_cases hm : m = 0
    · subst hm
      have hn : news = [] := List.eq_nil_of_length_eq_zero (by simpa using hl)
      subst hn
      refine ⟨.slice none 0 0, w, ?_, Ow.nil w base e i.size, ⟨rfl, rfl, rfl, Nat.le_refl _, fun _ _ _ => rfl⟩, by simp [Value.ownBlock], by simp⟩
      rcases hU with rfl | ⟨e', rfl⟩ <;> simp [Builtin.append_, run_underlying ht, run_underlying hu, sizeOf, typeInfo, hi, hlen, hfx]
    · have h63' : ¬ (9223372036854775807 < (m : Int)) := by omega
      have h48' : ¬ (281474976710656 < Builtin.nextslicecap m 0 * i.bytes) := by rw [nextslicecap_zero (by omega)]; simp only [Nat.zero_add] at hbytes; omega
      have hgr := grown 0 _ rfl (Value.ownBlock (.slice none 0 0))
      simp only [Nat.zero_add, List.nil_append] at hgr ⊢
      refine ⟨.slice (some ⟨w.heap.size, 0, none⟩) m (grownCap w m 0 e), _, ?_, hgr.1, hgr.2, by simp [Value.ownBlock], by simp [hm]⟩
      have hf := hfx w.drew rfl
      rcases hU with rfl | ⟨e', rfl⟩ <;> simp [Builtin.append_, run_underlying ht, run_underlying hu, sizeOf, typeInfo, zeroValue, hi, hz, hlen, hm, h63', h48', Question.forced, run_firstCells_none, hf, newRow, grownCap]
  · by_cases hroom : n + m ≤ cap
    · have hfit : n * i.size + news.length ≤ cur.size := by rw [hl, hcs, ← Nat.add_mul]; exact Nat.mul_le_mul_right _ hroom
      have hst := run_storeCells_fr P g (n * i.size) e fr news 0 cur w hg hfr (by simpa using hfit) h1
      simp only [Nat.add_zero] at hst
      refine ⟨.slice (some ⟨g, 0, none⟩) (n + m) cap, w.setRow g (cur.toList.take (n * i.size) ++ news ++ cur.toList.drop (n * i.size + news.length)).toArray, ?_, ⟨hlen', .inr ⟨g, cap, _, fr, rfl, hbg, setRow_heap w g cur _ e _ hg, ?_, hroom, hcm, ?_, ?_⟩⟩, ⟨rfl, rfl, rfl, by simp, fun k _ hk => setRow_other w g k _ (fun e => hk (by simp [Value.ownBlock, e]))⟩, by simp [Value.ownBlock], by simp⟩
      · have hf := hfx w rfl
        rcases hU with rfl | ⟨e', rfl⟩ <;> simp [Builtin.append_, run_underlying ht, run_underlying hu, sizeOf, typeInfo, hi, hlen, hroom, hf, Addr.add_lit, hst]
      · intro k hk
        refine hfr k ?_
        simp only [List.size_toArray, List.length_append, List.length_take, List.length_drop, Array.length_toList] at hk
        omega
      · simp only [List.size_toArray, List.length_append, List.length_take, List.length_drop, Array.length_toList]
        omega
      · rw [htake, ← hlen']
        exact List.take_left
    · have holds : ∀ j u, xs[j]? = some u → w.cell? ((⟨g, 0, none⟩ : Addr).add j) = some u := hown.cells (g := g) rfl
      have h63' : ¬ (9223372036854775807 < ((n : Int) + (m : Int))) := by omega
      have hfit := growslice_fits (show cap < n + m by omega) hbytes
      have h48' : ¬ (281474976710656 < Builtin.nextslicecap (n + m) cap * i.bytes) := by omega
      have hf := hfx w.drew rfl
      have hfo := run_firstCells_some (P := P) w.drew i.size n ⟨g, 0, none⟩ n cap xs hown.1 (by simpa using holds)
      have hgr := grown cap _ rfl (Value.ownBlock (.slice (some ⟨g, 0, none⟩) n cap))
      refine ⟨.slice (some ⟨w.heap.size, 0, none⟩) (n + m) (grownCap w (n + m) cap e), _, ?_, hgr.1, hgr.2, by simp [Value.ownBlock], by simp⟩
      rcases hU with rfl | ⟨e', rfl⟩ <;> simp [Builtin.append_, run_underlying ht, run_underlying hu, sizeOf, typeInfo, zeroValue, hi, hz, hlen, hroom, h63', h48', Question.forced, hf, hfo, newRow, grownCap]
      all_goals (congr 2; apply Array.ext'; simp)

/-- Bytes as cells. -/
def bs (l : List UInt8) : List Value := l.map fun x => Value.int .u8 (x.toNat : Int)
theorem bs_len (l : List UInt8) : (bs l).length = l.length := by simp [bs]
theorem bs_app (l m : List UInt8) : bs (l ++ m) = bs l ++ bs m := by simp [bs]
theorem bs_cons (x : UInt8) (l : List UInt8) : bs (x :: l) = Value.int .u8 (x.toNat : Int) :: bs l := rfl
theorem bs_nil : bs [] = [] := rfl
theorem bs_one (l : List UInt8) : ∀ u ∈ bs l, u.oneCell' = true := by
  intro u hu
  obtain ⟨_, _, rfl⟩ := List.mem_map.1 hu
  rfl
theorem bs_get {l : List UInt8} {k : Nat} (h : k < l.length) : (bs l)[k]? = some (.int .u8 (l[k].toNat : Int)) := by simp [bs, h]

theorem lenOf_sl {P : Program} {w : World} {size : Nat} {x : Value} {m : Nat} {news : List Value} (hx : Sl w size x m news) (w' : World) : (Builtin.lenOf x).run P w' = .ok m w' := by
  obtain ⟨ao, cap, rfl, _⟩ := hx
  simp [Builtin.lenOf]

theorem firstCells_sl {P : Program} {w : World} {size : Nat} {x : Value} {m : Nat} {news : List Value} (hx : Sl w size x m news) (w' : World) (hw : w'.heap = w.heap) :
    (Builtin.firstCells size m x).run P w' = .ok news.toArray w' := by
  obtain ⟨ao, cap, rfl, hc1, hc2, hl, h0, hcell⟩ := hx
  cases ao with
  | none =>
    have : news = [] := List.eq_nil_of_length_eq_zero (by rw [hl, show m = 0 by have := h0 rfl; omega]; simp)
    subst this
    simp [Builtin.firstCells]
  | some a =>
    exact run_firstCells_some w' size m a m cap news hl fun j u hu => by
      obtain ⟨a', ha, hc⟩ := hcell j u hu
      obtain rfl := Option.some.inj ha
      rw [← hc]
      exact World.cell?_of_block (by rw [hw])

/-- THE WALK's LAW: append to the head row, from a slice that reads as cells. -/
theorem wpl_append {P : Program} {w0 w : World} {R : List Row} {Qs : List Rd} {ops : Array Oper} {rest : List Oper} {o : Oper} {a : Act} {Q : Exit → Act → World → Prop} (hgd : o.guard = none) (s x : Operand) (t : TypeId)
    (ho : o.op = .call { callee := .builtin .append, args := #[s, x], argTypes := #[t, t] })
    {v : Value} {e : TypeId} {size n : Nat} {xs : List Value} (hst : St w0 w (⟨v, e, size, n, xs⟩ :: R) Qs)
    (i : TypeInfo) (z : Value) (bytes : Nat) (ht : P.underlying t = some (.slice e)) (hi : P.info? e = some i) (hz : i.zero = some z)
    (hsize : i.size = size) (hby : i.bytes = bytes) (hzs : z.cells.size = size) (hs : a.eval s = v)
    {m : Nat} {news : List Value} (hx : Sl w size (a.eval x) m news) (h1 : ∀ u ∈ news, u.oneCell' = true)
    (h63 : n + m ≤ maxLen) (hbytes : (n + m) * bytes ≤ 140737488355328)
    (h : ∀ v' w', St w0 w' (⟨v', e, size, n + m, xs ++ news⟩ :: R) Qs → (v' = .slice none 0 0 ↔ v = .slice none 0 0 ∧ m = 0) → wpList P ops Q rest (a.put o.dst v') w') : wpList P ops Q (o :: rest) a w := by
  refine wpList_plain hgd fun K hK => ?_
  have hl : news.length = m * size := by obtain ⟨_, _, _, _, _, hl, _⟩ := hx; exact hl
  obtain ⟨v', w', hr, h2, h3, h4, h5⟩ := run_append_src (P := P) w0.heap.size t t o.type e i z size bytes ht (.slice e) ht (.inr ⟨_, rfl⟩) hi hz hsize hby hzs v n xs (hst.own _ (List.mem_cons_self ..)) (a.eval x) m news hl (lenOf_sl hx) (firstCells_sl hx) h1 h63 hbytes hst.size
  unfold Oper.wp execOp
  simp only [ho, resolve, invoke, builtin, Sem.run_bind, Sem.run_pure, Result.andThen_ok, List.map_toArray, List.map_cons, List.map_nil, hs, hr]
  exact hK _ _ (h v' w' (hst.turn h2 h3 h4) h5)

/-- The same from a string. -/
theorem wpl_append_str {P : Program} {w0 w : World} {R : List Row} {Qs : List Rd} {ops : Array Oper} {rest : List Oper} {o : Oper} {a : Act} {Q : Exit → Act → World → Prop} (hgd : o.guard = none) (s x : Operand) (t u : TypeId)
    (ho : o.op = .call { callee := .builtin .append, args := #[s, x], argTypes := #[t, u] })
    {v : Value} {e : TypeId} {n : Nat} {xs : List Value} (hst : St w0 w (⟨v, e, 1, n, xs⟩ :: R) Qs)
    (i : TypeInfo) (z : Value) (bytes : Nat) (ht : P.underlying t = some (.slice e)) (hu : P.underlying u = some .string) (hi : P.info? e = some i) (hz : i.zero = some z)
    (hsize : i.size = 1) (hby : i.bytes = bytes) (hzs : z.cells.size = 1) (hs : a.eval s = v)
    {str : ByteArray} (hx : a.eval x = .string str)
    (h63 : n + str.size ≤ maxLen) (hbytes : (n + str.size) * bytes ≤ 140737488355328)
    (h : ∀ v' w', St w0 w' (⟨v', e, 1, n + str.size, xs ++ str.data.toList.map (fun b => Value.int .u8 b.toNat)⟩ :: R) Qs → (v' = .slice none 0 0 ↔ v = .slice none 0 0 ∧ str.size = 0) → wpList P ops Q rest (a.put o.dst v') w') : wpList P ops Q (o :: rest) a w := by
  refine wpList_plain hgd fun K hK => ?_
  have hf : ∀ w' : World, w'.heap = w.heap → (Builtin.firstCells 1 str.size (.string str)).run P w' = .ok (str.data.toList.map (fun b => Value.int .u8 b.toNat)).toArray w' := by
    intro w' _
    have he : str.extract 0 str.size = str := by
      apply ByteArray.ext
      rw [ByteArray.data_extract, show str.size = str.data.size from rfl, Array.extract_size]
    simp only [Builtin.firstCells, Sem.run_pure, he]
    congr 1
    apply Array.ext'
    simp
  obtain ⟨v', w', hr, h2, h3, h4, h5⟩ := run_append_src (P := P) w0.heap.size t u o.type e i z 1 bytes ht .string hu (.inl rfl) hi hz hsize hby hzs v n xs (hst.own _ (List.mem_cons_self ..)) (.string str) str.size
    (str.data.toList.map (fun b => Value.int .u8 b.toNat)) (by rw [List.length_map, Array.length_toList, Nat.mul_one]; rfl) (fun w' => by simp [Builtin.lenOf]) hf (by simp [Value.oneCell']) h63 hbytes hst.size
  unfold Oper.wp execOp
  simp only [ho, resolve, invoke, builtin, Sem.run_bind, Sem.run_pure, Result.andThen_ok, List.map_toArray, List.map_cons, List.map_nil, hs, hx, hr]
  exact hK _ _ (h v' w' (hst.turn h2 h3 h4) h5)

/-- What the walk asks of a slice type: its element's row of the table. -/
structure El (P : Program) (t e : TypeId) (size bytes : Nat) : Prop where
  ht : P.underlying t = some (.slice e)
  hi : ∃ (i : TypeInfo) (z : Value), P.info? e = some i ∧ i.zero = some z ∧ i.size = size ∧ i.bytes = bytes ∧ z.cells.size = size
  hb : 1 ≤ bytes

theorem El.mk' {P : Program} {t e : TypeId} {z : Value} {size bytes : Nat} (ht : P.underlying t = some (.slice e)) (h : (P.info? e).map (fun i => (i.zero, i.size, i.bytes)) = some (some z, size, bytes)) (hz : z.cells.size = size) (hb : 1 ≤ bytes) : El P t e size bytes := by
  obtain ⟨i, h1, h2, h3, h4⟩ := info_parts h
  exact ⟨ht, ⟨i, z, h1, h2, h3, h4, hz⟩, hb⟩

theorem len_of_bytes {k bytes : Nat} (hb : 1 ≤ bytes) (h : k * bytes ≤ 140737488355328) : k ≤ maxLen := by
  have := Nat.le_mul_of_pos_right k hb
  unfold maxLen
  omega

theorem wpl_app {P : Program} {w0 w : World} {R : List Row} {Qs : List Rd} {ops : Array Oper} {rest : List Oper} {o : Oper} {a : Act} {Q : Exit → Act → World → Prop} (hgd : o.guard = none) (s x : Operand) (t : TypeId)
    (ho : o.op = .call { callee := .builtin .append, args := #[s, x], argTypes := #[t, t] })
    {v : Value} {e : TypeId} {size bytes n : Nat} (E : El P t e size bytes) {xs : List Value} (hst : St w0 w (⟨v, e, size, n, xs⟩ :: R) Qs) (hs : a.eval s = v)
    {m : Nat} {news : List Value} (hx : Sl w size (a.eval x) m news) (h1 : ∀ u ∈ news, u.oneCell' = true) (hbytes : (n + m) * bytes ≤ 140737488355328)
    (h : ∀ v' w', St w0 w' (⟨v', e, size, n + m, xs ++ news⟩ :: R) Qs → (v' = .slice none 0 0 ↔ v = .slice none 0 0 ∧ m = 0) → wpList P ops Q rest (a.put o.dst v') w') : wpList P ops Q (o :: rest) a w := by
  obtain ⟨i, z, h2, h3, h4, h5, h6⟩ := E.hi
  exact wpl_append hgd s x t ho hst i z bytes E.ht h2 h3 h4 h5 h6 hs hx h1 (len_of_bytes E.hb hbytes) hbytes h

theorem wpl_app_str {P : Program} {w0 w : World} {R : List Row} {Qs : List Rd} {ops : Array Oper} {rest : List Oper} {o : Oper} {a : Act} {Q : Exit → Act → World → Prop} (hgd : o.guard = none) (s x : Operand) (t u : TypeId)
    (ho : o.op = .call { callee := .builtin .append, args := #[s, x], argTypes := #[t, u] })
    {v : Value} {e : TypeId} {bytes n : Nat} (E : El P t e 1 bytes) (hu : P.underlying u = some .string) {xs : List Value} (hst : St w0 w (⟨v, e, 1, n, xs⟩ :: R) Qs) (hs : a.eval s = v)
    {str : ByteArray} (hx : a.eval x = .string str) (hbytes : (n + str.size) * bytes ≤ 140737488355328)
    (h : ∀ v' w', St w0 w' (⟨v', e, 1, n + str.size, xs ++ bs str.data.toList⟩ :: R) Qs → (v' = .slice none 0 0 ↔ v = .slice none 0 0 ∧ str.size = 0) → wpList P ops Q rest (a.put o.dst v') w') : wpList P ops Q (o :: rest) a w := by
  obtain ⟨i, z, h2, h3, h4, h5, h6⟩ := E.hi
  exact wpl_append_str hgd s x t u ho hst i z bytes E.ht hu h2 h3 h4 h5 h6 hs hx (len_of_bytes E.hb hbytes) hbytes h

/-- A slice made by a literal: a row of the call's own. -/
theorem St.made {w0 w : World} {R : List Row} {Q : List Rd} (h : St w0 w R Q) (cells : Array Value) (e : TypeId) (size n : Nat) (hn : cells.size = n * size) (hm : n ≤ maxLen) :
    St w0 (w.alloc (.cells cells e)) (⟨.slice (some ⟨w.heap.size, 0, none⟩) n n, e, size, n, cells.toList⟩ :: R) Q := by
  refine h.call1 ⟨(Below.refl _ _).alloc (Nat.le_refl _) _, fun r hr => ?_, by simp, by simp, by simp⟩
  obtain rfl := List.mem_singleton.1 hr
  refine ⟨by simpa using hn, .inr ⟨w.heap.size, n, cells, (0, 0), rfl, Nat.le_refl _, heap_alloc_new w _, by simp, Nat.le_refl _, hm, hn, ?_⟩⟩
  rw [List.take_of_length_le (by simp [hn])]

/-- The one new cell of 'append(out, x)'. -/
theorem Sl.one (w : World) (x : Value) (e : TypeId) : Sl (w.alloc (.cells #[x] e)) 1 (.slice (some ⟨w.heap.size, 0, none⟩) 1 1) 1 [x] := by
  refine ⟨_, _, rfl, by simp, by simp [maxLen], by simp, by simp, fun j u hu => ⟨_, rfl, ?_⟩⟩
  match j, hu with
  | 0, hu => simp at hu; subst hu; simp [Addr.add]
end Go.Mx
