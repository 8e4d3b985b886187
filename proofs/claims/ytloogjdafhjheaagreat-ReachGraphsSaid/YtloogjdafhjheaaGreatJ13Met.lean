/- Names met, as a map holds them. What is reached by names: the plain mathematics (no program in sight). The graph of commits: the plain mathematics (no program in sight). -/
import Derived.Test.YtloogjdafhjheaaGreatMapM
import Derived.Test.YtloogjdafhjheaaGreatSortP
namespace Go.Mx
open Go Go.RowKit
def memB (M : List ByteArray) (k : ByteArray) : Bool := M.any fun x => decide (x = k)
theorem memB_iff {M : List ByteArray} {k : ByteArray} : memB M k = true ↔ k ∈ M := by
  unfold memB
  rw [List.any_eq_true]
  constructor
  · rintro ⟨x, hx, he⟩; rw [← of_decide_eq_true he]; exact hx
  · intro h; exact ⟨k, h, by simp⟩
/-- Names met, as a map holds them. -/
def met (M : List ByteArray) : List Ent := M.map fun k => (k, .int .i64 1)
theorem mget_met (M : List ByteArray) (k : ByteArray) : mget (met M) k = if memB M k = true then some (.int .i64 1) else none := by
  induction M with
  | nil => rfl
  | cons x M ih =>
    show (if x = k then some (Value.int .i64 1) else mget (met M) k) = _
    rw [ih, show memB (x :: M) k = (decide (x = k) || memB M k) from rfl]
    by_cases h : x = k
    · rw [if_pos h, decide_eq_true h]; rfl
    · rw [if_neg h, decide_eq_false h, Bool.false_or]
theorem mset_met {M : List ByteArray} {k : ByteArray} (h : k ∉ M) : mset (met M) k (.int .i64 1) = met (M ++ [k]) := by
  rw [mset_none (by rw [mget_met, if_neg (by rw [memB_iff]; exact h)])]
  simp [met]
theorem nodup_sub {M K : List ByteArray} (hn : M.Nodup) (hs : ∀ m ∈ M, m ∈ K) : M.length ≤ K.length := by
  induction M generalizing K with
  | nil => simp
  | cons x M ih =>
    rw [List.nodup_cons] at hn
    obtain ⟨a, b, rfl⟩ := List.append_of_mem (hs x (by simp))
    have := ih hn.2 (K := a ++ b) (fun m hm => by
      have h1 := hs m (List.mem_cons_of_mem _ hm)
      rcases List.mem_append.1 h1 with h1 | h1
      · exact List.mem_append_left _ h1
      · rcases List.mem_cons.1 h1 with rfl | h1
        · exact absurd hm hn.1
        · exact List.mem_append_right _ h1)
    simp only [List.length_append, List.length_cons] at this ⊢
    omega
end Go.Mx

namespace Go.Mx
open Go Go.RowKit

/-- x is y, or named by one that y names, and so on. -/
inductive Rea (nb : ByteArray → List ByteArray) : ByteArray → ByteArray → Prop
  | refl (y : ByteArray) : Rea nb y y
  | step {x p y : ByteArray} (hp : p ∈ nb y) (ha : Rea nb x p) : Rea nb x y
theorem Rea.trans {nb : ByteArray → List ByteArray} {x y z : ByteArray} (h : Rea nb x y) (h2 : Rea nb y z) : Rea nb x z := by
  induction h2 with
  | refl => exact h
  | step h1 _ ih => exact .step h1 ih
/-- All that is reached from some names. -/
def CloN (nb : ByteArray → List ByteArray) (ids M : List ByteArray) : Prop := ∀ x, x ∈ M ↔ ∃ i ∈ ids, Rea nb x i
structure RJ (nb : ByteArray → List ByteArray) (ids Wk M : List ByteArray) : Prop where
  a : ∀ x, x ∈ M ∨ x ∈ Wk → ∃ i ∈ ids, Rea nb x i
  b : ∀ i ∈ ids, i ∈ M ∨ i ∈ Wk
  c : ∀ m ∈ M, ∀ p ∈ nb m, p ∈ M ∨ p ∈ Wk
  d : M.Nodup
theorem RJ.start (nb : ByteArray → List ByteArray) (ids : List ByteArray) : RJ nb ids ids [] :=
  ⟨fun x h => by
    rcases h with h | h
    · cases h
    · exact ⟨x, h, .refl x⟩, fun i h => .inr h, fun m h => (by cases h), List.nodup_nil⟩
/-- Names that are looked for twice: in any order, from any end. -/
theorem RJ.skip {nb : ByteArray → List ByteArray} {ids Wk Wk' M : List ByteArray} {x : ByteArray} (h : RJ nb ids Wk M) (hW : ∀ y, y ∈ Wk ↔ y = x ∨ y ∈ Wk') (hx : x ∈ M) : RJ nb ids Wk' M where
  a y hy := h.a y (by rcases hy with hy | hy; exact .inl hy; exact .inr ((hW y).2 (.inr hy)))
  b i hi := by
    rcases h.b i hi with h1 | h1
    · exact .inl h1
    · rcases (hW i).1 h1 with rfl | h1
      · exact .inl hx
      · exact .inr h1
  c m hm p hp := by
    rcases h.c m hm p hp with h1 | h1
    · exact .inl h1
    · rcases (hW p).1 h1 with rfl | h1
      · exact .inl hx
      · exact .inr h1
  d := h.d
theorem RJ.meet {nb : ByteArray → List ByteArray} {ids Wk Wk' Wk2 M : List ByteArray} {x : ByteArray} (h : RJ nb ids Wk M) (hW : ∀ y, y ∈ Wk ↔ y = x ∨ y ∈ Wk') (hx : x ∉ M) (hW2 : ∀ y, y ∈ Wk2 ↔ y ∈ Wk' ∨ y ∈ nb x) : RJ nb ids Wk2 (M ++ [x]) where
  a y hy := by
    have hxr : ∃ i ∈ ids, Rea nb x i := h.a x (.inr ((hW x).2 (.inl rfl)))
    rcases hy with hy | hy
    · rcases List.mem_append.1 hy with hy | hy
      · exact h.a y (.inl hy)
      · rw [List.mem_singleton.1 hy]; exact hxr
    · rcases (hW2 y).1 hy with hy | hy
      · exact h.a y (.inr ((hW y).2 (.inr hy)))
      · obtain ⟨i, hi, ha⟩ := hxr
        exact ⟨i, hi, Rea.trans (.step hy (.refl y)) ha⟩
  b i hi := by
    rcases h.b i hi with h1 | h1
    · exact .inl (List.mem_append_left _ h1)
    · rcases (hW i).1 h1 with rfl | h1
      · exact .inl (by simp)
      · exact .inr ((hW2 i).2 (.inl h1))
  c m hm p hp := by
    rcases List.mem_append.1 hm with hm | hm
    · rcases h.c m hm p hp with h1 | h1
      · exact .inl (List.mem_append_left _ h1)
      · rcases (hW p).1 h1 with rfl | h1
        · exact .inl (by simp)
        · exact .inr ((hW2 p).2 (.inl h1))
    · rw [List.mem_singleton.1 hm] at hp
      exact .inr ((hW2 p).2 (.inr hp))
  d := by
    rw [List.nodup_append]
    exact ⟨h.d, by simp, fun a ha b hb e => by rw [List.mem_singleton.1 hb] at e; exact hx (e ▸ ha)⟩
theorem RJ.done {nb : ByteArray → List ByteArray} {ids M : List ByteArray} (h : RJ nb ids [] M) : CloN nb ids M ∧ M.Nodup := by
  have hcl : ∀ {x y : ByteArray}, Rea nb x y → y ∈ M → x ∈ M := by
    intro x y ha
    induction ha with
    | refl => exact id
    | @step p y hp _ ih =>
      intro hy
      rcases h.c y hy p hp with h1 | h1
      · exact ih h1
      · cases h1
  refine ⟨fun x => ⟨fun hx => h.a x (.inl hx), fun ⟨i, hi, ha⟩ => hcl ha ?_⟩, h.d⟩
  rcases h.b i hi with h1 | h1
  · exact h1
  · cases h1
/-- What is met is reached. -/
theorem RJ.sub {nb : ByteArray → List ByteArray} {ids Wk M : List ByteArray} (h : RJ nb ids Wk M) : ∀ x ∈ M, ∃ i ∈ ids, Rea nb x i := fun x hx => h.a x (.inl hx)
/-- All that is reached lies among the names and what is named. -/
theorem rt_in {nb : ByteArray → List ByteArray} {ids U : List ByteArray} (h1 : ∀ i ∈ ids, i ∈ U) (h2 : ∀ y, ∀ p ∈ nb y, p ∈ U) {x i : ByteArray} (hi : i ∈ ids) (h : Rea nb x i) : x ∈ U := by
  have : ∀ {x y : ByteArray}, Rea nb x y → y ∈ U → x ∈ U := by
    intro x y ha
    induction ha with
    | refl => exact id
    | @step p y hp _ ih => exact fun _ => ih (h2 y p hp)
  exact this h (h1 i hi)
theorem CloN.eq {nb : ByteArray → List ByteArray} {ids M M' : List ByteArray} (h : CloN nb ids M) (h' : CloN nb ids M') : ∀ x, x ∈ M ↔ x ∈ M' := fun x => (h x).trans (h' x).symm
end Go.Mx

namespace Go.Mx
open Go Go.RowKit

/-- A commit: its name, its parents, its stamp. -/
abbrev Nd := ByteArray × List ByteArray × Int
def fnd : List Nd → ByteArray → Option (List ByteArray × Int)
  | [], _ => none
  | n :: L, k => if n.1 = k then some n.2 else fnd L k
def isIn (L : List Nd) (k : ByteArray) : Bool := (fnd L k).isSome
/-- x is y, or comes ahead of it by parents. -/
inductive Anc (L : List Nd) : ByteArray → ByteArray → Prop
  | refl (y : ByteArray) : Anc L y y
  | step {x p y : ByteArray} {n : List ByteArray × Int} (h : fnd L y = some n) (hp : p ∈ n.1) (ha : Anc L x p) : Anc L x y
/-- Each commit behind its parents, its stamp above theirs. -/
inductive WF : List Nd → Prop
  | nil : WF []
  | snoc {L : List Nd} {n : Nd} (h : WF L) (hn : fnd L n.1 = none) (hne : n.1 ≠ ByteArray.empty) (hs : Strict n.2.1) (hp : ∀ p ∈ n.2.1, ∃ m, fnd L p = some m ∧ m.2 < n.2.2) (h0 : 0 ≤ n.2.2) : WF (L ++ [n])

theorem fnd_app (L M : List Nd) (k : ByteArray) : fnd (L ++ M) k = (fnd L k).or (fnd M k) := by
  induction L with
  | nil => simp [fnd]
  | cons n L ih =>
    rw [List.cons_append, fnd, fnd, ih]
    split <;> simp
theorem fnd_old {L M : List Nd} {k : ByteArray} {n : List ByteArray × Int} (h : fnd L k = some n) : fnd (L ++ M) k = some n := by rw [fnd_app, h]; rfl
theorem fnd_mem {L : List Nd} {k : ByteArray} {n : List ByteArray × Int} (h : fnd L k = some n) : (k, n) ∈ L := by
  induction L with
  | nil => cases h
  | cons m L ih =>
    rw [fnd] at h
    split at h
    · rename_i hk
      cases h
      obtain ⟨m1, m2⟩ := m
      simp only at hk
      subst hk
      exact List.mem_cons_self ..
    · exact List.mem_cons_of_mem _ (ih h)

theorem Anc.trans {L : List Nd} {x y z : ByteArray} (h : Anc L x y) (h2 : Anc L y z) : Anc L x z := by
  induction h2 with
  | refl => exact h
  | step h1 h2 _ ih => exact .step h1 h2 ih
theorem Anc.grow {L M : List Nd} {x y : ByteArray} (h : Anc L x y) : Anc (L ++ M) x y := by
  induction h with
  | refl => exact .refl _
  | step h1 h2 _ ih => exact .step (fnd_old h1) h2 ih
/-- Parents are there, with stamps below. -/
theorem WF.par {L : List Nd} (h : WF L) : ∀ {y : ByteArray} {n : List ByteArray × Int}, fnd L y = some n → (∀ p ∈ n.1, ∃ m, fnd L p = some m ∧ m.2 < n.2) ∧ Strict n.1 ∧ 0 ≤ n.2 ∧ y ≠ ByteArray.empty := by
  induction h with
  | nil => intro y n h; cases h
  | @snoc L n h hn hne hs hp h0 ih =>
    intro y m hm
    rw [fnd_app] at hm
    cases hy : fnd L y with
    | some q =>
      rw [hy] at hm
      cases hm
      obtain ⟨i1, i2, i3, i4⟩ := ih hy
      exact ⟨fun p hp => by obtain ⟨r, hr, hl⟩ := i1 p hp; exact ⟨r, fnd_old hr, hl⟩, i2, i3, i4⟩
    | none =>
      rw [hy] at hm
      simp only [Option.none_or, fnd] at hm
      split at hm
      · rename_i hk
        cases hm
        subst hk
        exact ⟨fun p hpp => by obtain ⟨r, hr, hl⟩ := hp p hpp; exact ⟨r, fnd_old hr, hl⟩, hs, h0, hne⟩
      · cases hm
theorem Anc.mem {L : List Nd} (hw : WF L) {x y : ByteArray} (h : Anc L x y) : ∀ {n : List ByteArray × Int}, fnd L y = some n → ∃ m, fnd L x = some m ∧ (x = y ∨ m.2 < n.2) := by
  induction h with
  | refl => intro n hn; exact ⟨n, hn, .inl rfl⟩
  | @step p y q h1 h2 _ ih =>
    intro n hn
    rw [h1] at hn
    cases hn
    obtain ⟨r, hr, hl⟩ := (hw.par h1).1 p h2
    obtain ⟨m, hm, hx⟩ := ih hr
    refine ⟨m, hm, .inr ?_⟩
    rcases hx with rfl | hx
    · rw [hr] at hm; cases hm; exact hl
    · omega
theorem Anc.antisymm {L : List Nd} (hw : WF L) {x y : ByteArray} (h : Anc L x y) (h2 : Anc L y x) {n : List ByteArray × Int} (hn : fnd L y = some n) : x = y := by
  obtain ⟨m, hm, hx⟩ := h.mem hw hn
  rcases hx with rfl | hx
  · rfl
  · obtain ⟨n', hn', hy⟩ := h2.mem hw hm
    rw [hn] at hn'
    cases hn'
    rcases hy with rfl | hy
    · rfl
    · omega
theorem WF.init {K L : List Nd} {n : Nd} (h : WF K) (e : K = L ++ [n]) : WF L := by
  cases h with
  | nil => simp at e
  | snoc h _ _ _ _ _ =>
    have := List.append_inj' e rfl
    rw [← this.1]; exact h
/-- One that is new has none but its parents' behind it. -/
theorem anc_new {L : List Nd} {n : Nd} (hw : WF (L ++ [n])) (_hn : fnd L n.1 = none) {x y : ByteArray} (h : Anc (L ++ [n]) x y) (hy : ∃ q, fnd L y = some q) : Anc L x y := by
  induction h with
  | refl => exact .refl _
  | @step p y q h1 h2 _ ih =>
    obtain ⟨m, hm⟩ := hy
    have h3 := fnd_old (M := [n]) hm
    rw [h1] at h3
    cases h3
    obtain ⟨r, hr, _⟩ := (hw.par h1).1 p h2
    refine .step hm h2 (ih ?_)
    rw [fnd_app] at hr
    cases hp : fnd L p with
    | some z => exact ⟨z, rfl⟩
    | none =>
      exfalso
      rw [hp] at hr
      simp only [Option.none_or, fnd] at hr
      split at hr
      · rename_i hk
        -- a parent of an old one is old: by its place
        have hwL : WF L := hw.init rfl
        obtain ⟨r2, hr2, _⟩ := (hwL.par hm).1 p h2
        rw [hp] at hr2
        cases hr2
      · cases hr

/-- A set of names that bears what is met from some. -/
def Clo (L : List Nd) (ids M : List ByteArray) : Prop := (∀ i ∈ ids, ∃ n, fnd L i = some n) ∧ ∀ x, x ∈ M ↔ ∃ i ∈ ids, Anc L x i
structure RI (L : List Nd) (ids Wk M : List ByteArray) : Prop where
  a : ∀ x, x ∈ M ∨ x ∈ Wk → ∃ i ∈ ids, Anc L x i
  b : ∀ i ∈ ids, i ∈ M ∨ i ∈ Wk
  c : ∀ m ∈ M, ∃ n, fnd L m = some n ∧ ∀ p ∈ n.1, p ∈ M ∨ p ∈ Wk
  d : M.Nodup
theorem RI.start (L : List Nd) (ids : List ByteArray) : RI L ids ids [] :=
  ⟨fun x h => by
    rcases h with h | h
    · cases h
    · exact ⟨x, h, .refl x⟩, fun i h => .inr h, fun m h => (by cases h), List.nodup_nil⟩
theorem RI.skip {L : List Nd} {ids Wk M : List ByteArray} {x : ByteArray} (h : RI L ids (Wk ++ [x]) M) (hx : x ∈ M) : RI L ids Wk M where
  a y hy := h.a y (by rcases hy with hy | hy; exact .inl hy; exact .inr (List.mem_append_left _ hy))
  b i hi := by
    rcases h.b i hi with h1 | h1
    · exact .inl h1
    · rcases List.mem_append.1 h1 with h1 | h1
      · exact .inr h1
      · rw [List.mem_singleton.1 h1]; exact .inl hx
  c m hm := by
    obtain ⟨n, hn, hp⟩ := h.c m hm
    refine ⟨n, hn, fun p hpp => ?_⟩
    rcases hp p hpp with h1 | h1
    · exact .inl h1
    · rcases List.mem_append.1 h1 with h1 | h1
      · exact .inr h1
      · rw [List.mem_singleton.1 h1]; exact .inl hx
  d := h.d
theorem RI.meet {L : List Nd} {ids Wk M : List ByteArray} {x : ByteArray} {n : List ByteArray × Int} (h : RI L ids (Wk ++ [x]) M) (hx : x ∉ M) (hn : fnd L x = some n) : RI L ids (Wk ++ n.1) (M ++ [x]) where
  a y hy := by
    rcases hy with hy | hy
    · rcases List.mem_append.1 hy with hy | hy
      · exact h.a y (.inl hy)
      · rw [List.mem_singleton.1 hy]; exact h.a x (.inr (by simp))
    · rcases List.mem_append.1 hy with hy | hy
      · exact h.a y (.inr (List.mem_append_left _ hy))
      · obtain ⟨i, hi, ha⟩ := h.a x (.inr (by simp))
        exact ⟨i, hi, Anc.trans (.step hn hy (.refl y)) ha⟩
  b i hi := by
    rcases h.b i hi with h1 | h1
    · exact .inl (List.mem_append_left _ h1)
    · rcases List.mem_append.1 h1 with h1 | h1
      · exact .inr (List.mem_append_left _ h1)
      · exact .inl (List.mem_append_right _ h1)
  c m hm := by
    rcases List.mem_append.1 hm with hm | hm
    · obtain ⟨q, hq, hp⟩ := h.c m hm
      refine ⟨q, hq, fun p hpp => ?_⟩
      rcases hp p hpp with h1 | h1
      · exact .inl (List.mem_append_left _ h1)
      · rcases List.mem_append.1 h1 with h1 | h1
        · exact .inr (List.mem_append_left _ h1)
        · exact .inl (List.mem_append_right _ h1)
    · rw [List.mem_singleton.1 hm]
      exact ⟨n, hn, fun p hpp => .inr (List.mem_append_right _ hpp)⟩
  d := by
    rw [List.nodup_append]
    exact ⟨h.d, by simp, fun a ha b hb e => by rw [List.mem_singleton.1 hb] at e; exact hx (e ▸ ha)⟩
theorem RI.done {L : List Nd} {ids M : List ByteArray} (h : RI L ids [] M) : Clo L ids M ∧ M.Nodup := by
  have hcl : ∀ {x y : ByteArray}, Anc L x y → y ∈ M → x ∈ M := by
    intro x y ha
    induction ha with
    | refl => exact id
    | @step p y q h1 h2 _ ih =>
      intro hy
      obtain ⟨n, hn, hp⟩ := h.c y hy
      rw [h1] at hn
      cases hn
      rcases hp p h2 with h3 | h3
      · exact ih h3
      · cases h3
  refine ⟨⟨fun i hi => ?_, fun x => ⟨fun hx => h.a x (.inl hx), fun ⟨i, hi, ha⟩ => ?_⟩⟩, h.d⟩
  · rcases h.b i hi with h1 | h1
    · obtain ⟨n, hn, _⟩ := h.c i h1; exact ⟨n, hn⟩
    · cases h1
  · rcases h.b i hi with h1 | h1
    · exact hcl ha h1
    · cases h1
/-- One that is not there: then one of the names is not there. -/
theorem RI.lost {L : List Nd} (hw : WF L) {ids Wk M : List ByteArray} {x : ByteArray} (h : RI L ids (Wk ++ [x]) M) (hx : fnd L x = none) : ∃ i ∈ ids, fnd L i = none := by
  obtain ⟨i, hi, ha⟩ := h.a x (.inr (by simp))
  refine ⟨i, hi, ?_⟩
  cases hf : fnd L i with
  | none => rfl
  | some n =>
    obtain ⟨m, hm, _⟩ := ha.mem hw hf
    rw [hx] at hm
    cases hm

/-- How many rounds are still to come at most. -/
def wt (M : List ByteArray) (n : Nd) : Nat := if memB M n.1 = true then 0 else 1 + n.2.1.length
def mu (L : List Nd) (M Wk : List ByteArray) : Nat := (L.map (wt M)).sum + Wk.length
theorem wt_mono (M : List ByteArray) (x : ByteArray) (n : Nd) : wt (M ++ [x]) n ≤ wt M n := by
  unfold wt
  by_cases h : memB M n.1 = true
  · rw [if_pos h, if_pos (memB_iff.2 (List.mem_append_left _ (memB_iff.1 h)))]
    exact Nat.le_refl _
  · rw [if_neg h]
    split <;> omega
theorem sum_le {L : List Nd} {f g : Nd → Nat} (h : ∀ n, f n ≤ g n) : (L.map f).sum ≤ (L.map g).sum := by
  induction L with
  | nil => simp
  | cons n L ih => rw [List.map_cons, List.sum_cons, List.map_cons, List.sum_cons]; have := h n; omega
theorem mu_meet {L : List Nd} {M Wk : List ByteArray} {x : ByteArray} {n : List ByteArray × Int} (hx : x ∉ M) (hn : fnd L x = some n) : mu L (M ++ [x]) (Wk ++ n.1) < mu L M (Wk ++ [x]) := by
  have hs : (L.map (wt (M ++ [x]))).sum + (1 + n.1.length) ≤ (L.map (wt M)).sum := by
    induction L with
    | nil => cases hn
    | cons m L ih =>
      rw [List.map_cons, List.sum_cons, List.map_cons, List.sum_cons]
      rw [fnd] at hn
      split at hn
      · rename_i hk
        have h1 := sum_le (L := L) (wt_mono M x)
        have h2 : wt M m = 1 + n.1.length := by
          unfold wt
          rw [if_neg (by rw [memB_iff, hk]; exact hx)]
          cases hn
          rfl
        have h3 : wt (M ++ [x]) m = 0 := by
          unfold wt
          rw [if_pos (memB_iff.2 (by rw [hk]; simp))]
        omega
      · have := ih hn
        have h1 := wt_mono M x m
        omega
  unfold mu
  simp only [List.length_append, List.length_cons, List.length_nil]
  omega
theorem mu_skip {L : List Nd} {M Wk : List ByteArray} {x : ByteArray} : mu L M Wk < mu L M (Wk ++ [x]) := by
  unfold mu
  simp
theorem mu_start (L : List Nd) (ids : List ByteArray) : mu L [] ids ≤ (L.map fun n => 1 + n.2.1.length).sum + ids.length := by
  unfold mu
  have := sum_le (L := L) (f := wt []) (g := fun n => 1 + n.2.1.length) (fun n => by unfold wt; split <;> omega)
  omega
end Go.Mx
