/- A region that draws its order: an operation may be taken first if number t waits for it by way of others. -/
import Derived.Test.YtloogjdafhjheaaDoorHeld
namespace Go.Mx
open Go Go.RowKit
section
variable {P : Program} {md : Region.Mode} {ops : Array Oper} {Q : Exit → Act → World → Prop} {t : Nat} {S : World → Prop}
/-- Which operations wait for number i, by way of others. -/
def downs (md : Region.Mode) (ops : Array Oper) (i : Nat) : Nat → List Nat → List Nat
  | 0, D => D
  | n + 1, D => downs md ops i n (match ops[ops.size - (n + 1)]? with
    | some o => if o.after.any (fun e => Region.binds md e && (e.on == i || D.contains e.on)) = true then (ops.size - (n + 1)) :: D else D
    | none => D)
/-- Each of them is not listed yet, and waits for i or for another of them. -/
def downB (md : Region.Mode) (ops : Array Oper) (listed : Array Bool) (i : Nat) (D : List Nat) : Bool :=
  D.all fun k => !listed.getD k true && match ops[k]? with
    | some o => o.after.any fun e => Region.binds md e && (e.on == i || D.contains e.on)
    | none => false
theorem downB_spec {listed : Array Bool} {i : Nat} {D : List Nat} (h : downB md ops listed i D = true) : (∀ k ∈ D, listed.getD k true = false) ∧ ∀ k ∈ D, ∀ o, ops[k]? = some o → ∃ e ∈ o.after, Region.binds md e = true ∧ (e.on = i ∨ e.on ∈ D) := by
  have h1 := List.all_eq_true.1 h
  refine ⟨fun k hk => ?_, fun k hk o ho => ?_⟩
  · have := h1 k hk
    rw [Bool.and_eq_true] at this
    simpa using this.1
  · have := h1 k hk
    rw [Bool.and_eq_true] at this
    have h2 := this.2
    rw [ho] at h2
    simp only [Array.any_eq_true'] at h2
    obtain ⟨e, he, hb⟩ := h2
    rw [Bool.and_eq_true, Bool.or_eq_true] at hb
    exact ⟨e, he, hb.1, by simpa using hb.2⟩
theorem wpAnyS_firstD {i : Nat} {oi : Oper} {v : Value} {D : List Nat} (hi : ops[i]? = some oi) (hsel : ∀ (j : Nat) (o : Oper) cs b, ops[j]? = some o → o.op ≠ .select cs b)
    (hit : i ≠ t) (htD : t ∈ D) (hD : ∀ k ∈ D, ∀ o, ops[k]? = some o → ∃ e ∈ o.after, Region.binds md e = true ∧ (e.on = i ∨ e.on ∈ D))
    (hQ : ∀ c a w, Q (.panic c) (a.put oi.dst v) w → Q (.panic c) a w) :
    ∀ (fuel : Nat) (listed : Array Bool) (a : Act) (w : World),
      (∀ j oj, ops[j]? = some oj → j ≠ i → listed.getD j true = false → (∀ e ∈ oj.after, Region.binds md e = true → e.on ≠ i) → oi.apart ops oj = true) →
      i ∈ Region.ready md ops listed → (∀ k ∈ D, listed.getD k true = false) → YieldsIf P ops S oi v a → S w →
      wpAnyS P md ops Q t S fuel (listed.setIfInBounds i true) (a.put oi.dst v) w → wpAnyS P md ops Q t S (fuel + 1) listed a w := by
  intro fuel
  induction fuel with
  | zero =>
    intro listed a w _ hr _ hy hS H
    refine ⟨fun h => (by rw [h] at hr; cases hr), fun j hj => ?_⟩
    by_cases hji : j = i
    · subst hji; exact hy.wpOp hi hS ⟨fun _ => hS, H⟩
    · have := ready_mono hj hji
      rw [H.1] at this
      cases this
  | succ fuel ih =>
    intro listed a w hfree hr hlt hy hS H
    refine ⟨fun h => (by rw [h] at hr; cases hr), fun j hj => ?_⟩
    by_cases hji : j = i
    · subst hji; exact hy.wpOp hi hS ⟨fun _ => hS, H⟩
    · have h1 := H.2 j (ready_mono hj hji)
      obtain ⟨hjun, oj, hoj, hall⟩ := mem_ready.1 hj
      have hi0 := (mem_ready.1 hr).1
      have hun : ∀ k, (k = i ∨ k ∈ D) → listed.getD k false = false := by
        intro k hk
        have hk0 : listed.getD k true = false := by
          rcases hk with rfl | hk
          · exact hi0
          · exact hlt k hk
        rcases Nat.lt_or_ge k listed.size with h' | h'
        · simp [h'] at hk0 ⊢; exact hk0
        · simp [Array.getElem?_eq_none h'] at hk0
      have hnot : ∀ e ∈ oj.after, Region.binds md e = true → e.on ≠ i := fun e he hb heq => by
        have h1 := hall e he hb
        rw [heq, hun i (.inl rfl)] at h1
        cases h1
      have hjD : j ∉ D := by
        intro hjD
        obtain ⟨e, he, hb, hon⟩ := hD j hjD oj hoj
        have h1 := hall e he hb
        rw [hun e.on hon] at h1
        cases h1
      have h2 := wpOp_putIf hoj (hfree j oj hoj hji hjun hnot) (fun cs b => hsel i oi cs b hi) (fun cs b => hsel j oj cs b hoj) hQ hy h1
      have hfree' : ∀ k ok, ops[k]? = some ok → k ≠ i → (listed.setIfInBounds j true).getD k true = false →
          (∀ e ∈ ok.after, Region.binds md e = true → e.on ≠ i) → oi.apart ops ok = true := fun k ok hk hki hun hno => by
        refine hfree k ok hk hki ?_ hno
        by_cases hjk : j = k
        · subst hjk; exact hjun
        · rw [getD_set_ne true hjk] at hun; exact hun
      have hlt' : ∀ k ∈ D, (listed.setIfInBounds j true).getD k true = false := fun k hk => by
        have hjk : j ≠ k := fun e => by subst e; exact hjD hk
        rw [getD_set_ne true hjk]
        exact hlt k hk
      refine wpOp_mono (fun a' w' h3 => ?_) h2
      obtain ⟨h3y, h3S, h3w⟩ := h3
      have hSw : S w' := h3S (by
        have hjt : j ≠ t := fun e => by subst e; exact hjD htD
        rw [getD_set_ne true hjt, getD_set_ne true hit]
        exact hlt t htD)
      refine ⟨fun _ => hSw, ih (listed.setIfInBounds j true) a' w' hfree' (ready_mono hr (Ne.symm hji)) hlt' h3y hSw ?_⟩
      rw [Array.setIfInBounds_comm _ _ hji]
      exact h3w
/-- Take number i of a list first: number t waits for it by way of others. -/
theorem wpAnyS_takeD {l : List Oper} {i : Nat} {oi : Oper} {v : Value} {fuel : Nat} {listed : Array Bool} {a : Act} {w : World} (hi : l[i]? = some oi)
    (hs : Region.noSelect l.toArray = true) (hf : Region.free md l.toArray listed i = true) (hr : (Region.ready md l.toArray listed).contains i = true)
    (hD : ((downs md l.toArray i l.toArray.size []).contains t && downB md l.toArray listed i (downs md l.toArray i l.toArray.size [])) = true) (hit : (i != t) = true)
    (hQ : ∀ c a w, Q (.panic c) (a.put oi.dst v) w → Q (.panic c) a w) (hy : YieldsIf P l.toArray S oi v a) (hS : S w)
    (h : wpAnyS P md l.toArray Q t S fuel (listed.setIfInBounds i true) (a.put oi.dst v) w) : wpAnyS P md l.toArray Q t S (fuel + 1) listed a w := by
  rw [Bool.and_eq_true] at hD
  obtain ⟨h1, h2⟩ := downB_spec hD.2
  exact wpAnyS_firstD (by simpa using hi) (Region.noSelect_spec hs) (by simpa using hit) (by simpa using hD.1) h2 hQ fuel listed a w (Region.free_spec (by simpa using hi) hf) (by simpa using hr) h1 hy hS h
end
end Go.Mx
