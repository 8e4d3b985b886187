/- A region that draws its order and whose last operations write what its first ones read: what is read is held up to operation number t, for which all readings are waited. -/
import Derived.Test.YtloogjdafhjheaaDoorBox
import Derived.OrdersHeld
import Derived.StillTail
import Derived.Deep.RegionHeld3
namespace Go.Mx
open Go Go.RowKit

section
variable {P : Program} {md : Region.Mode} {ops : Array Oper} {Q : Exit → Act → World → Prop} {t : Nat} {S : World → Prop}

def wpAnyS (P : Program) (md : Region.Mode) (ops : Array Oper) (Q : Exit → Act → World → Prop) (t : Nat) (S : World → Prop) : Nat → Array Bool → Act → World → Prop
  | 0, listed, a, w => Region.ready md ops listed = [] ∧ Q .normal a w
  | fuel + 1, listed, a, w =>
    (Region.ready md ops listed = [] → Q .normal a w) ∧
    ∀ i ∈ Region.ready md ops listed, wpOp P ops Q i (fun a' w' => ((listed.setIfInBounds i true).getD t true = false → S w') ∧ wpAnyS P md ops Q t S fuel (listed.setIfInBounds i true) a' w') a w

theorem wpAny_of_S : ∀ (fuel : Nat) (listed : Array Bool) (a : Act) (w : World), wpAnyS P md ops Q t S fuel listed a w → wpAny P md ops Q fuel listed a w
  | 0, _, _, _, h => h
  | fuel + 1, _, _, _, h => ⟨h.1, fun i hi => wpOp_mono (fun a' w' h' => wpAny_of_S fuel _ a' w' h'.2) (h.2 i hi)⟩

theorem getD_set_self {listed : Array Bool} {i j : Nat} (h : i ≠ j) : (listed.setIfInBounds i true).getD j true = listed.getD j true := getD_set_ne true h

theorem wpAnyS_first {i : Nat} {oi : Oper} {v : Value} (hi : ops[i]? = some oi) (hsel : ∀ (j : Nat) (o : Oper) cs b, ops[j]? = some o → o.op ≠ .select cs b)
    (hit : i ≠ t) (hwt : Region.waitsFor md ops t i = true)
    (hQ : ∀ c a w, Q (.panic c) (a.put oi.dst v) w → Q (.panic c) a w) :
    ∀ (fuel : Nat) (listed : Array Bool) (a : Act) (w : World),
      (∀ j oj, ops[j]? = some oj → j ≠ i → listed.getD j true = false → (∀ e ∈ oj.after, Region.binds md e = true → e.on ≠ i) → oi.apart ops oj = true) →
      i ∈ Region.ready md ops listed → listed.getD t true = false → YieldsIf P ops S oi v a → S w →
      wpAnyS P md ops Q t S fuel (listed.setIfInBounds i true) (a.put oi.dst v) w → wpAnyS P md ops Q t S (fuel + 1) listed a w := by
  intro fuel
  induction fuel with
  | zero =>
    intro listed a w _ hr _ hy hS H
    refine ⟨fun h => (by rw [h] at hr; cases hr), fun j hj => ?_⟩
    by_cases hji : j = i
    · subst hji; exact hy.wpOp hi hS ⟨fun _ => hS, H⟩
    · have := ready_mono hj hji
      rw [H.1] at this
      cases this
  | succ fuel ih =>
    intro listed a w hfree hr hlt hy hS H
    refine ⟨fun h => (by rw [h] at hr; cases hr), fun j hj => ?_⟩
    by_cases hji : j = i
    · subst hji; exact hy.wpOp hi hS ⟨fun _ => hS, H⟩
    · have h1 := H.2 j (ready_mono hj hji)
      obtain ⟨hjun, oj, hoj, hall⟩ := mem_ready.1 hj
      have hi0 := (mem_ready.1 hr).1
      have hi1 : listed.getD i false = false := by
        rcases Nat.lt_or_ge i listed.size with h' | h'
        · simp [h'] at hi0 ⊢; exact hi0
        · simp [Array.getElem?_eq_none h'] at hi0
      have hnot : ∀ e ∈ oj.after, Region.binds md e = true → e.on ≠ i := fun e he hb heq => by
        have h1 := hall e he hb
        rw [heq, hi1] at h1
        cases h1
      have hjt : j ≠ t := by
        rintro rfl
        obtain ⟨ot, hot, e, he, hb, hon⟩ := Region.waitsFor_spec hwt
        obtain rfl : ot = oj := Option.some.inj (hot.symm.trans hoj)
        exact hnot e he hb hon
      have h2 := wpOp_putIf hoj (hfree j oj hoj hji hjun hnot) (fun cs b => hsel i oi cs b hi) (fun cs b => hsel j oj cs b hoj) hQ hy h1
      have hfree' : ∀ k ok, ops[k]? = some ok → k ≠ i → (listed.setIfInBounds j true).getD k true = false →
          (∀ e ∈ ok.after, Region.binds md e = true → e.on ≠ i) → oi.apart ops ok = true := fun k ok hk hki hun hno => by
        refine hfree k ok hk hki ?_ hno
        by_cases hjk : j = k
        · subst hjk; exact hjun
        · rw [getD_set_ne true hjk] at hun; exact hun
      have hlt' : (listed.setIfInBounds j true).getD t true = false := by rw [getD_set_ne true hjt]; exact hlt
      refine wpOp_mono (fun a' w' h3 => ?_) h2
      obtain ⟨h3y, h3S, h3w⟩ := h3
      have hSw : S w' := h3S (by rw [getD_set_ne true hjt, getD_set_ne true hit]; exact hlt)
      refine ⟨fun _ => hSw, ih (listed.setIfInBounds j true) a' w' hfree' (ready_mono hr (Ne.symm hji)) hlt' h3y hSw ?_⟩
      rw [Array.setIfInBounds_comm _ _ hji]
      exact h3w

/-- Take number i first. -/
theorem wpAnyS_take {i : Nat} {oi : Oper} {v : Value} {fuel : Nat} {listed : Array Bool} {a : Act} {w : World} (hi : ops[i]? = some oi)
    (hs : Region.noSelect ops = true) (hf : Region.free md ops listed i = true) (hr : (Region.ready md ops listed).contains i = true) (hwt : Region.waitsFor md ops t i = true) (hit : (i != t) = true) (hlt : listed.getD t true = false)
    (hQ : ∀ c a w, Q (.panic c) (a.put oi.dst v) w → Q (.panic c) a w) (hy : YieldsIf P ops S oi v a) (hS : S w)
    (h : wpAnyS P md ops Q t S fuel (listed.setIfInBounds i true) (a.put oi.dst v) w) : wpAnyS P md ops Q t S (fuel + 1) listed a w :=
  wpAnyS_first hi (Region.noSelect_spec hs) (by simpa using hit) hwt hQ fuel listed a w (Region.free_spec hi hf) (by simpa using hr) hlt hy hS h

def AllS (P : Program) (md : Region.Mode) (ops : Array Oper) (Q : Exit → Act → World → Prop) (t : Nat) (S : World → Prop) (fuel : Nat) (listed : Array Bool) (a : Act) (w : World) (rs : List Nat) : Prop :=
  ∀ i ∈ rs, wpOp P ops Q i (fun a' w' => ((listed.setIfInBounds i true).getD t true = false → S w') ∧ wpAnyS P md ops Q t S fuel (listed.setIfInBounds i true) a' w') a w
theorem AllS.nil {fuel : Nat} {listed : Array Bool} {a : Act} {w : World} : AllS P md ops Q t S fuel listed a w [] := fun _ h => by cases h
theorem AllS.cons {fuel : Nat} {listed : Array Bool} {a : Act} {w : World} {i : Nat} {o : Oper} {rs : List Nat} (ho : ops[i]? = some o)
    (h : ∀ K' : Act → World → Prop, Hid (∀ a w, S w → (S w → wpAnyS P md ops Q t S fuel (listed.setIfInBounds i true) a w) → K' a w) → if Region.wanted o (yielded ops a.tmps) = true then Oper.wp P o a w K' Q else K' (a.put o.dst undef) w)
    (hs : AllS P md ops Q t S fuel listed a w rs) : AllS P md ops Q t S fuel listed a w (i :: rs) := fun j hj => by
  rcases List.mem_cons.1 hj with rfl | hj
  · unfold wpOp
    rw [ho]
    have := h (fun a' w' => ((listed.setIfInBounds j true).getD t true = false → S w') ∧ wpAnyS P md ops Q t S fuel (listed.setIfInBounds j true) a' w') (fun a w hS hw => ⟨fun _ => hS, hw hS⟩)
    simp only []
    split
    · rename_i hwd; rw [if_pos hwd] at this; exact .inl this
    · rename_i hwd; rw [if_neg hwd] at this; exact this
  · exact hs j hj
theorem wpAnyS_ready {rs : List Nat} {fuel : Nat} {listed : Array Bool} {a : Act} {w : World} (hr : Region.ready md ops listed = rs) (hne : rs ≠ [])
    (h : AllS P md ops Q t S fuel listed a w rs) : wpAnyS P md ops Q t S (fuel + 1) listed a w :=
  ⟨fun h0 => absurd (hr ▸ h0) hne, hr ▸ h⟩
theorem wp_region_S (t : Nat) (S : World → Prop) {id : Nat} {a : Act} {w : World} (hm : P.follows .mixedOrders = true)
    (hS : S w.drew) (h : S w.drew → wpAnyS P .any ops Q t S ops.size (Array.replicate ops.size false) a w.drew) : (Code.region id ops true).wp P Q a w :=
  wp_region_any hm (wpAny_of_S _ _ _ _ (h hS))

theorem wpAnyS_of_seq : ∀ (l : List Oper) (k : Nat) (listed : Array Bool) (a : Act) (w : World), (∀ j, l[j]? = ops[k + j]?) →
    Region.seqB md ops l.length k listed = true → listed.getD t true = true ∨ k = t → wpList P ops Q l a w → wpAnyS P md ops Q t S l.length listed a w
  | [], _, _, _, _, _, hB, _, h => ⟨by simpa [Region.seqB] using hB, h⟩
  | o :: l, k, listed, a, w, hl, hB, hk, h => by
    have h0 : ops[k]? = some o := by simpa using (hl 0).symm
    simp only [List.length_cons, Region.seqB, Bool.and_eq_true, decide_eq_true_eq] at hB
    have ht : (listed.setIfInBounds k true).getD t true = true := by
      by_cases hkt : k = t
      · subst hkt
        rcases Nat.lt_or_ge k listed.size with h' | h'
        · simp [h']
        · simp [Array.getElem?_eq_none (show (listed.setIfInBounds k true).size ≤ k by simpa using h')]
      · rw [getD_set_ne true hkt]
        exact hk.resolve_right hkt
    refine ⟨fun h1 => (by rw [hB.1] at h1; cases h1), fun i hi => ?_⟩
    rw [hB.1] at hi
    obtain rfl : i = k := by simpa using hi
    have hw : wpOp P ops Q i (wpList P ops Q l) a w := by unfold wpOp; simp only [h0]; exact h
    exact wpOp_mono (fun a' w' h' => ⟨fun hf => (by rw [ht] at hf; cases hf), wpAnyS_of_seq l (i + 1) _ a' w' (fun j => by have := hl (j + 1); simpa [Nat.add_assoc, Nat.add_comm 1 j] using this) hB.2 (.inl ht) h'⟩) hw
/-- What is left is a list. -/
theorem wpAnyS_seq {l : List Oper} {fuel : Nat} {listed : Array Bool} {a : Act} {w : World} (hf : (l.drop t).length = fuel) (hB : Region.seqB md l.toArray fuel t listed = true)
    (h : wpList P l.toArray Q (l.drop t) a w) : wpAnyS P md l.toArray Q t S fuel listed a w := by
  subst hf
  exact wpAnyS_of_seq (l.drop t) t listed a w (fun j => by simp [List.getElem?_drop]) hB (.inr rfl) h
/-- The same moves over a list of operations. -/
theorem wpAnyS_takeL {l : List Oper} {i : Nat} {oi : Oper} {v : Value} {fuel : Nat} {listed : Array Bool} {a : Act} {w : World} (hi : l[i]? = some oi)
    (hs : Region.noSelect l.toArray = true) (hf : Region.free md l.toArray listed i = true) (hr : (Region.ready md l.toArray listed).contains i = true) (hwt : Region.waitsFor md l.toArray t i = true) (hit : (i != t) = true) (hlt : listed.getD t true = false)
    (hQ : ∀ c a w, Q (.panic c) (a.put oi.dst v) w → Q (.panic c) a w) (hy : YieldsIf P l.toArray S oi v a) (hS : S w)
    (h : wpAnyS P md l.toArray Q t S fuel (listed.setIfInBounds i true) (a.put oi.dst v) w) : wpAnyS P md l.toArray Q t S (fuel + 1) listed a w :=
  wpAnyS_take (by simpa using hi) hs hf hr hwt hit hlt hQ hy hS h
theorem AllS.consL {l : List Oper} {fuel : Nat} {listed : Array Bool} {a : Act} {w : World} {i : Nat} {o : Oper} {rs : List Nat} (ho : l[i]? = some o)
    (h : ∀ K' : Act → World → Prop, Hid (∀ a w, S w → (S w → wpAnyS P md l.toArray Q t S fuel (listed.setIfInBounds i true) a w) → K' a w) → if Region.wanted o (yielded l.toArray a.tmps) = true then Oper.wp P o a w K' Q else K' (a.put o.dst undef) w)
    (hs : AllS P md l.toArray Q t S fuel listed a w rs) : AllS P md l.toArray Q t S fuel listed a w (i :: rs) := AllS.cons (by simpa using ho) h hs
/-- An operation that yields in whatever world may be taken first, though number t does not wait for it. -/
theorem wpAnyS_firstW {i : Nat} {oi : Oper} {v : Value} (hi : ops[i]? = some oi) (hsel : ∀ (j : Nat) (o : Oper) cs b, ops[j]? = some o → o.op ≠ .select cs b) (hit : i ≠ t)
    (hQ : ∀ c a w, Q (.panic c) (a.put oi.dst v) w → Q (.panic c) a w) :
    ∀ (fuel : Nat) (listed : Array Bool) (a : Act) (w : World),
      (∀ j oj, ops[j]? = some oj → j ≠ i → listed.getD j true = false → (∀ e ∈ oj.after, Region.binds md e = true → e.on ≠ i) → oi.apart ops oj = true) →
      i ∈ Region.ready md ops listed → YieldsIf P ops (fun _ => True) oi v a → (listed.getD t true = false → S w) →
      wpAnyS P md ops Q t S fuel (listed.setIfInBounds i true) (a.put oi.dst v) w → wpAnyS P md ops Q t S (fuel + 1) listed a w := by
  intro fuel
  induction fuel with
  | zero =>
    intro listed a w _ hr hy hS H
    refine ⟨fun h => (by rw [h] at hr; cases hr), fun j hj => ?_⟩
    by_cases hji : j = i
    · subst hji; exact hy.wpOp hi trivial ⟨fun h => hS (by rwa [getD_set_ne true hit] at h), H⟩
    · have := ready_mono hj hji
      rw [H.1] at this
      cases this
  | succ fuel ih =>
    intro listed a w hfree hr hy hS H
    refine ⟨fun h => (by rw [h] at hr; cases hr), fun j hj => ?_⟩
    by_cases hji : j = i
    · subst hji; exact hy.wpOp hi trivial ⟨fun h => hS (by rwa [getD_set_ne true hit] at h), H⟩
    · have h1 := H.2 j (ready_mono hj hji)
      obtain ⟨hjun, oj, hoj, hall⟩ := mem_ready.1 hj
      have hi0 := (mem_ready.1 hr).1
      have hi1 : listed.getD i false = false := by
        rcases Nat.lt_or_ge i listed.size with h' | h'
        · simp [h'] at hi0 ⊢; exact hi0
        · simp [Array.getElem?_eq_none h'] at hi0
      have hnot : ∀ e ∈ oj.after, Region.binds md e = true → e.on ≠ i := fun e he hb heq => by
        have h1 := hall e he hb
        rw [heq, hi1] at h1
        cases h1
      have h2 := wpOp_putIf hoj (hfree j oj hoj hji hjun hnot) (fun cs b => hsel i oi cs b hi) (fun cs b => hsel j oj cs b hoj) hQ hy h1
      have hfree' : ∀ k ok, ops[k]? = some ok → k ≠ i → (listed.setIfInBounds j true).getD k true = false →
          (∀ e ∈ ok.after, Region.binds md e = true → e.on ≠ i) → oi.apart ops ok = true := fun k ok hk hki hun hno => by
        refine hfree k ok hk hki ?_ hno
        by_cases hjk : j = k
        · subst hjk; exact hjun
        · rw [getD_set_ne true hjk] at hun; exact hun
      refine wpOp_mono (fun a' w' h3 => ?_) h2
      obtain ⟨h3y, h3S, h3w⟩ := h3
      have hSw : (listed.setIfInBounds j true).getD t true = false → S w' := fun h => h3S (by rw [Array.setIfInBounds_comm _ _ (Ne.symm hji), getD_set_ne true hit]; exact h)
      refine ⟨hSw, ih (listed.setIfInBounds j true) a' w' hfree' (ready_mono hr (Ne.symm hji)) h3y hSw ?_⟩
      rw [Array.setIfInBounds_comm _ _ hji]
      exact h3w
theorem wpAnyS_takeW {l : List Oper} {i : Nat} {oi : Oper} {v : Value} {fuel : Nat} {listed : Array Bool} {a : Act} {w : World} (hi : l[i]? = some oi)
    (hs : Region.noSelect l.toArray = true) (hf : Region.free md l.toArray listed i = true) (hr : (Region.ready md l.toArray listed).contains i = true) (hit : (i != t) = true)
    (hQ : ∀ c a w, Q (.panic c) (a.put oi.dst v) w → Q (.panic c) a w) (hy : YieldsIf P l.toArray (fun _ => True) oi v a) (hS : S w)
    (h : wpAnyS P md l.toArray Q t S fuel (listed.setIfInBounds i true) (a.put oi.dst v) w) : wpAnyS P md l.toArray Q t S (fuel + 1) listed a w :=
  wpAnyS_firstW (by simpa using hi) (Region.noSelect_spec hs) (by simpa using hit) hQ fuel listed a w (Region.free_spec (by simpa using hi) hf) (by simpa using hr) hy (fun _ => hS) h
end
theorem St.rot {w0 w : World} {r : Row} {R : List Row} {Q : List Rd} (h : St w0 w (r :: R) Q) : St w0 w (R ++ [r]) Q := h.perm (List.perm_append_comm (l₁ := [r]) (l₂ := R))
end Go.Mx
