/- The stable sort of Go's library: the plain mathematics (no program in sight). Keys are whole numbers. -/
import Derived.Test.YtojbdlbcaoeffaaSortP
namespace Go.Mx
open Go Go.RowKit

def gv (l : List ByteArray) (i : Nat) : ByteArray := l.getD i ByteArray.empty
theorem gv_eq {l : List ByteArray} {i : Nat} (h : i < l.length) : gv l i = l[i] := by unfold gv; rw [List.getD_eq_getElem?_getD, List.getElem?_eq_getElem h]; rfl
/-- The keys rise from a to b. -/
def Rise (f : ByteArray → Int) (l : List ByteArray) (a b : Nat) : Prop := ∀ i j, a ≤ i → i < j → j < b → f (gv l i) ≤ f (gv l j)
/-- Where keys are alike, the names stand in order. -/
def EE (f : ByteArray → Int) (l : List ByteArray) : Prop := ∀ i j, i < j → j < l.length → f (gv l i) = f (gv l j) → lt (gv l i) (gv l j) = true
/-- Moved within a .. b: only places there, nothing lost, alike ones stay in order. -/
structure Mov (f : ByteArray → Int) (l l' : List ByteArray) (a b : Nat) : Prop where
  perm : l'.Perm l
  idx : ∃ σ : Nat → Nat, (∀ i, i < a ∨ b ≤ i → σ i = i) ∧ (∀ i, a ≤ i → i < b → a ≤ σ i ∧ σ i < b) ∧ ∀ i, gv l' i = gv l (σ i)
  ee : EE f l → EE f l'
theorem Mov.refl (f : ByteArray → Int) (l : List ByteArray) (a b : Nat) : Mov f l l a b := ⟨List.Perm.refl _, ⟨id, fun _ _ => rfl, fun _ h1 h2 => ⟨h1, h2⟩, fun _ => rfl⟩, id⟩
theorem Mov.trans {f : ByteArray → Int} {l l' l'' : List ByteArray} {a b a' b' : Nat} (h : Mov f l l' a b) (h' : Mov f l' l'' a' b') (ha : a ≤ a') (hb : b' ≤ b) : Mov f l l'' a b := by
  obtain ⟨σ, h1, h2, h3⟩ := h.idx
  obtain ⟨τ, k1, k2, k3⟩ := h'.idx
  refine ⟨h'.perm.trans h.perm, ⟨fun i => σ (τ i), fun i hi => ?_, fun i hi hi2 => ?_, fun i => by rw [k3, h3]⟩, fun he => h'.ee (h.ee he)⟩
  · show σ (τ i) = i
    rw [k1 i (by omega), h1 i hi]
  · show a ≤ σ (τ i) ∧ σ (τ i) < b
    by_cases hq : a' ≤ i ∧ i < b'
    · obtain ⟨q1, q2⟩ := k2 i hq.1 hq.2
      exact h2 _ (by omega) (by omega)
    · rw [k1 i (by omega)]
      exact h2 i hi hi2
theorem Mov.wide {f : ByteArray → Int} {l l' : List ByteArray} {a b a' b' : Nat} (h : Mov f l l' a' b') (ha : a ≤ a') (hb : b' ≤ b) : Mov f l l' a b := (Mov.refl f l a b).trans h ha hb
theorem Mov.len {f : ByteArray → Int} {l l' : List ByteArray} {a b : Nat} (h : Mov f l l' a b) : l'.length = l.length := h.perm.length_eq
/-- What lies outside keeps rising. -/
theorem Mov.rise {f : ByteArray → Int} {l l' : List ByteArray} {a b c d : Nat} (h : Mov f l l' a b) (hr : Rise f l c d) (ho : d ≤ a ∨ b ≤ c) : Rise f l' c d := by
  obtain ⟨σ, h1, h2, h3⟩ := h.idx
  intro i j hi hij hj
  rw [h3, h3, h1 i (by omega), h1 j (by omega)]
  exact hr i j hi hij hj
/-- Two halves, each risen within itself, the lower one's below the upper one's. -/
def Halves (f : ByteArray → Int) (l : List ByteArray) (a m b : Nat) : Prop := ∀ i j, a ≤ i → i < m → m ≤ j → j < b → f (gv l i) ≤ f (gv l j)
theorem Mov.halves {f : ByteArray → Int} {l l' : List ByteArray} {a m b c d : Nat} (h : Mov f l l' c d) (hh : Halves f l a m b) (ho : (a ≤ c ∧ d ≤ m) ∨ (m ≤ c ∧ d ≤ b)) : Halves f l' a m b := by
  obtain ⟨σ, h1, h2, h3⟩ := h.idx
  have hs : ∀ i, (a ≤ i ∧ i < m → a ≤ σ i ∧ σ i < m) ∧ (m ≤ i ∧ i < b → m ≤ σ i ∧ σ i < b) := by
    intro i
    by_cases hq : c ≤ i ∧ i < d
    · have := h2 i hq.1 hq.2; omega
    · have := h1 i (by omega); omega
  intro i j hi him hmj hj
  rw [h3, h3]
  have p := (hs i).1 ⟨hi, him⟩
  have q := (hs j).2 ⟨hmj, hj⟩
  exact hh _ _ p.1 p.2 q.1 q.2
theorem rise_of {f : ByteArray → Int} {l : List ByteArray} {a m b : Nat} (h1 : Rise f l a m) (h2 : Rise f l m b) (hh : Halves f l a m b) : Rise f l a b := by
  intro i j hi hij hj
  by_cases hjm : j < m
  · exact h1 i j hi hij hjm
  · by_cases him : i < m
    · exact hh i j hi him (by omega) hj
    · exact h2 i j (by omega) hij hj

/-- Where place i's one stood before s .. m and m .. e changed places. -/
def rotI (s m e i : Nat) : Nat := if i < s then i else if i < s + (e - m) then i + (m - s) else if i < e then i - (e - m) else i
structure Rot (l l' : List ByteArray) (s m e : Nat) : Prop where
  perm : l'.Perm l
  at' : ∀ i, gv l' i = gv l (rotI s m e i)
theorem rot_mov {f : ByteArray → Int} {l l' : List ByteArray} {s m e : Nat} (h : Rot l l' s m e) (hsm : s ≤ m) (hme : m ≤ e) (hinv : ∀ i j, s ≤ i → i < m → m ≤ j → j < e → f (gv l j) < f (gv l i)) (he : e ≤ l.length) : Mov f l l' s e where
  perm := h.perm
  idx := ⟨rotI s m e, fun i hi => by unfold rotI; split <;> (try split) <;> (try split) <;> omega, fun i h1 h2 => by unfold rotI; split <;> (try split) <;> (try split) <;> omega, h.at'⟩
  ee hee i j hij hj hf := by
    rw [h.perm.length_eq] at hj
    rw [h.at', h.at'] at hf ⊢
    have key : (rotI s m e i < rotI s m e j ∧ rotI s m e j < l.length) ∨ (s ≤ rotI s m e j ∧ rotI s m e j < m ∧ m ≤ rotI s m e i ∧ rotI s m e i < e) := by
      unfold rotI
      split <;> (try split) <;> (try split) <;> (try split) <;> (try split) <;> (try split) <;> omega
    rcases key with ⟨k1, k2⟩ | ⟨k1, k2, k3, k4⟩
    · exact hee _ _ k1 k2 hf
    · have := hinv _ _ k1 k2 k3 k4
      omega
/-- One that goes up by steps past those that are less (a, then a + 1 .. i). -/
theorem rot_keys {f : ByteArray → Int} {l l' : List ByteArray} {s m e : Nat} (h : Rot l l' s m e) (i : Nat) : f (gv l' i) = f (gv l (rotI s m e i)) := by rw [h.at']
theorem rot_rise {f : ByteArray → Int} {l l' : List ByteArray} {a s m e b : Nat} (h : Rot l l' s m e) (has : a ≤ s) (hsm : s ≤ m) (hme : m ≤ e) (heb : e ≤ b) (h1 : Rise f l a m) (h2 : Rise f l m b)
    (hA : s = a ∨ e = b ∨ f (gv l (s - 1)) ≤ f (gv l e)) (hB : s = m ∨ e = m ∨ f (gv l (e - 1)) < f (gv l s)) :
    Rise f l' a s ∧ Rise f l' s (s + (e - m)) ∧ Rise f l' (s + (e - m)) e ∧ Rise f l' e b ∧ Halves f l' a (s + (e - m)) b ∧ (∀ i j, s ≤ i → i < m → m ≤ j → j < e → f (gv l j) < f (gv l i)) := by
  have k := rot_keys (f := f) h
  have le1 : ∀ i j, a ≤ i → i ≤ j → j < m → f (gv l i) ≤ f (gv l j) := fun i j hi hij hj => by
    rcases Nat.lt_or_ge i j with hl | hl
    · exact h1 i j hi hl hj
    · rw [show i = j by omega]; omega
  have le2 : ∀ i j, m ≤ i → i ≤ j → j < b → f (gv l i) ≤ f (gv l j) := fun i j hi hij hj => by
    rcases Nat.lt_or_ge i j with hl | hl
    · exact h2 i j hi hl hj
    · rw [show i = j by omega]; omega
  have r1 : ∀ i, i < s → rotI s m e i = i := fun i hi => by unfold rotI; rw [if_pos hi]
  have r2 : ∀ i, s ≤ i → i < s + (e - m) → rotI s m e i = i + (m - s) := fun i hi h2 => by unfold rotI; rw [if_neg (by omega), if_pos h2]
  have r3 : ∀ i, s + (e - m) ≤ i → i < e → rotI s m e i = i - (e - m) := fun i hi h2 => by unfold rotI; rw [if_neg (by omega), if_neg (by omega), if_pos h2]
  have r4 : ∀ i, e ≤ i → rotI s m e i = i := fun i hi => by unfold rotI; split <;> (try split) <;> (try split) <;> omega
  have hinv : ∀ i j, s ≤ i → i < m → m ≤ j → j < e → f (gv l j) < f (gv l i) := fun i j hi him hmj hj => by
    have q1 := le1 s i has hi him
    have q2 := le2 j (e - 1) hmj (by omega) (by omega)
    omega
  have hcr : ∀ i j, a ≤ i → i < s → e ≤ j → j < b → f (gv l i) ≤ f (gv l j) := fun i j hi his hej hj => by
    have q1 := le1 i (s - 1) hi (by omega) (by omega)
    have q2 := le2 e j (by omega) hej hj
    omega
  refine ⟨fun i j hi hij hj => ?_, fun i j hi hij hj => ?_, fun i j hi hij hj => ?_, fun i j hi hij hj => ?_, fun i j hi him hmj hj => ?_, hinv⟩
  · rw [k, k, r1 i (by omega), r1 j hj]; exact le1 i j hi (by omega) (by omega)
  · rw [k, k, r2 i hi (by omega), r2 j (by omega) hj]; exact le2 _ _ (by omega) (by omega) (by omega)
  · rw [k, k, r3 i hi (by omega), r3 j (by omega) hj]; exact le1 _ _ (by omega) (by omega) (by omega)
  · rw [k, k, r4 i hi, r4 j (by omega)]; exact le2 _ _ (by omega) (by omega) hj
  · rw [k, k]
    by_cases h1 : i < s
    · rw [r1 i h1]
      by_cases h2 : j < e
      · rw [r3 j hmj h2]; exact le1 _ _ hi (by omega) (by omega)
      · rw [r4 j (by omega)]; exact hcr i j hi h1 (by omega) hj
    · rw [r2 i (by omega) him]
      by_cases h2 : j < e
      · rw [r3 j hmj h2]; have := hinv (j - (e - m)) (i + (m - s)) (by omega) (by omega) (by omega) (by omega); omega
      · rw [r4 j (by omega)]; exact le2 _ _ (by omega) (by omega) hj
/-- Places a .. a + n and b .. b + n changed. -/
def swI (a b n i : Nat) : Nat := if a ≤ i ∧ i < a + n then i - a + b else if b ≤ i ∧ i < b + n then i - b + a else i
structure Swp (l l' : List ByteArray) (a b n : Nat) : Prop where
  perm : l'.Perm l
  at' : ∀ i, gv l' i = gv l (swI a b n i)
theorem Swp.zero (l : List ByteArray) (a b : Nat) : Swp l l a b 0 := ⟨List.Perm.refl _, fun i => by unfold swI; rw [if_neg (by omega), if_neg (by omega)]⟩
theorem gv_set {l : List ByteArray} {k : Nat} {x : ByteArray} (hk : k < l.length) (i : Nat) : gv (l.set k x) i = if i = k then x else gv l i := by
  unfold gv
  rw [List.getD_eq_getElem?_getD, List.getElem?_set, List.getD_eq_getElem?_getD]
  by_cases h : k = i
  · subst h; simp [hk]
  · rw [if_neg h, if_neg (Ne.symm h)]
theorem Swp.step {l l' : List ByteArray} {a b n : Nat} (h : Swp l l' a b n) (hab : a + n < b) (hb : b + n < l.length) : Swp l ((l'.set (a + n) (gv l' (b + n))).set (b + n) (gv l' (a + n))) a b (n + 1) where
  perm := by
    have hl := h.perm.length_eq
    rw [gv_eq (by omega), gv_eq (by omega)]
    exact (List.set_set_perm (by omega) (by omega)).trans h.perm
  at' i := by
    have hl := h.perm.length_eq
    rw [gv_set (by rw [List.length_set]; omega), gv_set (by omega), h.at', h.at', h.at']
    unfold swI
    by_cases h1 : i = b + n
    · subst h1
      rw [if_pos rfl]
      congr 1
      split <;> (try split) <;> (try split) <;> (try split) <;> omega
    · rw [if_neg h1]
      by_cases h2 : i = a + n
      · subst h2
        rw [if_pos rfl]
        congr 1
        split <;> (try split) <;> (try split) <;> (try split) <;> omega
      · rw [if_neg h2]
        congr 1
        split <;> (try split) <;> (try split) <;> (try split) <;> omega
/-- One step of the rotation: the longer side is on the left. -/
theorem rot_left {l l1 l2 : List ByteArray} {m i j : Nat} (hi : i ≤ m) (hij : j < i) (h : Swp l l1 (m - i) m j) (h2 : Rot l1 l2 (m - (i - j)) m (m + j)) : Rot l l2 (m - i) m (m + j) where
  perm := h2.perm.trans h.perm
  at' k := by
    rw [h2.at', h.at']
    congr 1
    unfold swI rotI
    (repeat' split) <;> omega
theorem rot_right {l l1 l2 : List ByteArray} {m i j : Nat} (hi : i ≤ m) (hij : i < j) (h : Swp l l1 (m - i) (m + j - i) i) (h2 : Rot l1 l2 (m - i) m (m + (j - i))) : Rot l l2 (m - i) m (m + j) where
  perm := h2.perm.trans h.perm
  at' k := by
    rw [h2.at', h.at']
    congr 1
    unfold swI rotI
    (repeat' split) <;> omega
theorem rot_even {l l2 : List ByteArray} {m i : Nat} (hi : i ≤ m) (h : Swp l l2 (m - i) m i) : Rot l l2 (m - i) m (m + i) where
  perm := h.perm
  at' k := by
    rw [h.at']
    congr 1
    unfold swI rotI
    (repeat' split) <;> omega
end Go.Mx
