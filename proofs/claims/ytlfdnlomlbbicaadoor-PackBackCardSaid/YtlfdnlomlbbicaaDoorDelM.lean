/- Deltas made: plain facts. -/
import Derived.Test.YtlfdnlomlbbicaaDoorJ1WireP
namespace Go.Mx
open Go

/-- How many bytes two lists begin with alike. -/
def lcp : List UInt8 → List UInt8 → Nat
  | x :: a, y :: b => if x = y then lcp a b + 1 else 0
  | _, _ => 0
theorem lcp_le_left : ∀ a b, lcp a b ≤ a.length
  | [], _ => by simp [lcp]
  | _ :: _, [] => by simp [lcp]
  | x :: a, y :: b => by rw [lcp]; split <;> simp; exact lcp_le_left a b
theorem lcp_le_right : ∀ a b, lcp a b ≤ b.length
  | [], _ => by simp [lcp]
  | _ :: _, [] => by simp [lcp]
  | x :: a, y :: b => by rw [lcp]; split <;> simp; exact lcp_le_right a b
theorem lcp_take : ∀ a b : List UInt8, a.take (lcp a b) = b.take (lcp a b)
  | [], b => by simp [lcp]
  | _ :: _, [] => by simp [lcp]
  | x :: a, y :: b => by
    rw [lcp]
    split
    · rename_i h; subst h; rw [List.take_succ_cons, List.take_succ_cons, lcp_take a b]
    · simp
/-- Alike so far, and alike at the next place or not. -/
theorem lcp_ge : ∀ {a b : List UInt8} {k : Nat}, k ≤ a.length → k ≤ b.length → (a.take k = b.take k) → k ≤ lcp a b
  | _, _, 0, _, _, _ => Nat.zero_le _
  | [], _, k + 1, h, _, _ => by simp at h
  | _ :: _, [], k + 1, _, h, _ => by simp at h
  | x :: a, y :: b, k + 1, h1, h2, h => by
    rw [List.take_succ_cons, List.take_succ_cons] at h
    simp only [List.cons.injEq] at h
    rw [lcp, if_pos h.1]
    have := lcp_ge (a := a) (b := b) (k := k) (by simpa using h1) (by simpa using h2) h.2
    omega
theorem lcp_stop {a b : List UInt8} {k : Nat} (h : a.take k = b.take k) (hk : k ≤ a.length) (hk' : k ≤ b.length) (hs : ∀ (h1 : k < a.length) (h2 : k < b.length), a[k] ≠ b[k]) : lcp a b = k := by
  have h1 := lcp_ge hk hk' h
  have h2 := lcp_le_left a b
  have h3 := lcp_le_right a b
  rcases Nat.lt_or_eq_of_le h1 with h4 | h4
  · exfalso
    have ht := lcp_take a b
    have e : (a.take (lcp a b))[k]? = (b.take (lcp a b))[k]? := by rw [ht]
    rw [List.getElem?_take, List.getElem?_take, if_pos h4, if_pos h4, List.getElem?_eq_getElem (by omega), List.getElem?_eq_getElem (by omega)] at e
    exact hs (by omega) (by omega) (Option.some.inj e)
  · exact h4.symm

/-- The longest piece of the base that a text begins with, among the first i places: where, how long. -/
def mtR (base t : List UInt8) : Nat → Nat × Nat
  | 0 => (0, 0)
  | i + 1 => if (mtR base t i).2 < lcp (base.drop i) t then (i, lcp (base.drop i) t) else mtR base t i
def mtP (base t : List UInt8) : Nat := (mtR base t base.length).1
def mtN (base t : List UInt8) : Nat := (mtR base t base.length).2

theorem mtR_skip {base t : List UInt8} {i j : Nat} (hij : i ≤ j) (h : ∀ k, i ≤ k → k < j → lcp (base.drop k) t ≤ (mtR base t i).2) : mtR base t j = mtR base t i := by
  induction j with
  | zero => have : i = 0 := by omega
            subst this; rfl
  | succ j ih =>
    by_cases hj : i = j + 1
    · subst hj; rfl
    · have e := ih (by omega) (fun k h1 h2 => h k h1 (by omega))
      have hh := h j (by omega) (by omega)
      rw [mtR, e, if_neg (by omega)]
theorem mtR_low {base t : List UInt8} {c i j : Nat} (hij : i ≤ j) (h : ∀ k, i ≤ k → k < j → lcp (base.drop k) t < c) (h0 : (mtR base t i).2 < c) : (mtR base t j).2 < c := by
  induction j with
  | zero => have : i = 0 := by omega
            subst this; exact h0
  | succ j ih =>
    by_cases hj : i = j + 1
    · subst hj; exact h0
    · have e := ih (by omega) (fun k h1 h2 => h k h1 (by omega))
      have hh := h j (by omega) (by omega)
      rw [mtR]
      split
      · exact hh
      · exact e
theorem mtR_inv (base t : List UInt8) (i : Nat) : (mtR base t i).2 ≤ t.length ∧ (mtR base t i).2 ≤ base.length - (mtR base t i).1 ∧ (mtR base t i).1 ≤ base.length ∧ ((base.drop (mtR base t i).1).take (mtR base t i).2 = t.take (mtR base t i).2) := by
  induction i with
  | zero => simp [mtR]
  | succ i ih =>
    rw [mtR]
    split
    · rename_i h
      have h1 := lcp_le_left (base.drop i) t
      rw [List.length_drop] at h1
      exact ⟨lcp_le_right _ _, h1, by simp only []; omega, lcp_take _ _⟩
    · exact ih
theorem mt_inv (base t : List UInt8) : mtN base t ≤ t.length ∧ mtP base t + mtN base t ≤ base.length ∧ ((base.drop (mtP base t)).take (mtN base t) = t.take (mtN base t)) := by
  have h := mtR_inv base t base.length
  unfold mtN mtP
  exact ⟨h.1, by omega, h.2.2.2⟩

/-- What the code keeps of it: nothing of pieces shorter than eight. -/
def mt8 (p : Nat × Nat) : Nat × Nat := if 8 ≤ p.2 then p else (0, 0)
def mcP (base t : List UInt8) : Nat := (mt8 (mtR base t base.length)).1
def mcN (base t : List UInt8) : Nat := (mt8 (mtR base t base.length)).2
theorem mc_iff (base t : List UInt8) : (mcN base t < 8 ↔ mtN base t < 8) ∧ (8 ≤ mtN base t → mcP base t = mtP base t ∧ mcN base t = mtN base t) := by
  unfold mcN mcP mtN mtP mt8
  generalize mtR base t base.length = r
  split
  · exact ⟨by omega, fun _ => ⟨rfl, rfl⟩⟩
  · exact ⟨by simp only []; omega, fun h => by omega⟩

/-- Pieces of eight at a place. -/
theorem lcp_8 {a t : List UInt8} (ht : 8 ≤ t.length) : 8 ≤ lcp a t ↔ a.take 8 = t.take 8 := by
  constructor
  · intro h
    have e := lcp_take a t
    have e2 := congrArg (List.take 8) e
    rwa [List.take_take, List.take_take, Nat.min_eq_left h] at e2
  · intro h
    refine lcp_ge ?_ ht h
    have := congrArg List.length h
    simp only [List.length_take] at this
    omega

theorem mt8_skip {base t : List UInt8} {i j : Nat} (hij : i ≤ j) (h : ∀ k, i ≤ k → k < j → lcp (base.drop k) t < 8) : mt8 (mtR base t j) = mt8 (mtR base t i) := by
  by_cases h8 : 8 ≤ (mtR base t i).2
  · rw [mtR_skip hij fun k h1 h2 => by have := h k h1 h2; omega]
  · have := mtR_low hij h (by omega)
    unfold mt8
    rw [if_neg (by omega), if_neg (by omega)]
theorem mt8_step {base t : List UInt8} {i : Nat} (h : 8 ≤ lcp (base.drop i) t) : mt8 (mtR base t (i + 1)) = if (mt8 (mtR base t i)).2 < lcp (base.drop i) t then (i, lcp (base.drop i) t) else mt8 (mtR base t i) := by
  by_cases h8 : 8 ≤ (mtR base t i).2
  · have e : mt8 (mtR base t i) = mtR base t i := by unfold mt8; rw [if_pos h8]
    rw [e, mtR]
    split
    · unfold mt8; rw [if_pos (by exact h)]
    · exact e
  · have e : mt8 (mtR base t i) = (0, 0) := by unfold mt8; rw [if_neg h8]
    rw [e, mtR, if_pos (by omega), if_pos (by simp only []; omega)]
    unfold mt8
    rw [if_pos (by exact h)]
theorem mt8_end {base t : List UInt8} {i : Nat} (hi : i ≤ base.length) (h : base.length - i ≤ (mt8 (mtR base t i)).2) : mt8 (mtR base t base.length) = mt8 (mtR base t i) := by
  by_cases h8 : 8 ≤ (mtR base t i).2
  · have e : mt8 (mtR base t i) = mtR base t i := by unfold mt8; rw [if_pos h8]
    rw [e] at h
    rw [mtR_skip hi fun k h1 h2 => by
      have := lcp_le_left (base.drop k) t
      rw [List.length_drop] at this
      omega]
  · have e : mt8 (mtR base t i) = (0, 0) := by unfold mt8; rw [if_neg h8]
    rw [e] at h
    have : i = base.length := by simp only [] at h; omega
    rw [this]
theorem mt8_short {base t : List UInt8} (h : t.length < 8) (i : Nat) : mt8 (mtR base t i) = (0, 0) := by
  have := (mtR_inv base t i).1
  unfold mt8
  rw [if_neg (by omega)]

/-- The bytes kept back, put out. -/
def flR (ins : List UInt8) : List UInt8 := if ins = [] then [] else 2 :: (putL ins.length ++ ins)
/-- What Make lays behind the two lengths. -/
def mkR (base : List UInt8) : List UInt8 → List UInt8 → List UInt8
  | [], ins => flR ins
  | x :: t, ins => if 8 ≤ mtN base (x :: t) then flR ins ++ (1 :: (putL (mtP base (x :: t)) ++ putL (mtN base (x :: t)))) ++ mkR base (t.drop (mtN base (x :: t) - 1)) []
      else mkR base t (ins ++ [x])
termination_by t => t.length
decreasing_by
  · simp only [List.length_drop, List.length_cons]; omega
  · simp
def makeR (base target : List UInt8) : List UInt8 := putL base.length ++ putL target.length ++ mkR base target []
theorem mkR_nil (base ins : List UInt8) : mkR base [] ins = flR ins := by rw [mkR]
theorem mkR_cons (base : List UInt8) (x : UInt8) (t ins : List UInt8) : mkR base (x :: t) ins = if 8 ≤ mtN base (x :: t) then flR ins ++ (1 :: (putL (mtP base (x :: t)) ++ putL (mtN base (x :: t)))) ++ mkR base (t.drop (mtN base (x :: t) - 1)) []
      else mkR base t (ins ++ [x]) := by rw [mkR]

theorem putL_small {n : Nat} (h : n ≤ 20000) : (putL n).length ≤ 3 := by
  have := putL_le 3 n (by have : (128 : Nat) ^ 3 = 2097152 := by decide
                          omega)
  omega
theorem flR_len (ins : List UInt8) (h : ins.length ≤ 20000) : (flR ins).length ≤ 4 + ins.length := by
  unfold flR
  split
  · simp
  · have := putL_small h
    simp only [List.length_cons, List.length_append]; omega
/-- Not longer than so much. -/
theorem mkR_len (base : List UInt8) (hb : base.length ≤ 20000) : ∀ (n : Nat) (t ins : List UInt8), t.length = n → t.length + ins.length ≤ 20000 → (mkR base t ins).length ≤ 4 + ins.length + 5 * t.length := by
  intro n
  induction n using Nat.strongRecOn with
  | _ n ih =>
    intro t ins hn h
    cases t with
    | nil => rw [mkR_nil]; have := flR_len ins (by simpa using h); simp; omega
    | cons x t =>
      rw [mkR_cons]
      simp only [List.length_cons] at h hn ⊢
      have hi := mt_inv base (x :: t)
      rw [List.length_cons] at hi
      split
      · rename_i h8
        have h1 := flR_len ins (by omega)
        have h2 := ih (t.drop (mtN base (x :: t) - 1)).length (by rw [List.length_drop]; omega) _ [] rfl (by rw [List.length_drop]; simp; omega)
        have h3 := putL_small (n := mtP base (x :: t)) (by omega)
        have h4 := putL_small (n := mtN base (x :: t)) (by omega)
        rw [List.length_drop] at h2
        simp only [List.length_append, List.length_cons, List.length_nil] at h2 ⊢
        omega
      · have h2 := ih t.length (by omega) t (ins ++ [x]) rfl (by simp; omega)
        simp only [List.length_append, List.length_cons, List.length_nil] at h2
        omega

/-- How far Make has come: what is put out, what is kept back, the place. -/
def MkInv (base target O I : List UInt8) (p : Nat) : Prop :=
  (p ≤ target.length → makeR base target = O ++ mkR base (target.drop p) I) ∧ (target.length < p → makeR base target = O)
theorem MkInv.start (base target : List UInt8) : MkInv base target (putL base.length ++ putL target.length) [] 0 := by
  refine ⟨fun _ => ?_, fun h => absurd h (by omega)⟩
  rw [List.drop_zero]; rfl
theorem make_len {base target : List UInt8} (hb : base.length ≤ 20000) (ht : target.length ≤ 20000) : (makeR base target).length ≤ 100010 := by
  have h1 := mkR_len base hb target.length target [] rfl (by simp; omega)
  have h2 := putL_small hb
  have h3 := putL_small ht
  unfold makeR
  simp only [List.length_append, List.length_nil] at h1 ⊢
  omega
theorem MkInv.len {base target O I : List UInt8} {p : Nat} (h : MkInv base target O I p) (hb : base.length ≤ 20000) (ht : target.length ≤ 20000) : O.length ≤ 100010 := by
  have hM := make_len hb ht
  have h1 : ∃ r, makeR base target = O ++ r := by
    by_cases hp : p ≤ target.length
    · exact ⟨_, h.1 hp⟩
    · exact ⟨[], by rw [List.append_nil]; exact h.2 (by omega)⟩
  obtain ⟨r, h1⟩ := h1
  have h2 := congrArg List.length h1
  rw [List.length_append] at h2
  omega
theorem MkInv.fin {base target O I : List UInt8} (h : MkInv base target O I target.length) : makeR base target = O ++ flR I := by
  have := h.1 (Nat.le_refl _)
  rwa [List.drop_length, mkR_nil] at this
theorem MkInv.last {base target O I J : List UInt8} (h : MkInv base target O I target.length) : MkInv base target (O ++ flR I) J (target.length + 1) :=
  ⟨fun hp => absurd hp (by omega), fun _ => h.fin⟩
theorem MkInv.copy {base target O I : List UInt8} {p : Nat} (h : MkInv base target O I p) (hp : p < target.length) (h8 : 8 ≤ mtN base (target.drop p)) :
    MkInv base target (O ++ flR I ++ (1 :: (putL (mtP base (target.drop p)) ++ putL (mtN base (target.drop p))))) [] (p + mtN base (target.drop p)) := by
  have hi := (mt_inv base (target.drop p)).1
  rw [List.length_drop] at hi
  have h1 := h.1 (by omega)
  refine ⟨fun _ => ?_, fun hq => absurd hq (by omega)⟩
  rw [h1, ← List.drop_drop]
  cases hl : target.drop p with
  | nil => rw [hl] at h8; have := (mt_inv base []).1; rw [List.length_nil] at this; omega
  | cons x t =>
    rw [hl] at h8
    have e : (x :: t).drop (mtN base (x :: t)) = t.drop (mtN base (x :: t) - 1) := by
      obtain ⟨k, hk⟩ : ∃ k, mtN base (x :: t) = k + 1 := ⟨mtN base (x :: t) - 1, by omega⟩
      rw [hk]; simp
    rw [mkR_cons, if_pos h8, e]
    simp only [List.append_assoc]
theorem MkInv.hold {base target O I : List UInt8} {p : Nat} (h : MkInv base target O I p) (hp : p < target.length) (h8 : mtN base (target.drop p) < 8) :
    MkInv base target O (I ++ [target[p]]) (p + 1) := by
  have h1 := h.1 (by omega)
  refine ⟨fun _ => ?_, fun hq => absurd hq (by omega)⟩
  rw [h1]
  have e := List.drop_eq_getElem_cons hp
  rw [e] at h8 ⊢
  rw [mkR_cons, if_neg (by omega)]
theorem flR_nil : flR [] = [] := rfl
theorem flR_ne {I : List UInt8} (h : I ≠ []) : flR I = 2 :: (putL I.length ++ I) := by unfold flR; rw [if_neg h]
end Go.Mx
