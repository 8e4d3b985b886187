/- Numbers as bytes: the plain mathematics (no program in sight). Numbers there and back: plain facts. Deltas read: plain facts. Deltas made: plain facts. -/
import Init
namespace Go.Mx

def putL (n : Nat) : List UInt8 := if h : n < 128 then [UInt8.ofNat n] else UInt8.ofNat (n % 128 + 128) :: putL (n / 128)
  termination_by n
  decreasing_by omega

theorem putL_le (k : Nat) : ∀ n, n < 128 ^ k → (putL n).length ≤ max k 1 := by
  induction k with
  | zero => intro n h; have : n = 0 := by simpa using h
            subst this; rw [putL]; simp
  | succ k ih =>
    intro n h
    rw [putL]
    split
    · simp
    · have := ih (n / 128) (by rw [Nat.pow_succ] at h; exact Nat.div_lt_of_lt_mul (by omega))
      have h0 : k ≠ 0 := by rintro rfl; simp at h; omega
      simp; omega

/-- The value of bytes, seven bits each, the least first. -/
def valL : List UInt8 → Nat
  | [] => 0
  | y :: l => y.toNat % 128 + 128 * valL l

/-- How many bytes have their highest bit, ahead of the first that has not. -/
def hiN : List UInt8 → Nat
  | [] => 0
  | y :: l => if 128 ≤ y.toNat then hiN l + 1 else 0

theorem hiN_le (l : List UInt8) : hiN l ≤ l.length := by
  induction l with
  | nil => simp [hiN]
  | cons y l ih => rw [hiN]; split <;> simp; omega

theorem hiN_hi {l : List UInt8} : ∀ {j : Nat} (_ : j < hiN l) (h : j < l.length), 128 ≤ l[j].toNat := by
  induction l with
  | nil => intro j hj; simp [hiN] at hj
  | cons y l ih =>
    intro j hj h
    rw [hiN] at hj
    split at hj
    · cases j with
      | zero => simpa
      | succ j => simpa using ih (by omega) (by simpa using h)
    · omega

theorem hiN_lo {l : List UInt8} : ∀ (h : hiN l < l.length), l[hiN l].toNat < 128 := by
  induction l with
  | nil => intro h; simp at h
  | cons y l ih =>
    intro h
    by_cases hy : 128 ≤ y.toNat
    · have e : hiN (y :: l) = hiN l + 1 := by rw [hiN, if_pos hy]
      have h' : hiN l < l.length := by rw [e] at h; simpa using h
      have := ih h'
      simp only [e, List.getElem_cons_succ]
      exact this
    · have e : hiN (y :: l) = 0 := by rw [hiN, if_neg hy]
      simp only [e, List.getElem_cons_zero]
      omega

theorem valL_lt (l : List UInt8) : valL l < 128 ^ l.length := by
  induction l with
  | nil => simp [valL]
  | cons y l ih => rw [valL, List.length_cons, Nat.pow_succ]; omega

theorem valL_app (l m : List UInt8) : valL (l ++ m) = valL l + 128 ^ l.length * valL m := by
  induction l with
  | nil => simp [valL]
  | cons y l ih =>
    rw [List.cons_append, valL, valL, ih, List.length_cons, Nat.pow_succ, Nat.mul_add, ← Nat.mul_assoc, Nat.mul_comm 128 (128 ^ l.length)]
    omega

theorem valL_snoc (l : List UInt8) (y : UInt8) : valL (l ++ [y]) = valL l + 128 ^ l.length * (y.toNat % 128) := by
  rw [valL_app]; simp [valL]

theorem valL_put (n : Nat) : valL (putL n) = n := by
  induction n using Nat.strongRecOn with
  | _ n ih =>
    rw [putL]
    split
    · rename_i h
      simp only [valL]
      rw [UInt8.toNat_ofNat']
      omega
    · rename_i h
      simp only [valL]
      rw [ih (n / 128) (by omega), UInt8.toNat_ofNat']
      omega

theorem putL_ne (n : Nat) : putL n ≠ [] := by rw [putL]; split <;> simp

theorem hiN_put (n : Nat) : hiN (putL n) + 1 = (putL n).length := by
  induction n using Nat.strongRecOn with
  | _ n ih =>
    rw [putL]
    split
    · rename_i h
      simp only [hiN, List.length_singleton]
      rw [if_neg (by rw [UInt8.toNat_ofNat']; omega)]
    · rename_i h
      simp only [hiN, List.length_cons]
      rw [if_pos (by rw [UInt8.toNat_ofNat']; omega), ih (n / 128) (by omega)]

theorem hiN_app {l m : List UInt8} (h : hiN l < l.length) : hiN (l ++ m) = hiN l := by
  induction l with
  | nil => simp at h
  | cons y l ih =>
    rw [List.cons_append, hiN, hiN]
    split
    · rename_i hy
      rw [hiN, if_pos hy] at h
      rw [ih (by simpa using h)]
    · rfl

/-- What Get tells: the number, the place behind it, the error. -/
def getS (b : List UInt8) (at_ : Int) : Int × Int × Int :=
  if at_ < 0 ∨ (b.length : Int) < at_ then (0, 0, 1)
  else if at_.toNat + hiN (b.drop at_.toNat) = b.length then (0, 0, 2)
  else if 9 < hiN (b.drop at_.toNat) + 1 ∨ 72057594037927936 < valL ((b.drop at_.toNat).take (hiN (b.drop at_.toNat) + 1)) ∨
      putL (valL ((b.drop at_.toNat).take (hiN (b.drop at_.toNat) + 1))) ≠ (b.drop at_.toNat).take (hiN (b.drop at_.toNat) + 1) then (0, 0, 4)
  else (valL ((b.drop at_.toNat).take (hiN (b.drop at_.toNat) + 1)), at_.toNat + hiN (b.drop at_.toNat) + 1, 0)
end Go.Mx

namespace Go.Mx
open Go

theorem hiN_take : ∀ l : List UInt8, hiN (l.take (hiN l)) = hiN l
  | [] => rfl
  | y :: l => by
    rw [hiN]
    split
    · rename_i hy
      rw [List.take_succ_cons, hiN, if_pos hy, hiN_take l]
    · rfl
theorem putL_9 {n : Nat} (h : n ≤ 72057594037927936) : (putL n).length ≤ 9 := by
  have := putL_le 9 n (by have : (128 : Nat) ^ 9 = 9223372036854775808 := by decide
                          omega)
  omega
theorem putL_pos (n : Nat) : 0 < (putL n).length := List.length_pos_iff.2 (putL_ne n)

/-- A number cut off it is too short. -/
theorem getS_short (n : Nat) : getS ((putL n).take ((putL n).length - 1)) 0 = (0, 0, 2) := by
  have h := hiN_put n
  have e : (putL n).length - 1 = hiN (putL n) := by omega
  rw [e, getS, if_neg (by simp)]
  rw [if_pos]
  simp only [Int.toNat_zero, List.drop_zero, Nat.zero_add, hiN_take, List.length_take]
  omega
/-- A number is read as it was put, wherever. -/
theorem getS_app (p r : List UInt8) (n : Nat) (hn : n ≤ 72057594037927936) : getS (p ++ (putL n ++ r)) (p.length : Int) = ((n : Int), ((p.length + (putL n).length : Nat) : Int), 0) := by
  have h := hiN_put n
  have h9 := putL_9 hn
  have hd : (p ++ (putL n ++ r)).drop p.length = putL n ++ r := by simp
  have hh : hiN (putL n ++ r) = hiN (putL n) := hiN_app (by omega)
  have ht : (putL n ++ r).take (hiN (putL n) + 1) = putL n := by rw [h]; simp
  rw [getS, if_neg (by simp only [List.length_append]; omega), Int.toNat_natCast, hd, hh, ht, valL_put]
  rw [if_neg (by simp; omega), if_neg (by rw [h]; simp; omega)]
  have : p.length + hiN (putL n) + 1 = p.length + (putL n).length := by omega
  simp only [Prod.mk.injEq, true_and, and_true]
  omega
theorem getS_bad {b : List UInt8} {at_ : Int} (h : (getS b at_).2.2 ≠ 0) : (getS b at_).1 = 0 ∧ (getS b at_).2.1 = 0 := by
  unfold getS at *
  split at h
  · rename_i h1; rw [if_pos h1]; exact ⟨rfl, rfl⟩
  · rename_i h1; rw [if_neg h1]
    split at h
    · rename_i h2; rw [if_pos h2]; exact ⟨rfl, rfl⟩
    · rename_i h2; rw [if_neg h2]
      split at h
      · rename_i h3; rw [if_pos h3]; exact ⟨rfl, rfl⟩
      · exact absurd rfl h
theorem getS_good {b : List UInt8} {at_ : Int} (h : (getS b at_).2.2 = 0) : ∃ n k j : Nat, (getS b at_).1 = (n : Int) ∧ n ≤ 72057594037927936 ∧ at_ = (k : Int) ∧ (getS b at_).2.1 = (j : Int) ∧ k ≤ j ∧ j ≤ b.length ∧ (b.take j).drop k = putL n := by
  unfold getS at *
  split at h
  · simp at h
  · rename_i h1; rw [if_neg h1]
    split at h
    · simp at h
    · rename_i h2; rw [if_neg h2]
      split at h
      · simp at h
      · rename_i h3; rw [if_neg h3]
        have hk : at_ = (at_.toNat : Int) := by omega
        have hle : hiN (b.drop at_.toNat) ≤ (b.drop at_.toNat).length := hiN_le _
        rw [List.length_drop] at hle
        simp only [not_or, Decidable.not_not] at h3
        obtain ⟨_, h5, h6⟩ := h3
        refine ⟨_, at_.toNat, at_.toNat + hiN (b.drop at_.toNat) + 1, rfl, by omega, hk, by simp only []; omega, by omega, by omega, ?_⟩
        rw [h6]
        rw [List.take_drop]
        congr 2
end Go.Mx

namespace Go.Mx
open Go

/-- A number read at a list's head: the number, how many bytes, the error. -/
def nmN (l : List UInt8) : Nat := (getS l 0).1.toNat
def nmJ (l : List UInt8) : Nat := (getS l 0).2.1.toNat
def nmE (l : List UInt8) : Int := (getS l 0).2.2
theorem nm_eq (l : List UInt8) : getS l 0 = ((nmN l : Int), (nmJ l : Int), nmE l) := by
  unfold nmN nmJ nmE
  by_cases h : (getS l 0).2.2 = 0
  · obtain ⟨n, k, j, h1, _, _, h4, _⟩ := getS_good h
    generalize getS l 0 = r at *
    obtain ⟨a, b, c⟩ := r
    simp only [] at *
    subst h1 h4
    simp
  · obtain ⟨h1, h2⟩ := getS_bad h
    generalize getS l 0 = r at *
    obtain ⟨a, b, c⟩ := r
    simp only [] at *
    subst h1 h2
    simp
theorem nm_good {l : List UInt8} (h : nmE l = 0) : nmN l ≤ 72057594037927936 ∧ nmJ l ≤ l.length ∧ l.take (nmJ l) = putL (nmN l) ∧ 1 ≤ nmJ l := by
  obtain ⟨n, k, j, h1, h2, h3, h4, h5, h6, h7⟩ := getS_good h
  have hk : k = 0 := by omega
  subst hk
  have e1 : nmN l = n := by unfold nmN; rw [h1]; simp
  have e2 : nmJ l = j := by unfold nmJ; rw [h4]; simp
  rw [List.drop_zero] at h7
  rw [e1, e2]
  refine ⟨h2, h6, h7, ?_⟩
  have := putL_ne n
  rcases Nat.eq_zero_or_pos j with h | h
  · subst h; rw [List.take_zero] at h7; exact absurd h7.symm this
  · exact h
theorem nm_bad {l : List UInt8} (h : nmE l ≠ 0) : nmN l = 0 ∧ nmJ l = 0 := by
  obtain ⟨h1, h2⟩ := getS_bad h
  unfold nmN nmJ
  rw [h1, h2]
  exact ⟨rfl, rfl⟩
/-- The same, at a place. -/
theorem nm_at {d : List UInt8} {k : Nat} (hk : k ≤ d.length) : getS d k = ((nmN (d.drop k) : Int), (if nmE (d.drop k) = 0 then ((k + nmJ (d.drop k) : Nat) : Int) else 0), nmE (d.drop k)) := by
  have h0 := nm_eq (d.drop k)
  unfold getS at h0 ⊢
  rw [if_neg (by omega)] at h0 ⊢
  simp only [Int.toNat_natCast, Int.toNat_zero, List.drop_zero, List.length_drop] at h0 ⊢
  by_cases h1 : hiN (d.drop k) = d.length - k
  · rw [if_pos (by omega)] at h0
    rw [if_pos (by omega)]
    simp only [Prod.mk.injEq] at h0 ⊢
    obtain ⟨a, b, c⟩ := h0
    rw [← c]
    exact ⟨a, by rw [if_neg (by omega)], rfl⟩
  · rw [if_neg (by omega)] at h0
    rw [if_neg (by omega)]
    split at h0
    · rename_i hc
      rw [if_pos hc]
      simp only [Prod.mk.injEq] at h0 ⊢
      obtain ⟨a, b, c⟩ := h0
      rw [← c]
      exact ⟨a, by rw [if_neg (by omega)], rfl⟩
    · rename_i hc
      rw [if_neg hc]
      simp only [Prod.mk.injEq] at h0 ⊢
      obtain ⟨a, b, c⟩ := h0
      rw [← c, if_pos rfl]
      exact ⟨a, by omega, rfl⟩

/-- A step: the error, or the bytes and what is left. -/
def stepR (base : List UInt8) (kind : UInt8) (l : List UInt8) : Int × List UInt8 × List UInt8 :=
  if kind = 1 then
    if nmE l ≠ 0 then (nmE l, [], []) else
    if nmE (l.drop (nmJ l)) ≠ 0 then (nmE (l.drop (nmJ l)), [], []) else
    if nmN (l.drop (nmJ l)) = 0 then (4, [], []) else
    if base.length < nmN l ∨ base.length - nmN l < nmN (l.drop (nmJ l)) then (1, [], []) else
    (0, (base.take (nmN l + nmN (l.drop (nmJ l)))).drop (nmN l), (l.drop (nmJ l)).drop (nmJ (l.drop (nmJ l))))
  else if kind = 2 then
    if nmE l ≠ 0 then (nmE l, [], []) else
    if nmN l = 0 then (4, [], []) else
    if (l.drop (nmJ l)).length < nmN l then (2, [], []) else
    (0, (l.drop (nmJ l)).take (nmN l), (l.drop (nmJ l)).drop (nmN l))
  else (4, [], [])
theorem stepR_len (base : List UInt8) (kind : UInt8) (l : List UInt8) : (stepR base kind l).2.2.length ≤ l.length := by
  unfold stepR
  repeat' split
  all_goals simp
  all_goals omega
theorem stepR_bad {base : List UInt8} {kind : UInt8} {l : List UInt8} (h : (stepR base kind l).1 ≠ 0) : (stepR base kind l).2.1 = [] := by
  revert h
  unfold stepR
  repeat' split
  all_goals first | (intro _; rfl) | (intro h; exact absurd rfl h)

/-- The steps, one behind the other. -/
def stepsR (base : List UInt8) (to : Nat) : List UInt8 → List UInt8 → Int × List UInt8
  | [], out => if out.length < to then (2, []) else (0, out)
  | kind :: l, out =>
    if (stepR base kind l).1 ≠ 0 then ((stepR base kind l).1, [])
    else if (to : Int) - out.length < (stepR base kind l).2.1.length then (3, [])
    else stepsR base to (stepR base kind l).2.2 (out ++ (stepR base kind l).2.1)
termination_by l => l.length
decreasing_by have := stepR_len base kind l; simp; omega

/-- The two lengths, and the first error. -/
def szE (d : List UInt8) : Int := if nmE d ≠ 0 then nmE d else nmE (d.drop (nmJ d))
def szA (d : List UInt8) : Nat := if szE d = 0 then nmN d else 0
def szB (d : List UInt8) : Nat := if szE d = 0 then nmN (d.drop (nmJ d)) else 0
def szR (d : List UInt8) : List UInt8 := (d.drop (nmJ d)).drop (nmJ (d.drop (nmJ d)))
/-- What a delta makes of a base. -/
def apR (base d : List UInt8) : Int × List UInt8 :=
  if szE d ≠ 0 then (szE d, []) else if szA d ≠ base.length then (5, []) else if 20000 < szB d then (3, []) else stepsR base (szB d) (szR d) []
end Go.Mx

namespace Go.Mx
open Go

/-- How many bytes two lists begin with alike. -/
def lcp : List UInt8 → List UInt8 → Nat
  | x :: a, y :: b => if x = y then lcp a b + 1 else 0
  | _, _ => 0
theorem lcp_le_left : ∀ a b, lcp a b ≤ a.length
  | [], _ => by simp [lcp]
  | _ :: _, [] => by simp [lcp]
  | x :: a, y :: b => by rw [lcp]; split <;> simp; exact lcp_le_left a b
theorem lcp_le_right : ∀ a b, lcp a b ≤ b.length
  | [], _ => by simp [lcp]
  | _ :: _, [] => by simp [lcp]
  | x :: a, y :: b => by rw [lcp]; split <;> simp; exact lcp_le_right a b
theorem lcp_take : ∀ a b : List UInt8, a.take (lcp a b) = b.take (lcp a b)
  | [], b => by simp [lcp]
  | _ :: _, [] => by simp [lcp]
  | x :: a, y :: b => by
    rw [lcp]
    split
    · rename_i h; subst h; rw [List.take_succ_cons, List.take_succ_cons, lcp_take a b]
    · simp
/-- Alike so far, and alike at the next place or not. -/
theorem lcp_ge : ∀ {a b : List UInt8} {k : Nat}, k ≤ a.length → k ≤ b.length → (a.take k = b.take k) → k ≤ lcp a b
  | _, _, 0, _, _, _ => Nat.zero_le _
  | [], _, k + 1, h, _, _ => by simp at h
  | _ :: _, [], k + 1, _, h, _ => by simp at h
  | x :: a, y :: b, k + 1, h1, h2, h => by
    rw [List.take_succ_cons, List.take_succ_cons] at h
    simp only [List.cons.injEq] at h
    rw [lcp, if_pos h.1]
    have := lcp_ge (a := a) (b := b) (k := k) (by simpa using h1) (by simpa using h2) h.2
    omega
theorem lcp_stop {a b : List UInt8} {k : Nat} (h : a.take k = b.take k) (hk : k ≤ a.length) (hk' : k ≤ b.length) (hs : ∀ (h1 : k < a.length) (h2 : k < b.length), a[k] ≠ b[k]) : lcp a b = k := by
  have h1 := lcp_ge hk hk' h
  have h2 := lcp_le_left a b
  have h3 := lcp_le_right a b
  rcases Nat.lt_or_eq_of_le h1 with h4 | h4
  · exfalso
    have ht := lcp_take a b
    have e : (a.take (lcp a b))[k]? = (b.take (lcp a b))[k]? := by rw [ht]
    rw [List.getElem?_take, List.getElem?_take, if_pos h4, if_pos h4, List.getElem?_eq_getElem (by omega), List.getElem?_eq_getElem (by omega)] at e
    exact hs (by omega) (by omega) (Option.some.inj e)
  · exact h4.symm

/-- The longest piece of the base that a text begins with, among the first i places: where, how long. -/
def mtR (base t : List UInt8) : Nat → Nat × Nat
  | 0 => (0, 0)
  | i + 1 => if (mtR base t i).2 < lcp (base.drop i) t then (i, lcp (base.drop i) t) else mtR base t i
def mtP (base t : List UInt8) : Nat := (mtR base t base.length).1
def mtN (base t : List UInt8) : Nat := (mtR base t base.length).2

theorem mtR_skip {base t : List UInt8} {i j : Nat} (hij : i ≤ j) (h : ∀ k, i ≤ k → k < j → lcp (base.drop k) t ≤ (mtR base t i).2) : mtR base t j = mtR base t i := by
  induction j with
  | zero => have : i = 0 := by omega
            subst this; rfl
  | succ j ih =>
    by_cases hj : i = j + 1
    · subst hj; rfl
    · have e := ih (by omega) (fun k h1 h2 => h k h1 (by omega))
      have hh := h j (by omega) (by omega)
      rw [mtR, e, if_neg (by omega)]
theorem mtR_low {base t : List UInt8} {c i j : Nat} (hij : i ≤ j) (h : ∀ k, i ≤ k → k < j → lcp (base.drop k) t < c) (h0 : (mtR base t i).2 < c) : (mtR base t j).2 < c := by
  induction j with
  | zero => have : i = 0 := by omega
            subst this; exact h0
  | succ j ih =>
    by_cases hj : i = j + 1
    · subst hj; exact h0
    · have e := ih (by omega) (fun k h1 h2 => h k h1 (by omega))
      have hh := h j (by omega) (by omega)
      rw [mtR]
      split
      · exact hh
      · exact e
theorem mtR_inv (base t : List UInt8) (i : Nat) : (mtR base t i).2 ≤ t.length ∧ (mtR base t i).2 ≤ base.length - (mtR base t i).1 ∧ (mtR base t i).1 ≤ base.length ∧ ((base.drop (mtR base t i).1).take (mtR base t i).2 = t.take (mtR base t i).2) := by
  induction i with
  | zero => simp [mtR]
  | succ i ih =>
    rw [mtR]
    split
    · rename_i h
      have h1 := lcp_le_left (base.drop i) t
      rw [List.length_drop] at h1
      exact ⟨lcp_le_right _ _, h1, by simp only []; omega, lcp_take _ _⟩
    · exact ih
theorem mt_inv (base t : List UInt8) : mtN base t ≤ t.length ∧ mtP base t + mtN base t ≤ base.length ∧ ((base.drop (mtP base t)).take (mtN base t) = t.take (mtN base t)) := by
  have h := mtR_inv base t base.length
  unfold mtN mtP
  exact ⟨h.1, by omega, h.2.2.2⟩

/-- What the code keeps of it: nothing of pieces shorter than eight. -/
def mt8 (p : Nat × Nat) : Nat × Nat := if 8 ≤ p.2 then p else (0, 0)
def mcP (base t : List UInt8) : Nat := (mt8 (mtR base t base.length)).1
def mcN (base t : List UInt8) : Nat := (mt8 (mtR base t base.length)).2
theorem mc_iff (base t : List UInt8) : (mcN base t < 8 ↔ mtN base t < 8) ∧ (8 ≤ mtN base t → mcP base t = mtP base t ∧ mcN base t = mtN base t) := by
  unfold mcN mcP mtN mtP mt8
  generalize mtR base t base.length = r
  split
  · exact ⟨by omega, fun _ => ⟨rfl, rfl⟩⟩
  · exact ⟨by simp only []; omega, fun h => by omega⟩

/-- Pieces of eight at a place. -/
theorem lcp_8 {a t : List UInt8} (ht : 8 ≤ t.length) : 8 ≤ lcp a t ↔ a.take 8 = t.take 8 := by
  constructor
  · intro h
    have e := lcp_take a t
    have e2 := congrArg (List.take 8) e
    rwa [List.take_take, List.take_take, Nat.min_eq_left h] at e2
  · intro h
    refine lcp_ge ?_ ht h
    have := congrArg List.length h
    simp only [List.length_take] at this
    omega

theorem mt8_skip {base t : List UInt8} {i j : Nat} (hij : i ≤ j) (h : ∀ k, i ≤ k → k < j → lcp (base.drop k) t < 8) : mt8 (mtR base t j) = mt8 (mtR base t i) := by
  by_cases h8 : 8 ≤ (mtR base t i).2
  · rw [mtR_skip hij fun k h1 h2 => by have := h k h1 h2; omega]
  · have := mtR_low hij h (by omega)
    unfold mt8
    rw [if_neg (by omega), if_neg (by omega)]
theorem mt8_step {base t : List UInt8} {i : Nat} (h : 8 ≤ lcp (base.drop i) t) : mt8 (mtR base t (i + 1)) = if (mt8 (mtR base t i)).2 < lcp (base.drop i) t then (i, lcp (base.drop i) t) else mt8 (mtR base t i) := by
  by_cases h8 : 8 ≤ (mtR base t i).2
  · have e : mt8 (mtR base t i) = mtR base t i := by unfold mt8; rw [if_pos h8]
    rw [e, mtR]
    split
    · unfold mt8; rw [if_pos (by exact h)]
    · exact e
  · have e : mt8 (mtR base t i) = (0, 0) := by unfold mt8; rw [if_neg h8]
    rw [e, mtR, if_pos (by omega), if_pos (by simp only []; omega)]
    unfold mt8
    rw [if_pos (by exact h)]
theorem mt8_end {base t : List UInt8} {i : Nat} (hi : i ≤ base.length) (h : base.length - i ≤ (mt8 (mtR base t i)).2) : mt8 (mtR base t base.length) = mt8 (mtR base t i) := by
  by_cases h8 : 8 ≤ (mtR base t i).2
  · have e : mt8 (mtR base t i) = mtR base t i := by unfold mt8; rw [if_pos h8]
    rw [e] at h
    rw [mtR_skip hi fun k h1 h2 => by
      have := lcp_le_left (base.drop k) t
      rw [List.length_drop] at this
      omega]
  · have e : mt8 (mtR base t i) = (0, 0) := by unfold mt8; rw [if_neg h8]
    rw [e] at h
    have : i = base.length := by simp only [] at h; omega
    rw [this]
theorem mt8_short {base t : List UInt8} (h : t.length < 8) (i : Nat) : mt8 (mtR base t i) = (0, 0) := by
  have := (mtR_inv base t i).1
  unfold mt8
  rw [if_neg (by omega)]

/-- The bytes kept back, put out. -/
def flR (ins : List UInt8) : List UInt8 := if ins = [] then [] else 2 :: (putL ins.length ++ ins)
/-- What Make lays behind the two lengths. -/
def mkR (base : List UInt8) : List UInt8 → List UInt8 → List UInt8
  | [], ins => flR ins
  | x :: t, ins => if 8 ≤ mtN base (x :: t) then flR ins ++ (1 :: (putL (mtP base (x :: t)) ++ putL (mtN base (x :: t)))) ++ mkR base (t.drop (mtN base (x :: t) - 1)) []
      else mkR base t (ins ++ [x])
termination_by t => t.length
decreasing_by
  · simp only [List.length_drop, List.length_cons]; omega
  · simp
def makeR (base target : List UInt8) : List UInt8 := putL base.length ++ putL target.length ++ mkR base target []
theorem mkR_nil (base ins : List UInt8) : mkR base [] ins = flR ins := by rw [mkR]
theorem mkR_cons (base : List UInt8) (x : UInt8) (t ins : List UInt8) : mkR base (x :: t) ins = if 8 ≤ mtN base (x :: t) then flR ins ++ (1 :: (putL (mtP base (x :: t)) ++ putL (mtN base (x :: t)))) ++ mkR base (t.drop (mtN base (x :: t) - 1)) []
      else mkR base t (ins ++ [x]) := by rw [mkR]

theorem putL_small {n : Nat} (h : n ≤ 20000) : (putL n).length ≤ 3 := by
  have := putL_le 3 n (by have : (128 : Nat) ^ 3 = 2097152 := by decide
                          omega)
  omega
theorem flR_len (ins : List UInt8) (h : ins.length ≤ 20000) : (flR ins).length ≤ 4 + ins.length := by
  unfold flR
  split
  · simp
  · have := putL_small h
    simp only [List.length_cons, List.length_append]; omega
/-- Not longer than so much. -/
theorem mkR_len (base : List UInt8) (hb : base.length ≤ 20000) : ∀ (n : Nat) (t ins : List UInt8), t.length = n → t.length + ins.length ≤ 20000 → (mkR base t ins).length ≤ 4 + ins.length + 5 * t.length := by
  intro n
  induction n using Nat.strongRecOn with
  | _ n ih =>
    intro t ins hn h
    cases t with
    | nil => rw [mkR_nil]; have := flR_len ins (by simpa using h); simp; omega
    | cons x t =>
      rw [mkR_cons]
      simp only [List.length_cons] at h hn ⊢
      have hi := mt_inv base (x :: t)
      rw [List.length_cons] at hi
      split
      · rename_i h8
        have h1 := flR_len ins (by omega)
        have h2 := ih (t.drop (mtN base (x :: t) - 1)).length (by rw [List.length_drop]; omega) _ [] rfl (by rw [List.length_drop]; simp; omega)
        have h3 := putL_small (n := mtP base (x :: t)) (by omega)
        have h4 := putL_small (n := mtN base (x :: t)) (by omega)
        rw [List.length_drop] at h2
        simp only [List.length_append, List.length_cons, List.length_nil] at h2 ⊢
        omega
      · have h2 := ih t.length (by omega) t (ins ++ [x]) rfl (by simp; omega)
        simp only [List.length_append, List.length_cons, List.length_nil] at h2
        omega

/-- How far Make has come: what is put out, what is kept back, the place. -/
def MkInv (base target O I : List UInt8) (p : Nat) : Prop :=
  (p ≤ target.length → makeR base target = O ++ mkR base (target.drop p) I) ∧ (target.length < p → makeR base target = O)
theorem MkInv.start (base target : List UInt8) : MkInv base target (putL base.length ++ putL target.length) [] 0 := by
  refine ⟨fun _ => ?_, fun h => absurd h (by omega)⟩
  rw [List.drop_zero]; rfl
theorem make_len {base target : List UInt8} (hb : base.length ≤ 20000) (ht : target.length ≤ 20000) : (makeR base target).length ≤ 100010 := by
  have h1 := mkR_len base hb target.length target [] rfl (by simp; omega)
  have h2 := putL_small hb
  have h3 := putL_small ht
  unfold makeR
  simp only [List.length_append, List.length_nil] at h1 ⊢
  omega
theorem MkInv.len {base target O I : List UInt8} {p : Nat} (h : MkInv base target O I p) (hb : base.length ≤ 20000) (ht : target.length ≤ 20000) : O.length ≤ 100010 := by
  have hM := make_len hb ht
  have h1 : ∃ r, makeR base target = O ++ r := by
    by_cases hp : p ≤ target.length
    · exact ⟨_, h.1 hp⟩
    · exact ⟨[], by rw [List.append_nil]; exact h.2 (by omega)⟩
  obtain ⟨r, h1⟩ := h1
  have h2 := congrArg List.length h1
  rw [List.length_append] at h2
  omega
theorem MkInv.fin {base target O I : List UInt8} (h : MkInv base target O I target.length) : makeR base target = O ++ flR I := by
  have := h.1 (Nat.le_refl _)
  rwa [List.drop_length, mkR_nil] at this
theorem MkInv.last {base target O I J : List UInt8} (h : MkInv base target O I target.length) : MkInv base target (O ++ flR I) J (target.length + 1) :=
  ⟨fun hp => absurd hp (by omega), fun _ => h.fin⟩
theorem MkInv.copy {base target O I : List UInt8} {p : Nat} (h : MkInv base target O I p) (hp : p < target.length) (h8 : 8 ≤ mtN base (target.drop p)) :
    MkInv base target (O ++ flR I ++ (1 :: (putL (mtP base (target.drop p)) ++ putL (mtN base (target.drop p))))) [] (p + mtN base (target.drop p)) := by
  have hi := (mt_inv base (target.drop p)).1
  rw [List.length_drop] at hi
  have h1 := h.1 (by omega)
  refine ⟨fun _ => ?_, fun hq => absurd hq (by omega)⟩
  rw [h1, ← List.drop_drop]
  cases hl : target.drop p with
  | nil => rw [hl] at h8; have := (mt_inv base []).1; rw [List.length_nil] at this; omega
  | cons x t =>
    rw [hl] at h8
    have e : (x :: t).drop (mtN base (x :: t)) = t.drop (mtN base (x :: t) - 1) := by
      obtain ⟨k, hk⟩ : ∃ k, mtN base (x :: t) = k + 1 := ⟨mtN base (x :: t) - 1, by omega⟩
      rw [hk]; simp
    rw [mkR_cons, if_pos h8, e]
    simp only [List.append_assoc]
theorem MkInv.hold {base target O I : List UInt8} {p : Nat} (h : MkInv base target O I p) (hp : p < target.length) (h8 : mtN base (target.drop p) < 8) :
    MkInv base target O (I ++ [target[p]]) (p + 1) := by
  have h1 := h.1 (by omega)
  refine ⟨fun _ => ?_, fun hq => absurd hq (by omega)⟩
  rw [h1]
  have e := List.drop_eq_getElem_cons hp
  rw [e] at h8 ⊢
  rw [mkR_cons, if_neg (by omega)]
theorem flR_nil : flR [] = [] := rfl
theorem flR_ne {I : List UInt8} (h : I ≠ []) : flR I = 2 :: (putL I.length ++ I) := by unfold flR; rw [if_neg h]
end Go.Mx
