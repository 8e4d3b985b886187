/- Plain: one element's way up or down; the two halves of a merge by rotation. -/
import Derived.Test.YtojbdlbcaoeffaaStaP
namespace Go.Mx
open Go Go.RowKit
theorem rot_id0 (l : List ByteArray) (s e : Nat) : Rot l l s s e := ⟨List.Perm.refl _, fun i => by unfold rotI; congr 1; (repeat' split) <;> omega⟩
theorem rot_id1 (l : List ByteArray) (s e : Nat) (h : s ≤ e) : Rot l l s e e := ⟨List.Perm.refl _, fun i => by unfold rotI; congr 1; (repeat' split) <;> omega⟩
theorem rot_up {l l1 l2 : List ByteArray} {a k : Nat} (hak : a ≤ k) (h : Rot l l1 a (a + 1) (k + 1)) (h2 : Rot l1 l2 k (k + 1) (k + 2)) : Rot l l2 a (a + 1) (k + 2) where
  perm := h2.perm.trans h.perm
  at' z := by
    rw [h2.at', h.at']
    congr 1
    unfold rotI
    (repeat' split) <;> omega
theorem rot_dn {l l1 l2 : List ByteArray} {m k : Nat} (hkm : k + 1 ≤ m) (h : Rot l l1 (k + 1) m (m + 1)) (h2 : Rot l1 l2 k (k + 1) (k + 2)) : Rot l l2 k m (m + 1) where
  perm := h2.perm.trans h.perm
  at' z := by
    rw [h2.at', h.at']
    congr 1
    unfold rotI
    (repeat' split) <;> omega
theorem one_up {f : ByteArray → Int} {l l' : List ByteArray} {a i b : Nat} (h : Rot l l' a (a + 1) i) (hai : a + 1 ≤ i) (hib : i ≤ b) (hbl : b ≤ l.length) (hr : Rise f l (a + 1) b) (h1 : ∀ x, a + 1 ≤ x → x < i → f (gv l x) < f (gv l a)) (h2 : ∀ x, i ≤ x → x < b → f (gv l a) ≤ f (gv l x)) : Mov f l l' a b ∧ Rise f l' a b := by
  constructor
  · refine (rot_mov h (by omega) hai (fun x y hx hx2 hy hy2 => ?_) (by omega)).wide (Nat.le_refl _) hib
    rw [show x = a by omega]
    exact h1 y hy hy2
  · have r2 : ∀ z, a ≤ z → z + 1 < i → rotI a (a + 1) i z = z + 1 := fun z hz h2 => by unfold rotI; (repeat' split) <;> omega
    have r3 : rotI a (a + 1) i (i - 1) = a := by unfold rotI; (repeat' split) <;> omega
    have r4 : ∀ z, i ≤ z → rotI a (a + 1) i z = z := fun z hz => by unfold rotI; (repeat' split) <;> omega
    intro x y hx hxy hy
    rw [h.at', h.at']
    by_cases c1 : x + 1 < i
    · rw [r2 x hx c1]
      by_cases c2 : y + 1 < i
      · rw [r2 y (by omega) c2]; exact hr _ _ (by omega) (by omega) (by omega)
      · by_cases c3 : y + 1 = i
        · rw [show y = i - 1 by omega, r3]; have := h1 (x + 1) (by omega) c1; omega
        · rw [r4 y (by omega)]; exact hr _ _ (by omega) (by omega) hy
    · by_cases c3 : x + 1 = i
      · rw [show x = i - 1 by omega, r3, r4 y (by omega)]; exact h2 y (by omega) hy
      · rw [r4 x (by omega), r4 y (by omega)]; exact hr _ _ (by omega) hxy hy
theorem one_dn {f : ByteArray → Int} {l l' : List ByteArray} {a i m : Nat} (h : Rot l l' i m (m + 1)) (hai : a ≤ i) (him : i ≤ m) (hml : m + 1 ≤ l.length) (hr : Rise f l a m) (h1 : ∀ x, a ≤ x → x < i → f (gv l x) ≤ f (gv l m)) (h2 : ∀ x, i ≤ x → x < m → f (gv l m) < f (gv l x)) : Mov f l l' a (m + 1) ∧ Rise f l' a (m + 1) := by
  constructor
  · refine (rot_mov h him (by omega) (fun x y hx hx2 hy hy2 => ?_) (by omega)).wide hai (Nat.le_refl _)
    rw [show y = m by omega]
    exact h2 x hx hx2
  · have r1 : ∀ z, z < i → rotI i m (m + 1) z = z := fun z hz => by unfold rotI; (repeat' split) <;> omega
    have r2 : rotI i m (m + 1) i = m := by unfold rotI; (repeat' split) <;> omega
    have r3 : ∀ z, i < z → z < m + 1 → rotI i m (m + 1) z = z - 1 := fun z hz hz2 => by unfold rotI; (repeat' split) <;> omega
    intro x y hx hxy hy
    rw [h.at', h.at']
    by_cases c1 : y < i
    · rw [r1 x (by omega), r1 y c1]; exact hr _ _ hx hxy (by omega)
    · by_cases c2 : y = i
      · rw [c2, r1 x (by omega), r2]; exact h1 x hx (by omega)
      · rw [r3 y (by omega) hy]
        by_cases c3 : x < i
        · rw [r1 x c3]
          by_cases c4 : x = y - 1
          · omega
          · exact hr _ _ hx (by omega) (by omega)
        · by_cases c4 : x = i
          · rw [c4, r2]; have := h2 (y - 1) (by omega) (by omega); omega
          · rw [r3 x (by omega) (by omega)]; exact hr _ _ (by omega) (by omega) (by omega)
/-- What the search of a merge's middle has found. -/
structure Mid (f : ByteArray → Int) (l : List ByteArray) (a m b s : Nat) : Prop where
  sa : a ≤ s
  sm : s ≤ m
  em : m ≤ (a + b) / 2 + m - s
  eb : (a + b) / 2 + m - s ≤ b
  A : s = a ∨ (a + b) / 2 + m - s = b ∨ f (gv l (s - 1)) ≤ f (gv l ((a + b) / 2 + m - s))
  B : s = m ∨ (a + b) / 2 + m - s = m ∨ f (gv l ((a + b) / 2 + m - s - 1)) < f (gv l s)
theorem mid_rise {f : ByteArray → Int} {l l1 : List ByteArray} {a m b s : Nat} (h : Mid f l a m b s) (hb : b ≤ l.length) (h1 : Rise f l a m) (h2 : Rise f l m b) (hr : Rot l l1 s m ((a + b) / 2 + m - s)) :
    Mov f l l1 a b ∧ Rise f l1 a s ∧ Rise f l1 s ((a + b) / 2) ∧ Rise f l1 ((a + b) / 2) ((a + b) / 2 + m - s) ∧ Rise f l1 ((a + b) / 2 + m - s) b ∧ Halves f l1 a ((a + b) / 2) b := by
  obtain ⟨sa, sm, em, eb, A, B⟩ := h
  obtain ⟨k1, k2, k3, k4, k5, k6⟩ := rot_rise hr sa sm em eb h1 h2 A B
  rw [show s + ((a + b) / 2 + m - s - m) = (a + b) / 2 by omega] at k2 k3 k5
  exact ⟨(rot_mov hr sm em k6 (by omega)).wide sa eb, k1, k2, k3, k4, k5⟩
/-- Behind the rotation and perhaps the lower half's merge. -/
structure Fin2 (f : ByteArray → Int) (l lx : List ByteArray) (a mid e b : Nat) : Prop where
  mov : Mov f l lx a b
  lo : Rise f lx a mid
  r1 : Rise f lx mid e
  r2 : Rise f lx e b
  hv : Halves f lx a mid b
theorem fin_rec1 {f : ByteArray → Int} {l l1 l2 : List ByteArray} {a mid e b : Nat} (h0 : Mov f l l1 a b) (k3 : Rise f l1 mid e) (k4 : Rise f l1 e b) (k5 : Halves f l1 a mid b) (hb : mid ≤ b) (he : mid ≤ e) (hm : Mov f l1 l2 a mid) (hr : Rise f l2 a mid) : Fin2 f l l2 a mid e b :=
  ⟨h0.trans hm (Nat.le_refl _) hb, hr, hm.rise k3 (.inr (Nat.le_refl _)), hm.rise k4 (.inr he), hm.halves k5 (.inl ⟨Nat.le_refl _, Nat.le_refl _⟩)⟩
theorem fin_end {f : ByteArray → Int} {l lx : List ByteArray} {a mid e b : Nat} (h : Fin2 f l lx a mid e b) (he : e = mid ∨ e = b) : Mov f l lx a b ∧ Rise f lx a b :=
  ⟨h.mov, rise_of h.lo (by rcases he with rfl | rfl; exact h.r2; exact h.r1) h.hv⟩
theorem fin_rec2 {f : ByteArray → Int} {l lx l3 : List ByteArray} {a mid e b : Nat} (h : Fin2 f l lx a mid e b) (ha : a ≤ mid) (hm : Mov f lx l3 mid b) (hr : Rise f l3 mid b) : Mov f l l3 a b ∧ Rise f l3 a b :=
  ⟨h.mov.trans hm ha (Nat.le_refl _), rise_of (hm.rise h.lo (.inl (Nat.le_refl _))) hr (hm.halves h.hv (.inr ⟨Nat.le_refl _, Nat.le_refl _⟩))⟩
end Go.Mx
