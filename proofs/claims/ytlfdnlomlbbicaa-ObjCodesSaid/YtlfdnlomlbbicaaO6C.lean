/- marlaw6.ObjCuts. -/
import Derived.Test.YtlfdnlomlbbicaaO6U
namespace Go.Mx
open Go Go.RowKit
/-- A tree or a commit is read as itself, whatever stands behind it. -/
theorem read_pre {o : Ob} (h : mayB o = true) (hk : o.kind ≠ 1) (ext : List UInt8) : ∃ k r, encL o = k :: r ∧ (k.toNat : Int) = o.kind ∧ readO o.kind (r ++ ext) = o := by
  obtain ⟨kind, data, items, tree, parents, stamp, author, msg⟩ := o
  unfold mayB at h
  simp only [] at h hk
  rw [if_neg hk] at h
  by_cases h2 : kind = 2
  · subst h2
    simp only [if_true, Bool.and_eq_true, decide_eq_true_eq, bareB, itemsB] at h
    obtain ⟨⟨rfl, ⟨hi, _⟩, hl⟩, rfl, rfl, rfl, rfl, rfl⟩ := h
    refine ⟨2, putL items.length ++ items.flatMap itemL, by simp [encL], rfl, ?_⟩
    have := rdItems_app items ext hi
    simp [readO, nm_app (show items.length ≤ 72057594037927936 by omega), this]
  by_cases h3 : kind = 3
  · subst h3
    simp only [show ¬ (3 : Int) = 2 by omega, if_false, if_true, Bool.and_eq_true, decide_eq_true_eq, parentsB, msgB] at h
    obtain ⟨⟨⟨⟨⟨⟨rfl, rfl⟩, ht⟩, ⟨hp, _⟩, hpl⟩, hs1, hs2⟩, ha1, ha2⟩, _, hml⟩ := h
    have hsz : msg.size = (bL msg).length := by simp [bL]
    refine ⟨3, rawL tree ++ (UInt8.ofNat parents.length :: parents.flatMap rawL) ++ putL stamp.toNat ++ putL author.toNat ++ putL msg.size ++ bL msg, by simp [encL], rfl, ?_⟩
    have e2 : (UInt8.ofNat parents.length).toNat = parents.length := by rw [UInt8.toNat_ofNat']; omega
    have e3 := tk_app (n := (bL msg).length) (l := bL msg) (r := ext) rfl
    simp only [readO, show ¬ (3 : Int) = 1 by omega, show ¬ (3 : Int) = 2 by omega, if_false, if_true, List.append_assoc, List.cons_append, hs_app (raw_len ht), on_app, e2, rdPars_app parents _ hp, nm_app (show stamp.toNat ≤ 72057594037927936 by omega),
      nm_app (show author.toNat ≤ 72057594037927936 by omega), hsz, nm_app (show (bL msg).length ≤ 72057594037927936 by omega), e3, raw_hex ht, str_bL]
    congr 1 <;> omega
  · rw [if_neg h2, if_neg h3] at h; cases h
theorem enc_pre {o p : Ob} {ext : List UInt8} (ho : mayB o = true) (hp : mayB p = true) (hk : p.kind ≠ 1) (h : encL o = encL p ++ ext) : o = p := by
  obtain ⟨k, r, e1, e2, e3⟩ := read_pre hp hk ext
  obtain ⟨k', r', f1, f2, f3⟩ := read_enc ho
  rw [f1, e1, List.cons_append] at h
  obtain ⟨rfl, rfl⟩ := List.cons.inj h
  rw [← f3, ← f2, e2, e3]
theorem enc_kind {o : Ob} (ho : mayB o = true) {k : UInt8} {r : List UInt8} (h : encL o = k :: r) : o.kind = (k.toNat : Int) := by
  obtain ⟨k', r', f1, f2, _⟩ := read_enc ho
  rw [f1] at h
  cases h
  exact f2.symm
theorem dec_cases (b : List UInt8) : b = [] ∧ decO b = (noOb, 2) ∨ b ≠ [] ∧ decO b = (noOb, 4) ∨ ∃ o, decO b = (o, 0) ∧ mayB o = true ∧ encL o = b := by
  match b with
  | [] => exact .inl ⟨rfl, rfl⟩
  | k :: r =>
    by_cases h : mayB (readO (k.toNat : Int) r) = true ∧ encL (readO (k.toNat : Int) r) = k :: r
    · exact .inr (.inr ⟨_, by unfold decO; simp only []; rw [if_pos h], h⟩)
    · exact .inr (.inl ⟨by simp, by unfold decO; simp only []; rw [if_neg h]⟩)
theorem dec_cut {o : Ob} (ho : mayB o = true) (hk : o.kind ≠ 1) {n : Nat} (hn : n < (encL o).length) : decO ((encL o).take n) = (noOb, if n = 0 then 2 else 4) := by
  rcases dec_cases ((encL o).take n) with ⟨h, hd⟩ | ⟨h, hd⟩ | ⟨p, hd, hp, he⟩
  · have : n = 0 := by
      have := congrArg List.length h
      simp at this
      rcases this with h | h
      · exact h
      · rw [h] at hn; simp at hn
    rw [hd, if_pos this]
  · have : n ≠ 0 := by rintro rfl; exact h rfl
    rw [hd, if_neg this]
  · exfalso
    have hsplit : encL o = encL p ++ (encL o).drop n := by rw [he, List.take_append_drop]
    have hpk : p.kind ≠ 1 := by
      obtain ⟨k, r, f1, f2, _⟩ := read_enc hp
      rw [f1, List.cons_append] at hsplit
      rw [enc_kind ho hsplit] at hk
      rw [← f2]; exact hk
    have := enc_pre ho hp hpk hsplit
    subst this
    have := congrArg List.length he
    simp at this
    omega
theorem dec_more {o : Ob} (ho : mayB o = true) (hk : o.kind ≠ 1) (c : UInt8) : decO (encL o ++ [c]) = (noOb, 4) := by
  rcases dec_cases (encL o ++ [c]) with ⟨h, hd⟩ | ⟨h, hd⟩ | ⟨p, hd, hp, he⟩
  · simp at h
  · exact hd
  · exfalso
    have := enc_pre hp ho hk he
    subst this
    have := congrArg List.length he
    simp at this
theorem flat_le {α : Type} (f : α → List UInt8) (m : Nat) : ∀ l : List α, (∀ x ∈ l, (f x).length ≤ m) → (l.flatMap f).length ≤ l.length * m
  | [], _ => by simp
  | x :: l, h => by
    rw [List.flatMap_cons, List.length_append, List.length_cons, Nat.succ_mul]
    have h1 := h x (by simp)
    have h2 := flat_le f m l fun y hy => h y (by simp [hy])
    omega
theorem putL_9' {n : Nat} (h : n ≤ 72057594037927936) : (putL n).length ≤ 9 := by
  have := putL_le 9 n (by have : (128 : Nat) ^ 9 = 9223372036854775808 := by decide
                          omega)
  omega
theorem enc_len {o : Ob} (h : mayB o = true) : (encL o).length ≤ 100000 := by
  obtain ⟨kind, data, items, tree, parents, stamp, author, msg⟩ := o
  unfold mayB at h
  simp only [] at h
  by_cases h1 : kind = 1
  · subst h1
    simp only [if_true, Bool.and_eq_true, decide_eq_true_eq] at h
    simp [encL]; omega
  rw [if_neg h1] at h
  by_cases h2 : kind = 2
  · subst h2
    simp only [if_true, Bool.and_eq_true, decide_eq_true_eq, itemsB] at h
    obtain ⟨⟨_, ⟨hi, _⟩, hl⟩, _⟩ := h
    have h9 := putL_9' (show items.length ≤ 72057594037927936 by omega)
    have hf := flat_le itemL 106 items fun x hx => by
      have := List.all_eq_true.1 hi x hx
      simp only [itemB, Bool.and_eq_true, decide_eq_true_eq] at this
      obtain ⟨⟨_, hn⟩, hv⟩ := this
      have h32 := raw_len hv
      simp only [nameB, Bool.and_eq_true, decide_eq_true_eq] at hn
      have hn2 := hn.2.2.1
      have hsz : x.2.1.size = (bL x.2.1).length := by simp [bL]
      have h9 := putL_9' (show x.2.1.size ≤ 72057594037927936 by omega)
      simp [itemL]
      omega
    simp [encL, -List.length_flatMap]
    omega
  rw [if_neg h2] at h
  by_cases h3 : kind = 3
  · subst h3
    simp only [if_true, Bool.and_eq_true, decide_eq_true_eq, parentsB, msgB] at h
    obtain ⟨⟨⟨⟨⟨_, ht⟩, ⟨hp, _⟩, hpl⟩, hs1, hs2⟩, ha1, ha2⟩, _, hml⟩ := h
    have e1 := raw_len ht
    have hf := flat_le rawL 32 parents fun x hx => by rw [raw_len (List.all_eq_true.1 hp x hx)]; exact Nat.le_refl _
    have p1 := putL_9' (show stamp.toNat ≤ 72057594037927936 by omega)
    have p2 := putL_9' (show author.toNat ≤ 72057594037927936 by omega)
    have p3 := putL_9' (show msg.size ≤ 72057594037927936 by omega)
    have hsz : msg.size = (bL msg).length := by simp [bL]
    simp [encL, -List.length_flatMap]
    omega
  · rw [if_neg h3] at h; cases h
end Go.Mx
