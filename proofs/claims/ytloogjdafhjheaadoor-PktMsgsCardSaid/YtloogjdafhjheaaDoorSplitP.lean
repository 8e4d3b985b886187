/- A text's lines, and texts cut at a sign: plain facts. -/
import Derived.Test.YtloogjdafhjheaaDoorPatchP
import Derived.Test.YtloogjdafhjheaaDoorOneP
import Derived.Lib.SplitLaws
import Derived.Lib.Join
namespace Go.Mx
open Go Go.RowKit

/-- A sign more ahead of the first piece. -/
def hdc (x : UInt8) : List (List UInt8) → List (List UInt8)
  | [] => [[x]]
  | p :: ps => (x :: p) :: ps
/-- Bytes cut at every sign c, of which sv bytes stay at the piece's end. -/
def pcs (c : UInt8) (sv : Nat) : List UInt8 → List (List UInt8)
  | [] => [[]]
  | x :: xs => if x = c then [c].take sv :: pcs c sv xs else hdc x (pcs c sv xs)
theorem hdc_len {x : UInt8} : ∀ {l : List (List UInt8)}, l ≠ [] → (hdc x l).length = l.length
  | [], h => absurd rfl h
  | _ :: _, _ => rfl
theorem pcs_ne (c : UInt8) (sv : Nat) : ∀ l, pcs c sv l ≠ []
  | [] => by simp [pcs]
  | x :: xs => by
    rw [pcs]
    split
    · simp
    · cases h : pcs c sv xs with
      | nil => simp [hdc]
      | cons p ps => simp [hdc]
theorem pcs_len (c : UInt8) (sv : Nat) : ∀ l : List UInt8, (pcs c sv l).length = l.count c + 1
  | [] => rfl
  | x :: xs => by
    rw [pcs]
    split
    · rename_i h; subst h; rw [List.length_cons, pcs_len x sv xs, List.count_cons_self]
    · rename_i h; rw [hdc_len (pcs_ne c sv xs), pcs_len c sv xs, List.count_cons_of_ne (by simpa using h)]
theorem pcs_none {c : UInt8} {sv : Nat} : ∀ {l : List UInt8}, c ∉ l → pcs c sv l = [l]
  | [], _ => rfl
  | x :: xs, h => by
    rw [pcs, if_neg (fun e => h (by simp [e])), pcs_none (fun e => h (List.mem_cons_of_mem _ e))]
    rfl
theorem pcs_cut {c : UInt8} {sv : Nat} : ∀ {p r : List UInt8}, c ∉ p → pcs c sv (p ++ c :: r) = (p ++ [c].take sv) :: pcs c sv r
  | [], r, _ => by rw [List.nil_append, pcs, if_pos rfl]; rfl
  | x :: p, r, h => by
    rw [List.cons_append, pcs, if_neg (fun e => h (by simp [e])), pcs_cut (fun e => h (List.mem_cons_of_mem _ e))]
    rfl
theorem index_cons (x c : UInt8) (l : List UInt8) : Lib.index (x :: l) [c] = if x = c then 0 else if Lib.index l [c] = -1 then -1 else Lib.index l [c] + 1 := by
  rw [Lib.index]
  by_cases h : x = c
  · simp [List.isPrefixOf, h]
  · simp [List.isPrefixOf, h, Ne.symm h]
theorem index_none {c : UInt8} : ∀ {l : List UInt8}, l.count c = 0 → Lib.index l [c] = -1
  | [], _ => by simp [Lib.index]
  | x :: l, h => by
    have hx : x ≠ c := by rintro rfl; simp at h
    rw [List.count_cons_of_ne (by simpa using hx)] at h
    rw [index_cons, if_neg hx, if_pos (index_none h)]
theorem index_some {c : UInt8} : ∀ {l : List UInt8}, l.count c ≠ 0 → ∃ i : Nat, Lib.index l [c] = i
  | [], h => absurd rfl h
  | x :: l, h => by
    rw [index_cons]
    by_cases hx : x = c
    · exact ⟨0, by rw [if_pos hx]; rfl⟩
    · rw [List.count_cons_of_ne (by simpa using hx)] at h
      obtain ⟨i, hi⟩ := index_some h
      rw [if_neg hx, hi, if_neg (by omega)]
      exact ⟨i + 1, by omega⟩
/-- The library's cut. -/
theorem splitK_pcs (c : UInt8) (sv : Nat) (hsv : sv ≤ 1) : ∀ l : List UInt8, Lib.splitK [c] sv (l.count c) l = pcs c sv l
  | [] => rfl
  | x :: l => by
    have ih := splitK_pcs c sv hsv l
    rw [pcs]
    by_cases hx : x = c
    · subst hx
      rw [if_pos rfl, List.count_cons_self, Lib.splitK, index_cons, if_pos rfl, if_neg (by decide)]
      simp only [Int.toNat_zero, Nat.zero_add, List.length_singleton, List.drop_succ_cons, List.drop_zero, ih]
      congr 1
      match sv, hsv with
      | 0, _ => rfl
      | 1, _ => rfl
    · rw [if_neg hx, List.count_cons_of_ne (by simpa using hx)]
      by_cases hc : l.count c = 0
      · rw [hc] at ih ⊢
        rw [Lib.splitK] at ih ⊢
        rw [← ih]; rfl
      · obtain ⟨i, hi⟩ := index_some hc
        obtain ⟨k, hk⟩ := Nat.exists_eq_succ_of_ne_zero hc
        rw [hk] at ih ⊢
        rw [Lib.splitK, hi, if_neg (by simp)] at ih
        rw [Lib.splitK, index_cons, if_neg hx, hi, if_neg (show ¬ ((i : Int) = -1) by omega), if_neg (show ¬ ((((i : Int) + 1) == -1) = true) by simp; omega), ← ih]
        simp only [hdc, List.length_singleton, show ((i : Int) + 1).toNat = i + 1 by omega, show (i : Int).toNat = i by omega]
        rw [show i + 1 + sv = (i + sv) + 1 by omega, List.take_succ_cons, List.drop_succ_cons]

/-- A text's lines. -/
def lns : List UInt8 → List (List UInt8)
  | [] => []
  | x :: xs => if x = 10 then [10] :: lns xs else hdc x (lns xs)
/-- Is nothing, or a line's end, at the end? -/
def endNl : List UInt8 → Bool
  | [] => true
  | [x] => x == 10
  | _ :: y :: l => endNl (y :: l)
theorem pcs_lns : ∀ l : List UInt8, pcs 10 1 l = lns l ++ if endNl l then [[]] else []
  | [] => rfl
  | [x] => by
    by_cases h : x = 10
    · subst h; rfl
    · simp [pcs, lns, endNl, hdc, h]
  | x :: y :: l => by
    have ih := pcs_lns (y :: l)
    have hne : lns (y :: l) ≠ [] := by
      rw [lns]; split
      · simp
      · cases lns l <;> simp [hdc]
    have e1 : endNl (x :: y :: l) = endNl (y :: l) := rfl
    rw [pcs, ih, e1, lns.eq_def (x :: y :: l)]
    simp only []
    by_cases h : x = 10
    · rw [if_pos h, if_pos h]; rfl
    · rw [if_neg h, if_neg h]
      cases hl : lns (y :: l) with
      | nil => exact absurd hl hne
      | cons p ps => rfl
theorem lns_none {l : List UInt8} (h : (10 : UInt8) ∉ l) (hne : l ≠ []) : lns l = [l] := by
  match l, hne with
  | x :: xs, _ =>
    rw [lns, if_neg (fun e => h (by simp [e]))]
    by_cases hx : xs = []
    · subst hx; rfl
    · rw [lns_none (fun e => h (List.mem_cons_of_mem _ e)) hx]; rfl
theorem lns_cut : ∀ {p r : List UInt8}, (10 : UInt8) ∉ p → lns (p ++ 10 :: r) = (p ++ [10]) :: lns r
  | [], r, _ => by rw [List.nil_append, lns, if_pos rfl]; rfl
  | x :: p, r, h => by
    rw [List.cons_append, lns, if_neg (fun e => h (by simp [e])), lns_cut (fun e => h (List.mem_cons_of_mem _ e))]
    rfl
theorem lns_flat : ∀ l : List UInt8, (lns l).flatten = l
  | [] => rfl
  | x :: xs => by
    have ih := lns_flat xs
    rw [lns]
    split
    · rename_i h; rw [List.flatten_cons, ih, h]; rfl
    · cases hl : lns xs with
      | nil => rw [hl] at ih; simp at ih; subst ih; rfl
      | cons p ps => rw [hl] at ih; simp [hdc] at ih ⊢; exact ih
theorem lns_len (l : List UInt8) : (lns l).length ≤ l.length := by
  match l with
  | [] => simp [lns]
  | x :: xs =>
    have ih := lns_len xs
    rw [lns]
    split
    · simp; exact ih
    · cases hl : lns xs with
      | nil => simp [hdc]
      | cons p ps => rw [hl] at ih; simp [hdc] at ih ⊢; omega
/-- Each line is a head without a line's end, and its end; the last one may lack it. -/
theorem lns_form : ∀ (l : List UInt8) (k : Nat) (hk : k < (lns l).length), (lns l)[k] ≠ [] ∧ (10 : UInt8) ∉ (lns l)[k].dropLast ∧ (k + 1 < (lns l).length → (lns l)[k].getLast? = some 10)
  | [], k, hk => by simp [lns] at hk
  | x :: xs, k, hk => by
    by_cases hx : x = 10
    · have e : lns (x :: xs) = [10] :: lns xs := by rw [lns, if_pos hx]
      match k with
      | 0 => simp [e]
      | k + 1 =>
        have hk' : k < (lns xs).length := by simpa [e] using hk
        have ih := lns_form xs k hk'
        simp only [e, List.getElem_cons_succ, List.length_cons]
        exact ⟨ih.1, ih.2.1, fun h => ih.2.2 (by omega)⟩
    · have e : lns (x :: xs) = hdc x (lns xs) := by rw [lns, if_neg hx]
      cases hl : lns xs with
      | nil =>
        have e' : lns (x :: xs) = [[x]] := by rw [e, hl]; rfl
        match k with
        | 0 => simp [e']
        | k + 1 => rw [e'] at hk; simp at hk
      | cons p ps =>
        have e' : lns (x :: xs) = (x :: p) :: ps := by rw [e, hl]; rfl
        match k with
        | 0 =>
          have ih := lns_form xs 0 (by rw [hl]; simp)
          simp only [hl, List.getElem_cons_zero, List.length_cons] at ih
          simp only [e', List.getElem_cons_zero, List.length_cons]
          obtain ⟨y, p', rfl⟩ := List.exists_cons_of_ne_nil ih.1
          refine ⟨by simp, ?_, fun h => ?_⟩
          · rw [List.dropLast_cons_of_ne_nil (by simp)]
            intro hm
            rcases List.mem_cons.1 hm with h | h
            · exact hx h.symm
            · exact ih.2.1 h
          · have := ih.2.2 h
            rw [List.getLast?_cons_cons]; exact this
        | k + 1 =>
          have hk' : k + 1 < (lns xs).length := by rw [e'] at hk; rw [hl]; simpa using hk
          have ih := lns_form xs (k + 1) hk'
          simp only [hl, List.getElem_cons_succ, List.length_cons] at ih
          simp only [e', List.getElem_cons_succ, List.length_cons]
          exact ih
theorem mem_le : ∀ {L : List (List UInt8)} {p : List UInt8}, p ∈ L → p.length ≤ L.flatten.length
  | q :: L, p, h => by
    rw [List.flatten_cons, List.length_append]
    rcases List.mem_cons.1 h with rfl | h
    · omega
    · have := mem_le h; omega
theorem lns_le {l p : List UInt8} (h : p ∈ lns l) : p.length ≤ l.length := by
  have := mem_le h
  rwa [lns_flat] at this
/-- A segment, and one sign more. -/
theorem seg_snoc {α : Type} {l : List α} {f i : Nat} (hf : f ≤ i) (hi : i < l.length) : (l.take (i + 1)).drop f = (l.take i).drop f ++ [l[i]] := by
  rw [List.take_succ_eq_append_getElem hi, List.drop_append_of_le_length (by rw [List.length_take]; omega)]
theorem seg_drop {α : Type} {l : List α} {f i : Nat} (hf : f ≤ i) (hi : i < l.length) : l.drop f = (l.take i).drop f ++ l[i] :: l.drop (i + 1) := by
  conv => lhs; rw [← List.take_append_drop i l]
  rw [List.drop_append_of_le_length (by rw [List.length_take]; omega), List.drop_eq_getElem_cons hi]
theorem seg_self {α : Type} (l : List α) (i : Nat) : (l.take i).drop i = [] := List.drop_eq_nil_of_le (by rw [List.length_take]; omega)
theorem seg_all {α : Type} {l : List α} {f i : Nat} (h : l.length ≤ i) : (l.take i).drop f = l.drop f := by rw [List.take_of_length_le h]
/-- Is it a text? -/
def isText (l : List UInt8) : Bool := decide ((0 : UInt8) ∉ l)
theorem isText_t {l : List UInt8} (h : (0 : UInt8) ∉ l) : isText l = true := decide_eq_true h
theorem isText_f {l : List UInt8} (h : (0 : UInt8) ∈ l) : isText l = false := decide_eq_false (not_not_intro h)
/-- Pieces as strings. -/
def tx (l : List (List UInt8)) : List ByteArray := l.map str
theorem tx_len (l : List (List UInt8)) : (tx l).length = l.length := by simp [tx]
theorem tx_app (l m : List (List UInt8)) : tx (l ++ m) = tx l ++ tx m := by simp [tx]
theorem tx_get {l : List (List UInt8)} {k : Nat} (h : k < (tx l).length) : (tx l)[k] = str (l[k]'(by rw [tx_len] at h; exact h)) := by simp [tx]
/-- The lines joined. -/
def joinL (l : List ByteArray) : List UInt8 := (l.map fun s => s.data.toList).flatten
theorem joinL_tx (l : List (List UInt8)) : joinL (tx l) = l.flatten := by
  unfold joinL tx
  rw [List.map_map]
  congr 1
  conv => rhs; rw [← List.map_id l]
  exact List.map_congr_left fun x _ => str_data x
theorem joinL_app (l m : List ByteArray) : joinL (l ++ m) = joinL l ++ joinL m := by simp [joinL]
theorem joinL_cons (x : ByteArray) (l : List ByteArray) : joinL (x :: l) = x.data.toList ++ joinL l := by simp [joinL]
theorem lib_join (l : List ByteArray) : Lib.join (l.map (·.data.toList)) (ByteArray.empty).data.toList = joinL l := by
  unfold Lib.join joinL
  rw [show (ByteArray.empty).data.toList = [] from rfl]
  induction l with
  | nil => rfl
  | cons x l ih =>
    cases l with
    | nil => simp
    | cons y l => simp at ih ⊢; exact ih
end Go.Mx
