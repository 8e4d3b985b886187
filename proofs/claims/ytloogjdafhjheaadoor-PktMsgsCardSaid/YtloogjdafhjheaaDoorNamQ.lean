/- Names: what the document's answers compute is what the program's do (no program in sight). -/
import Derived.Test.YtloogjdafhjheaaDoorNamP
namespace Go.Mx
open Go Go.RowKit

theorem path_last {d : List UInt8} : pathB (d ++ [47]) = false := by
  rw [Bool.eq_false_iff]
  intro h
  unfold pathB at h
  simp only [Bool.and_eq_true] at h
  have := List.all_eq_true.1 h.2.1 [] (by rw [pcs_app]; simp [pcs])
  simp [nameB] at this
/-- Under, as the document says it. -/
theorem under_ref (d s : List UInt8) : underB d s = (pathB d && (pathB s && (decide (d.length + 1 < s.length) && (decide (s.take d.length = d) && decide (s[d.length]? = some 47))))) := by
  unfold underB
  cases hd : pathB d with
  | false => rfl
  | true =>
    cases hs : pathB s with
    | false => rfl
    | true =>
      rw [Bool.eq_iff_iff]
      simp only [Bool.and_eq_true, decide_eq_true_eq, Bool.true_and]
      rw [List.isPrefixOf_iff_prefix]
      constructor
      · rintro ⟨r, hr⟩
        have hr0 : r ≠ [] := by
          rintro rfl
          rw [List.append_nil] at hr
          rw [← hr, path_last] at hs
          cases hs
        have hl := congrArg List.length hr
        have hrl : 0 < r.length := List.length_pos_iff.2 hr0
        simp at hl
        refine ⟨by omega, ?_, ?_⟩
        · rw [← hr]; simp
        · rw [← hr]; simp
      · rintro ⟨h1, h2, h3⟩
        refine ⟨s.drop (d.length + 1), ?_⟩
        obtain ⟨h4, h5⟩ := List.getElem?_eq_some_iff.1 h3
        have e := List.take_append_drop d.length s
        rw [List.drop_eq_getElem_cons h4, h5, h2] at e
        rw [← e]
        simp

/-- The prefixes of a ++ l ahead of each sign of l. -/
def rp : List UInt8 → List UInt8 → List (List UInt8)
  | _, [] => []
  | a, x :: l => if x = 47 then a :: rp (a ++ [x]) l else rp (a ++ [x]) l
theorem rp_pcs : ∀ (l a : List UInt8), rp a l = (List.range (l.count 47)).map fun i => joinS 47 ((pcs 47 0 (a ++ l)).take (a.count 47 + 1 + i))
  | [], a => by simp [rp]
  | x :: l, a => by
    rw [rp]
    have ih := rp_pcs l (a ++ [x])
    rw [List.append_assoc, List.singleton_append] at ih
    split
    · rename_i h
      subst h
      rw [ih, List.count_cons_self, List.range_succ_eq_map, List.map_cons, List.map_map]
      congr 1
      · rw [pcs_app, Nat.add_zero, show a.count 47 + 1 = (pcs 47 0 a).length from (pcs_len 47 0 a).symm, List.take_left, join_pcs]
      · apply List.map_congr_left
        intro i _
        simp only [Function.comp, List.count_append, List.count_singleton]
        congr 2
        simp
        omega
    · rename_i h
      rw [ih, List.count_cons_of_ne (by simpa using h)]
      apply List.map_congr_left
      intro i _
      rw [List.count_append, List.count_singleton]
      rw [if_neg (by simpa using h), Nat.add_zero]
theorem pars_ref {s : List UInt8} (h : pathB s = true) : parsL s = rp [] s := by
  rw [rp_pcs]
  unfold parsL namesL
  rw [if_pos h, pcs_len, Nat.add_sub_cancel]
  simp [Nat.add_comm]

/-- A pattern's parts: what stands ahead of a star, is there one, what stands behind it. -/
def partsB (p : List UInt8) : Option (List UInt8 × Bool × List UInt8) :=
  if nameB p = true then
    match pcs 42 0 p with
    | [_] => some (p, false, [])
    | [a, b] => if a ≠ [] ∧ b ≠ [] ∨ a ++ b = [] then none else some (a, true, b)
    | _ => none
  else none
def takesR (f : List UInt8) (star : Bool) (b n : List UInt8) : Bool := if star then decide (f.length + b.length ≤ n.length) && (decide (n.take f.length = f) && decide (n.drop (n.length - b.length) = b)) else decide (n = f)
theorem pcs_two {c : UInt8} {p a b : List UInt8} (h : pcs c 0 p = [a, b]) : p = a ++ c :: b ∧ c ∉ a ∧ c ∉ b := by
  have h1 := join_pcs c p
  rw [h] at h1
  exact ⟨h1.symm, pcs_no c p a (by rw [h]; simp), pcs_no c p b (by rw [h]; simp)⟩
theorem parts_some (p : List UInt8) : (partsB p).isSome = (nameB p && starB p) := by
  unfold partsB starB
  cases hn : nameB p with
  | false => rfl
  | true =>
    rw [if_pos rfl, Bool.true_and]
    have hl := pcs_len 42 0 p
    match hp : pcs 42 0 p with
    | [] => exact absurd hp (pcs_ne 42 0 p)
    | [a] =>
      rw [hp] at hl
      have : p.count 42 = 0 := by simpa using hl.symm
      simp [this]
    | [a, b] =>
      rw [hp] at hl
      have hc : p.count 42 = 1 := by simp at hl; omega
      obtain ⟨rfl, ha, hb⟩ := pcs_two hp
      simp only [hc]
      rw [Bool.eq_iff_iff]
      by_cases h1 : a = []
      · subst h1
        by_cases h2 : b = []
        · subst h2; simp
        · have : 0 < b.length := List.length_pos_iff.2 h2
          simp [h2]
          omega
      · by_cases h2 : b = []
        · subst h2
          have : 0 < a.length := List.length_pos_iff.2 h1
          simp [h1]
          omega
        · have e1 : (a ++ 42 :: b).head? ≠ some 42 := by
            cases a with
            | nil => exact absurd rfl h1
            | cons x a => simp; intro h; exact ha (by simp [h])
          have e2 : (a ++ 42 :: b).getLast? ≠ some 42 := by
            have hb' := List.getLast?_eq_some_getLast h2
            rw [show a ++ 42 :: b = (a ++ [42]) ++ b by simp, List.getLast?_append, hb']
            intro h
            simp at h
            exact hb (by rw [← h]; exact List.getLast_mem h2)
          rw [decide_eq_false e1, decide_eq_false e2]
          simp [h1, h2]
    | a :: b :: d :: r =>
      rw [hp] at hl
      have hc : 2 ≤ p.count 42 := by simp at hl; omega
      have e0 : p.count 42 ≠ 0 := by omega
      have e1 : p.count 42 ≠ 1 := by omega
      simp [e0, e1]

theorem head_no {p : List UInt8} {c : UInt8} (h : c ∉ p) : p.head? ≠ some c := by
  cases p with
  | nil => simp
  | cons x p => simp; intro e; exact h (by simp [e])
theorem last_no {p : List UInt8} {c : UInt8} (h : c ∉ p) : p.getLast? ≠ some c := by
  intro e
  exact h (List.mem_of_getLast? e)
theorem takes_ref {p f b n : List UInt8} {star : Bool} (h : partsB p = some (f, star, b)) : takesB p n = takesR f star b n := by
  unfold partsB at h
  split at h
  · split at h
    · rename_i q hq
      cases h
      have hc : (42 : UInt8) ∉ p := by
        have := pcs_len 42 0 p
        rw [hq] at this
        exact List.count_eq_zero.1 (by simpa using this.symm)
      unfold takesB takesR
      rw [if_neg (head_no hc), if_neg (last_no hc)]
      simp [eq_comm]
    · rename_i a b' hq
      split at h
      · cases h
      · rename_i hne
        cases h
        obtain ⟨rfl, ha, hb⟩ := pcs_two hq
        unfold takesB takesR
        simp only [if_true]
        by_cases h1 : f = []
        · subst h1
          rw [if_pos (by rfl)]
          rw [Bool.eq_iff_iff]
          simp only [List.nil_append, List.drop_succ_cons, List.drop_zero, List.isSuffixOf_iff_suffix, Bool.and_eq_true, decide_eq_true_eq, List.length_nil, Nat.zero_add, List.take_zero, true_and]
          constructor
          · rintro ⟨r, rfl⟩
            refine ⟨by simp, by simp⟩
          · rintro ⟨h2, h3⟩
            exact ⟨n.take (n.length - b.length), (congrArg (n.take (n.length - b.length) ++ ·) h3).symm.trans (List.take_append_drop _ _)⟩
        · have h2 : b = [] := by
            cases b with
            | nil => rfl
            | cons x b => exact absurd (.inl ⟨h1, by simp⟩) hne
          subst h2
          have e1 : (f ++ [42]).head? ≠ some 42 := by
            cases f with
            | nil => exact absurd rfl h1
            | cons x f => simp; intro e; exact ha (by simp [e])
          rw [if_neg e1, if_pos (by simp)]
          rw [Bool.eq_iff_iff]
          simp only [List.dropLast_concat, List.isPrefixOf_iff_prefix, Bool.and_eq_true, decide_eq_true_eq, List.length_nil, Nat.add_zero, Nat.sub_zero, List.drop_length, and_true]
          constructor
          · rintro ⟨r, rfl⟩
            exact ⟨by simp, by simp⟩
          · rintro ⟨_, h3⟩
            exact ⟨n.drop f.length, (congrArg (· ++ n.drop f.length) h3).symm.trans (List.take_append_drop _ _)⟩
    · cases h
  · cases h

/-- Does a pattern leave out a path of these names: the document's words. -/
def outR (p : List UInt8) (l : List (List UInt8)) : Bool := match partsB (trimS p) with
  | some (f, star, b) => (List.range l.length).any fun k => (!(decide (p.getLast? = some 47)) || decide (k + 1 < l.length)) && takesR f star b (l.getD k [])
  | none => false
theorem out_ref (p : List UInt8) (l : List (List UInt8)) : outB p l = outR p l := by
  unfold outB outR patB
  rw [← parts_some]
  cases hp : partsB (trimS p) with
  | none => rfl
  | some q =>
    obtain ⟨f, star, b⟩ := q
    simp only [Option.isSome_some, Bool.true_and]
    rw [Bool.eq_iff_iff]
    simp only [List.any_eq_true, List.mem_range]
    constructor
    · rintro ⟨i, hi, h⟩
      refine ⟨i, hi, ?_⟩
      rw [takes_ref hp] at h
      simp only [Bool.and_eq_true, Bool.not_eq_true', Bool.and_eq_false_iff, decide_eq_false_iff_not, Bool.or_eq_true, decide_eq_true_eq] at h ⊢
      refine ⟨?_, h.1⟩
      rcases h.2 with h | h
      · exact .inl h
      · exact .inr (by omega)
    · rintro ⟨i, hi, h⟩
      refine ⟨i, hi, ?_⟩
      rw [takes_ref hp]
      simp only [Bool.and_eq_true, Bool.not_eq_true', Bool.and_eq_false_iff, decide_eq_false_iff_not, Bool.or_eq_true, decide_eq_true_eq] at h ⊢
      refine ⟨h.2, ?_⟩
      rcases h.1 with h | h
      · exact .inl h
      · exact .inr (by omega)

theorem trim_no {p : List UInt8} (h : (47 : UInt8) ∉ p) : trimS p = p := by unfold trimS; rw [if_neg (last_no h)]
theorem trim_dir (p : List UInt8) : trimS (p ++ [47]) = p := by unfold trimS; rw [if_pos (by simp), List.dropLast_concat]
theorem takes_self {n : List UInt8} (h : (42 : UInt8) ∉ n) : takesB n n = true := by
  unfold takesB
  rw [if_neg (head_no h), if_neg (last_no h)]
  simp
/-- A name of a path leaves it out. -/
theorem out_self {n : List UInt8} {l : List (List UInt8)} (hp : patB n = true) (hs : (42 : UInt8) ∉ n) (hn : (47 : UInt8) ∉ n) (hm : n ∈ l) : outB n l = true := by
  obtain ⟨i, hi, rfl⟩ := List.mem_iff_getElem.1 hm
  unfold outB
  rw [hp, Bool.true_and, List.any_eq_true]
  refine ⟨i, List.mem_range.2 hi, ?_⟩
  rw [trim_no hn, List.getD_eq_getElem?_getD, List.getElem?_eq_getElem hi, Option.getD_some, takes_self hs, decide_eq_false (last_no hn)]
  rfl
theorem out_dir {n : List UInt8} {l : List (List UInt8)} (hp : patB n = true) (hs : (42 : UInt8) ∉ n) (hn : (47 : UInt8) ∉ n) {i : Nat} (hi : i + 1 < l.length) (he : l[i] = n) : outB (n ++ [47]) l = true := by
  have hp2 : patB (n ++ [47]) = true := by
    unfold patB at hp ⊢
    rw [trim_no hn] at hp
    rw [trim_dir]; exact hp
  unfold outB
  rw [hp2, Bool.true_and, List.any_eq_true]
  refine ⟨i, List.mem_range.2 (by omega), ?_⟩
  rw [trim_dir, List.getD_eq_getElem?_getD, List.getElem?_eq_getElem (by omega), Option.getD_some, he, takes_self hs, decide_eq_false (show ¬ i + 1 = l.length by omega), Bool.and_false]
  rfl
theorem ign_app (P R : List (List UInt8)) (s : List UInt8) : ignB (P ++ R) s = (ignB P s || ignB R s) := List.any_append
theorem under_names {s t : List UInt8} (h : underB s t = true) : ∃ M, namesL t = namesL s ++ M := by
  unfold underB at h
  simp only [Bool.and_eq_true] at h
  obtain ⟨M, _, hM⟩ := (under_iff h.1.1 h.1.2).1 h.2
  exact ⟨M, hM⟩
end Go.Mx
