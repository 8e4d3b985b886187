/- Names: the small laws that the walks ask for (no program in sight). -/
import Derived.Test.YtobpojlophhfaaaDoorNamQ
import Derived.Lib.Strings
import Derived.Lib.Repeat
import Derived.Lib.Bytealg
namespace Go.Mx
open Go Go.RowKit

theorem names_le8 (l : List UInt8) : (namesL l).length ≤ 8 := by
  unfold namesL
  split
  · rename_i h
    unfold pathB at h
    simp only [Bool.and_eq_true, decide_eq_true_eq] at h
    exact h.2.2
  · simp
theorem join_take_le (c : UInt8) (L : List (List UInt8)) (k : Nat) : (joinS c (L.take k)).length ≤ (joinS c L).length := by
  by_cases h1 : L.take k = []
  · rw [h1]; simp [joinS]
  · by_cases h2 : L.drop k = []
    · have := List.take_append_drop k L
      rw [h2, List.append_nil] at this
      rw [this]
      exact Nat.le_refl _
    · have := join_app c h1 h2
      rw [List.take_append_drop] at this
      rw [this]
      simp
theorem names_join_le (l : List UInt8) (k : Nat) : (joinS 47 ((namesL l).take k)).length ≤ 200 := by
  refine Nat.le_trans (join_take_le 47 _ k) ?_
  cases h : pathB l with
  | false => rw [names_not h]; simp [joinS]
  | true =>
    rw [(join_names h).1]
    unfold pathB at h
    simp only [Bool.and_eq_true, decide_eq_true_eq] at h
    exact h.1
theorem join_mem_le (c : UInt8) {L : List (List UInt8)} {p : List UInt8} (h : p ∈ L) : p.length ≤ (joinS c L).length := by
  have hne : L ≠ [] := by rintro rfl; simp at h
  have h1 := join_len c hne
  have h2 : p.length ≤ (L.map List.length).sum := by
    clear h1 hne
    induction L with
    | nil => simp at h
    | cons q L ih =>
      rw [List.map_cons, List.sum_cons]
      rcases List.mem_cons.1 h with rfl | h
      · omega
      · have := ih h; omega
  have h3 : 1 ≤ L.length := List.length_pos_iff.2 hne
  omega
theorem names_mem_le {l p : List UInt8} (h : p ∈ namesL l) : p.length ≤ 200 := by
  have h1 := names_join_le l (namesL l).length
  rw [List.take_length] at h1
  exact Nat.le_trans (join_mem_le 47 h) h1
theorem pars_snoc (l : List UInt8) (i : Nat) (h1 : 1 ≤ i) (h2 : i < (namesL l).length) : (parsL l).take (i + 1 - 1) = (parsL l).take (i - 1) ++ [joinS 47 ((namesL l).take i)] := by
  obtain ⟨j, rfl⟩ : ∃ j, i = j + 1 := ⟨i - 1, by omega⟩
  have hj : j < (parsL l).length := by rw [pars_len]; omega
  rw [Nat.add_sub_cancel, Nat.add_sub_cancel, List.take_succ_eq_append_getElem hj, pars_get hj]
theorem join_snoc (c : UInt8) {L : List (List UInt8)} {i : Nat} (h1 : 1 ≤ i) (h2 : i < L.length) : joinS c (L.take (i + 1)) = joinS c (L.take i) ++ c :: L[i] := by
  rw [List.take_succ_eq_append_getElem h2, join_app c (by
    intro h
    have := congrArg List.length h
    simp at this
    rcases this with h | h
    · omega
    · subst h; simp at h2) (by simp)]
  rfl
theorem join_one (c : UInt8) {L : List (List UInt8)} (h2 : 0 < L.length) : joinS c (L.take 1) = L[0] := by
  rw [List.take_succ_eq_append_getElem h2]
  rfl
theorem count_join (c : UInt8) : ∀ {L : List (List UInt8)}, L ≠ [] → (joinS c L).count c + 1 = (L.map (List.count c)).sum + L.length
  | [], h => absurd rfl h
  | [p], _ => by simp [joinS]
  | p :: q :: r, _ => by
    have := count_join c (L := q :: r) (by simp)
    rw [joinS, List.count_append, List.count_cons_self, List.map_cons, List.sum_cons, List.length_cons]
    omega
theorem sum_zero : ∀ {L : List Nat}, L.sum = 0 → ∀ x ∈ L, x = 0
  | [], _, x, h => by simp at h
  | y :: L, h0, x, h => by
    rw [List.sum_cons] at h0
    rcases List.mem_cons.1 h with rfl | h
    · omega
    · exact sum_zero (by omega) x h
/-- What the document asks of joined names. -/
theorem join_ref {L : List (List UInt8)} (h : L ≠ []) : goodB L = (decide ((pcs 47 0 (joinS 47 L)).length = L.length) && pathB (joinS 47 L)) := by
  by_cases hp : (pcs 47 0 (joinS 47 L)).length = L.length
  · have hc := count_join 47 h
    rw [pcs_len] at hp
    have hz : (L.map (List.count 47)).sum = 0 := by omega
    have hn : ∀ p ∈ L, (47 : UInt8) ∉ p := fun p hm => List.count_eq_zero.1 (sum_zero hz _ (List.mem_map.2 ⟨p, hm, rfl⟩))
    rw [path_join h hn, pcs_len, hp, decide_eq_true rfl, Bool.true_and]
  · rw [decide_eq_false hp, Bool.false_and, Bool.eq_false_iff]
    intro hg
    exact hp (by rw [pcs_join 47 h (good_no hg)])

theorem lib_suf (p : List UInt8) (c : UInt8) : Lib.hasSuffix p [c] = decide (p.getLast? = some c) := by
  rw [Bool.eq_iff_iff, decide_eq_true_iff]
  unfold Lib.hasSuffix
  rw [List.isSuffixOf_iff_suffix]
  constructor
  · rintro ⟨r, rfl⟩; simp
  · intro h
    exact ⟨p.dropLast, by
      have hne : p ≠ [] := by rintro rfl; simp at h
      rw [List.getLast?_eq_some_getLast hne] at h
      have h1 := List.dropLast_concat_getLast hne
      rwa [Option.some.inj h] at h1⟩
theorem lib_pre (p : List UInt8) (c : UInt8) : Lib.hasPrefix p [c] = decide (p.head? = some c) := by
  rw [Bool.eq_iff_iff, decide_eq_true_iff]
  unfold Lib.hasPrefix
  rw [List.isPrefixOf_iff_prefix]
  cases p with
  | nil => simp
  | cons x p => simp [eq_comm]
theorem lib_trimS (p : List UInt8) (c : UInt8) : Lib.trimSuffix p [c] = if p.getLast? = some c then p.dropLast else p := by
  unfold Lib.trimSuffix
  rw [lib_suf]
  by_cases h : p.getLast? = some c
  · rw [decide_eq_true h, if_pos rfl, if_pos h, List.dropLast_eq_take]
    rfl
  · rw [decide_eq_false h, if_neg h]
    rfl
theorem lib_trimP (p : List UInt8) (c : UInt8) : Lib.trimPrefix p [c] = if p.head? = some c then p.drop 1 else p := by
  unfold Lib.trimPrefix
  rw [lib_pre]
  by_cases h : p.head? = some c
  · rw [decide_eq_true h, if_pos rfl, if_pos h]
    rfl
  · rw [decide_eq_false h, if_neg h]
    rfl
theorem lib_trim47 (p : List UInt8) : Lib.trimSuffix p [47] = trimS p := lib_trimS p 47
theorem lib_rep (c : UInt8) : ∀ n, Lib.repeatL [c] n = List.replicate n c
  | 0 => rfl
  | n + 1 => by rw [Lib.repeatL, lib_rep c n]; rfl
theorem takes_pre {p n : List UInt8} (h : p.head? = some 42) : takesB p n = Lib.hasSuffix n (Lib.trimPrefix p [42]) := by
  unfold takesB
  rw [if_pos h, lib_trimP, if_pos h]
  rfl
theorem takes_suf {p n : List UInt8} (h : p.head? ≠ some 42) (h2 : p.getLast? = some 42) : takesB p n = Lib.hasPrefix n (Lib.trimSuffix p [42]) := by
  unfold takesB
  rw [if_neg h, if_pos h2, lib_trimS, if_pos h2]
  rfl
theorem takes_eq {p n : List UInt8} (h : p.head? ≠ some 42) (h2 : p.getLast? ≠ some 42) : takesB p n = decide (p = n) := by
  unfold takesB
  rw [if_neg h, if_neg h2]
theorem head_get {s : ByteArray} (h : 0 < s.size) : (bL s).head? = some s[0] := by
  have hl : 0 < (bL s).length := h
  rw [List.head?_eq_getElem?, List.getElem?_eq_getElem hl]
  rfl
theorem last_get {s : ByteArray} (h : 0 < s.size) : (bL s).getLast? = some (s[s.size - 1]'(by omega)) := by
  have hl : (bL s).length - 1 < (bL s).length := by have : (bL s).length = s.size := rfl; omega
  rw [List.getLast?_eq_getElem?, List.getElem?_eq_getElem hl]
  rfl
theorem tx_map (L : List (List UInt8)) : (tx L).map bL = L := by
  unfold tx
  rw [List.map_map]
  conv => rhs; rw [← List.map_id L]
  apply List.map_congr_left
  intro x _
  exact bL_str x
theorem tx_bL (l : List ByteArray) : tx (l.map bL) = l := by
  unfold tx
  rw [List.map_map]
  conv => rhs; rw [← List.map_id l]
  apply List.map_congr_left
  intro x _
  exact str_bL x
theorem tx_cut (L : List (List UInt8)) (i : Nat) : ((tx L).take i).drop 0 = tx (L.take i) := by simp [tx, List.map_take]
theorem copy_len (s id : List UInt8) (n : Int) : (copyL s id n).length = s.length + 1 + min 8 id.length + (min (max n 0) 100).toNat := by
  unfold copyL
  simp
  omega
theorem bare_tx (a b : ByteArray) : (a.toList == b.toList) = decide (bL a = bL b) := by
  rw [ByteArray.toList_eq, ByteArray.toList_eq, Bool.eq_iff_iff, beq_iff_eq, decide_eq_true_iff]
  rfl
theorem ext_take (s : ByteArray) (k : Nat) : bL (s.extract 0 k) = (bL s).take k := by
  unfold bL
  rw [ByteArray.data_extract]
  simp
theorem ext_drop (s : ByteArray) (k : Nat) : bL (s.extract k s.size) = (bL s).drop k := by
  unfold bL
  rw [ByteArray.data_extract]
  simp only [Array.toList_extract, List.extract_eq_take_drop]
  apply List.take_of_length_le
  rw [List.length_drop, Array.length_toList]
  exact Nat.le_refl _
end Go.Mx
