/- Names, paths, patterns: the plain mathematics (no program in sight). -/
import Derived.Test.YtloogjdafhjheaaDoorObjP
import Derived.Test.YtloogjdafhjheaaDoorSplitP
namespace Go.Mx
open Go Go.RowKit

/-- Pieces joined by a sign. -/
def joinS (c : UInt8) : List (List UInt8) → List UInt8
  | [] => []
  | [p] => p
  | p :: q :: r => p ++ c :: joinS c (q :: r)
def pathB (l : List UInt8) : Bool := decide (l.length ≤ 200) && ((pcs 47 0 l).all nameB && decide ((pcs 47 0 l).length ≤ 8))
def namesL (l : List UInt8) : List (List UInt8) := if pathB l = true then pcs 47 0 l else []
def goodB (L : List (List UInt8)) : Bool := decide (L ≠ [] ∧ L.length ≤ 8) && L.all nameB && decide ((joinS 47 L).length ≤ 200)
def joinN (L : List (List UInt8)) : List UInt8 × Int := if goodB L = true then (joinS 47 L, 0) else ([], 6)
def underB (d s : List UInt8) : Bool := pathB d && pathB s && (d ++ [47]).isPrefixOf s
def parsL (s : List UInt8) : List (List UInt8) := (List.range ((namesL s).length - 1)).map fun i => joinS 47 ((namesL s).take (i + 1))
def trimS (p : List UInt8) : List UInt8 := if p.getLast? = some 47 then p.dropLast else p
def starB (s : List UInt8) : Bool := decide (s.count 42 = 0) || (decide (s.count 42 = 1) && decide (1 < s.length) && (decide (s.head? = some 42) || decide (s.getLast? = some 42)))
def patB (p : List UInt8) : Bool := nameB (trimS p) && starB (trimS p)
def takesB (p n : List UInt8) : Bool := if p.head? = some 42 then (p.drop 1).isSuffixOf n else if p.getLast? = some 42 then p.dropLast.isPrefixOf n else decide (p = n)
/-- Does a pattern leave out a path of these names? -/
def outB (p : List UInt8) (l : List (List UInt8)) : Bool := patB p && (List.range l.length).any fun i => takesB (trimS p) (l.getD i []) && !(decide (p.getLast? = some 47) && decide (i + 1 = l.length))
def ignB (P : List (List UInt8)) (s : List UInt8) : Bool := P.any fun p => outB p (namesL s)
def copyL (s id : List UInt8) (n : Int) : List UInt8 := s ++ 126 :: (id.take 8 ++ List.replicate (min (max n 0) 100).toNat 126)

theorem name_no {n : List UInt8} (h : nameB n = true) : (47 : UInt8) ∉ n := by
  unfold nameB at h
  simp only [Bool.and_eq_true] at h
  intro hm
  have := List.all_eq_true.1 h.1 47 hm
  simp at this
theorem name_ne {n : List UInt8} (h : nameB n = true) : n ≠ [] := by
  unfold nameB at h
  simp only [Bool.and_eq_true, decide_eq_true_eq] at h
  exact h.2.1
theorem name_le {n : List UInt8} (h : nameB n = true) : n.length ≤ 64 := by
  unfold nameB at h
  simp only [Bool.and_eq_true, decide_eq_true_eq] at h
  exact h.2.2.1

theorem hdc_append (x : UInt8) : ∀ {l m : List (List UInt8)}, l ≠ [] → hdc x (l ++ m) = hdc x l ++ m
  | [], _, h => absurd rfl h
  | _ :: _, _, _ => rfl
/-- Cut at one of the signs. -/
theorem pcs_app (c : UInt8) (b : List UInt8) : ∀ a : List UInt8, pcs c 0 (a ++ c :: b) = pcs c 0 a ++ pcs c 0 b
  | [] => by simp [pcs]
  | x :: a => by
    rw [List.cons_append, pcs, pcs, pcs_app c b a]
    split
    · rfl
    · rw [hdc_append x (pcs_ne c 0 a)]
theorem pcs_free {c : UInt8} {l : List UInt8} (h : c ∉ l) : pcs c 0 l = [l] := pcs_none h
theorem pcs_join (c : UInt8) : ∀ {L : List (List UInt8)}, L ≠ [] → (∀ p ∈ L, c ∉ p) → pcs c 0 (joinS c L) = L
  | [], h, _ => absurd rfl h
  | [p], _, h => pcs_free (h p (by simp))
  | p :: q :: r, _, h => by
    rw [joinS, pcs_app, pcs_free (h p (by simp)), pcs_join c (by simp) (fun x hx => h x (by simp at hx ⊢; exact .inr hx))]
    rfl
theorem join_hdc (c x : UInt8) : ∀ {L : List (List UInt8)}, L ≠ [] → joinS c (hdc x L) = x :: joinS c L
  | [], h => absurd rfl h
  | [p], _ => rfl
  | p :: q :: r, _ => by rw [hdc, joinS, joinS]; rfl
theorem join_cons (c : UInt8) (p : List UInt8) : ∀ {L : List (List UInt8)}, L ≠ [] → joinS c (p :: L) = p ++ c :: joinS c L
  | [], h => absurd rfl h
  | _ :: _, _ => rfl
theorem join_pcs (c : UInt8) : ∀ l : List UInt8, joinS c (pcs c 0 l) = l
  | [] => rfl
  | x :: l => by
    rw [pcs]
    split
    · rename_i h
      subst h
      rw [join_cons _ _ (pcs_ne x 0 l), join_pcs x l]
      rfl
    · rw [join_hdc c x (pcs_ne c 0 l), join_pcs c l]
theorem pcs_no (c : UInt8) : ∀ (l : List UInt8), ∀ p ∈ pcs c 0 l, c ∉ p
  | [], p, h => by simp [pcs] at h; subst h; simp
  | x :: l, p, h => by
    rw [pcs] at h
    split at h
    · rcases List.mem_cons.1 h with rfl | h
      · simp
      · exact pcs_no c l p h
    · rename_i hx
      cases hp : pcs c 0 l with
      | nil => exact absurd hp (pcs_ne c 0 l)
      | cons q r =>
        rw [hp] at h
        simp only [hdc, List.mem_cons] at h
        rcases h with rfl | h
        · have := pcs_no c l q (by rw [hp]; simp)
          intro hm
          rcases List.mem_cons.1 hm with rfl | hm
          · exact hx rfl
          · exact this hm
        · exact pcs_no c l p (by rw [hp]; simp [h])
theorem join_app (c : UInt8) : ∀ {L M : List (List UInt8)}, L ≠ [] → M ≠ [] → joinS c (L ++ M) = joinS c L ++ c :: joinS c M
  | [], _, h, _ => absurd rfl h
  | [p], M, _, hM => join_cons c p hM
  | p :: q :: r, M, _, hM => by
    rw [List.cons_append, join_cons c p (by simp), join_app c (by simp) hM, joinS, List.append_assoc, List.cons_append]
theorem join_len (c : UInt8) : ∀ {L : List (List UInt8)}, L ≠ [] → (joinS c L).length + 1 = (L.map List.length).sum + L.length
  | [], h => absurd rfl h
  | [p], _ => by simp [joinS]
  | p :: q :: r, _ => by
    have := join_len c (L := q :: r) (by simp)
    rw [joinS]
    simp only [List.length_append, List.length_cons, List.map_cons, List.sum_cons] at this ⊢
    omega

/-- A path by its names. -/
theorem path_join {L : List (List UInt8)} (h : L ≠ []) (hn : ∀ p ∈ L, (47 : UInt8) ∉ p) : pathB (joinS 47 L) = goodB L := by
  unfold pathB goodB
  rw [pcs_join 47 h hn]
  rw [Bool.eq_iff_iff]
  simp only [Bool.and_eq_true, decide_eq_true_eq]
  constructor
  · rintro ⟨h1, h2, h3⟩; exact ⟨⟨⟨h, h3⟩, h2⟩, h1⟩
  · rintro ⟨⟨⟨_, h3⟩, h2⟩, h1⟩; exact ⟨h1, h2, h3⟩
theorem path_good (l : List UInt8) : pathB l = goodB (pcs 47 0 l) := by
  have := path_join (pcs_ne 47 0 l) (pcs_no 47 l)
  rwa [join_pcs] at this
theorem good_no {L : List (List UInt8)} (h : goodB L = true) : ∀ p ∈ L, (47 : UInt8) ∉ p := fun p hp => by
  unfold goodB at h
  simp only [Bool.and_eq_true] at h
  exact name_no (List.all_eq_true.1 h.1.2 p hp)
theorem good_ne {L : List (List UInt8)} (h : goodB L = true) : L ≠ [] := by
  unfold goodB at h
  simp only [Bool.and_eq_true, decide_eq_true_eq] at h
  exact h.1.1.1
theorem names_join {L : List (List UInt8)} (h : goodB L = true) : namesL (joinS 47 L) = L := by
  unfold namesL
  rw [path_join (good_ne h) (good_no h), h, if_pos rfl, pcs_join 47 (good_ne h) (good_no h)]
theorem join_names {s : List UInt8} (h : pathB s = true) : joinS 47 (namesL s) = s ∧ goodB (namesL s) = true := by
  unfold namesL
  rw [if_pos h, join_pcs]
  exact ⟨rfl, by rw [← path_good]; exact h⟩

theorem take_good {L : List (List UInt8)} (h : goodB L = true) {k : Nat} (h1 : 1 ≤ k) (hk : k ≤ L.length) : goodB (L.take k) = true := by
  have hg := h
  unfold goodB at h ⊢
  simp only [Bool.and_eq_true, decide_eq_true_eq] at h ⊢
  obtain ⟨⟨⟨hne, h8⟩, hn⟩, hl⟩ := h
  have hne2 : L.take k ≠ [] := by
    intro he
    have := congrArg List.length he
    simp at this
    rcases this with h | h
    · omega
    · exact hne h
  refine ⟨⟨⟨hne2, by rw [List.length_take]; omega⟩, ?_⟩, ?_⟩
  · rw [List.all_eq_true] at hn ⊢
    exact fun p hp => hn p (List.mem_of_mem_take hp)
  · by_cases hd : L.drop k = []
    · have : L.take k = L := by
        have := List.take_append_drop k L
        rw [hd, List.append_nil] at this
        exact this
      rw [this]; exact hl
    · have := join_app 47 hne2 hd
      rw [List.take_append_drop] at this
      rw [this] at hl
      simp at hl
      omega
theorem under_iff {d s : List UInt8} (hd : pathB d = true) (hs : pathB s = true) : (d ++ [47]).isPrefixOf s = true ↔ ∃ M, M ≠ [] ∧ namesL s = namesL d ++ M := by
  rw [List.isPrefixOf_iff_prefix]
  constructor
  · rintro ⟨r, hr⟩
    refine ⟨pcs 47 0 r, pcs_ne 47 0 r, ?_⟩
    unfold namesL
    rw [if_pos hs, if_pos hd, ← pcs_app, ← hr]
    simp
  · rintro ⟨M, hM, hn⟩
    have h1 := (join_names hd).1
    have h2 := (join_names hs).1
    have h3 := good_ne (join_names hd).2
    rw [hn, join_app 47 h3 hM, h1] at h2
    exact ⟨joinS 47 M, by rw [← h2]; simp⟩
theorem names_not {s : List UInt8} (h : pathB s = false) : namesL s = [] := by unfold namesL; rw [h]; rfl
theorem pars_len (s : List UInt8) : (parsL s).length = (namesL s).length - 1 := by simp [parsL]
theorem pars_get {s : List UInt8} {i : Nat} (h : i < (parsL s).length) : (parsL s)[i] = joinS 47 ((namesL s).take (i + 1)) := by simp [parsL]
theorem pars_path {s : List UInt8} {i : Nat} (h : i < (parsL s).length) : pathB s = true ∧ i + 1 < (namesL s).length := by
  rw [pars_len] at h
  refine ⟨?_, by omega⟩
  cases hp : pathB s with
  | true => rfl
  | false => rw [names_not hp] at h; simp at h
theorem pars_names {s : List UInt8} {i : Nat} (h : i < (parsL s).length) : pathB (parsL s)[i] = true ∧ namesL (parsL s)[i] = (namesL s).take (i + 1) := by
  obtain ⟨hs, hi⟩ := pars_path h
  have hg := take_good (join_names hs).2 (show 1 ≤ i + 1 by omega) (by omega)
  rw [pars_get h]
  exact ⟨by rw [path_join (good_ne hg) (good_no hg)]; exact hg, names_join hg⟩
theorem under_pars {s : List UInt8} {i : Nat} (h : i < (parsL s).length) : underB (parsL s)[i] s = true := by
  obtain ⟨hs, hi⟩ := pars_path h
  obtain ⟨h1, h2⟩ := pars_names h
  unfold underB
  rw [h1, hs, (under_iff h1 hs).2 ⟨(namesL s).drop (i + 1), by
    intro he
    have := congrArg List.length he
    simp at this
    omega, by rw [h2, List.take_append_drop]⟩]
  rfl
theorem under_mem (t s : List UInt8) : underB t s = decide (t ∈ parsL s) := by
  rw [Bool.eq_iff_iff, decide_eq_true_iff]
  constructor
  · intro h
    unfold underB at h
    simp only [Bool.and_eq_true] at h
    obtain ⟨⟨ht, hs⟩, hp⟩ := h
    obtain ⟨M, hM, hn⟩ := (under_iff ht hs).1 hp
    have hne := good_ne (join_names ht).2
    have hl : (namesL s).length = (namesL t).length + M.length := by rw [hn, List.length_append]
    have hMl : 0 < M.length := List.length_pos_iff.2 hM
    have htl : 0 < (namesL t).length := List.length_pos_iff.2 hne
    have hi : (namesL t).length - 1 < (parsL s).length := by rw [pars_len]; omega
    have := pars_get hi
    rw [show (namesL t).length - 1 + 1 = (namesL t).length by omega, hn, List.take_left, (join_names ht).1] at this
    rw [← this]
    exact List.getElem_mem hi
  · intro h
    obtain ⟨i, hi, rfl⟩ := List.mem_iff_getElem.1 h
    exact under_pars hi
theorem under_self (s : List UInt8) : underB s s = false := by
  rw [Bool.eq_false_iff]
  intro h
  unfold underB at h
  simp only [Bool.and_eq_true] at h
  have := (List.isPrefixOf_iff_prefix.1 h.2).length_le
  simp at this
  omega
theorem pars_pars {s : List UInt8} {i : Nat} (h : i < (parsL s).length) : parsL (parsL s)[i] = (parsL s).take i := by
  obtain ⟨hs, hi⟩ := pars_path h
  obtain ⟨h1, h2⟩ := pars_names h
  rw [parsL, h2]
  unfold parsL
  rw [List.map_take.symm, List.take_range, List.length_take]
  rw [show min (i + 1) (namesL s).length - 1 = i by omega, show min i ((namesL s).length - 1) = i by omega]
  apply List.map_congr_left
  intro j hj
  rw [List.mem_range] at hj
  rw [List.take_take, show min (j + 1) (i + 1) = j + 1 by omega]
theorem under_step {s : List UInt8} {i : Nat} (h : i + 1 < (parsL s).length) : underB ((parsL s)[i]'(by omega)) (parsL s)[i + 1] = true := by
  rw [under_mem, decide_eq_true_iff, pars_pars h]
  rw [List.mem_take_iff_getElem]
  exact ⟨i, by omega, rfl⟩
end Go.Mx
