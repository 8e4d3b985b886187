/- Packs: the plain mathematics of making one (no program in sight). -/
import Derived.Test.YtlfdnlomlbbicaaDoorDelZ
import Derived.Test.YtlfdnlomlbbicaaDoorShaP
namespace Go.Mx
open Go Go.RowKit

/-- How far back the nearest one lies by which one may be told, the latest first; 0: there is none. -/
def nearA (x : List UInt8) : List (List UInt8 × Nat) → Nat
  | [] => 0
  | p :: r => if p.1.head? = x.head? ∧ p.2 < 8 then 1 else if nearA x r = 0 then 0 else nearA x r + 1
def nearN (pre : List (List UInt8 × Nat)) (x : List UInt8) : Nat := nearA x pre.reverse
theorem nearA_le (x : List UInt8) : ∀ r, nearA x r ≤ r.length
  | [] => Nat.le_refl _
  | p :: r => by
    rw [nearA, List.length_cons]
    have := nearA_le x r
    split
    · omega
    · split <;> omega
theorem nearA_ok (x : List UInt8) : ∀ (r : List (List UInt8 × Nat)), nearA x r ≠ 0 → ∃ p, r[nearA x r - 1]? = some p ∧ p.1.head? = x.head? ∧ p.2 < 8
  | [], h => absurd rfl h
  | p :: r, h => by
    rw [nearA] at h ⊢
    split
    · rename_i hp
      exact ⟨p, rfl, hp⟩
    · rename_i hp
      rw [if_neg hp] at h
      split
      · rename_i h0
        rw [if_pos h0] at h
        exact absurd rfl h
      · rename_i h0
        obtain ⟨q, hq, h1⟩ := nearA_ok x r h0
        refine ⟨q, ?_, h1⟩
        rw [show nearA x r + 1 - 1 = (nearA x r - 1) + 1 by omega, List.getElem?_cons_succ]
        exact hq
theorem nearA_has (x : List UInt8) : ∀ (r : List (List UInt8 × Nat)) {p : List UInt8 × Nat}, p ∈ r → p.1.head? = x.head? → p.2 < 8 → nearA x r ≠ 0
  | q :: r, p, h, h1, h2 => by
    rw [nearA]
    split
    · omega
    · rename_i hq
      rcases List.mem_cons.1 h with rfl | h
      · exact absurd ⟨h1, h2⟩ hq
      · rw [if_neg (nearA_has x r h h1 h2)]
        omega
/-- As the program looks: from the end, k steps looked at already. -/
theorem nearA_drop (x : List UInt8) : ∀ (r : List (List UInt8 × Nat)) (k : Nat), (∀ j, j < k → ∀ p, r[j]? = some p → ¬ (p.1.head? = x.head? ∧ p.2 < 8)) → nearA x r = if nearA x (r.drop k) = 0 then 0 else nearA x (r.drop k) + k
  | r, 0, _ => by rw [List.drop_zero]; split <;> omega
  | [], k + 1, _ => by rw [List.drop_nil]; rfl
  | p :: r, k + 1, h => by
    rw [nearA, if_neg (h 0 (by omega) p rfl), List.drop_succ_cons, nearA_drop x r k (fun j hj q hq => h (j + 1) (by omega) q (by simpa using hq))]
    split
    · rfl
    · rename_i h0
      rw [if_neg (by omega)]
      omega
theorem nearN_le (pre : List (List UInt8 × Nat)) (x : List UInt8) : nearN pre x ≤ pre.length := by
  have := nearA_le x pre.reverse
  rwa [List.length_reverse] at this
theorem nearN_ok {pre : List (List UInt8 × Nat)} {x : List UInt8} (h : nearN pre x ≠ 0) : ∃ p, pre[pre.length - nearN pre x]? = some p ∧ p.1.head? = x.head? ∧ p.2 < 8 := by
  obtain ⟨p, hp, h1⟩ := nearA_ok x pre.reverse h
  refine ⟨p, ?_, h1⟩
  have hl := nearA_le x pre.reverse
  rw [List.length_reverse] at hl
  have hk : nearA x pre.reverse - 1 < pre.length := by unfold nearN at h; omega
  rw [List.getElem?_reverse hk] at hp
  rw [← hp]
  unfold nearN
  congr 1
  unfold nearN at h
  omega
/-- Place k is looked at; the later ones were none. -/
theorem nearN_at {pre : List (List UInt8 × Nat)} {x : List UInt8} {k : Nat} {p : List UInt8 × Nat} (hk : pre[k]? = some p) (h1 : p.1.head? = x.head? ∧ p.2 < 8) (hno : ∀ j, k < j → ∀ q, pre[j]? = some q → ¬ (q.1.head? = x.head? ∧ q.2 < 8)) : nearN pre x = pre.length - k := by
  have hlt : k < pre.length := (List.getElem?_eq_some_iff.1 hk).1
  unfold nearN
  rw [nearA_drop x pre.reverse (pre.length - 1 - k) (fun j hj q hq => by
    rw [List.getElem?_reverse (by omega)] at hq
    exact hno _ (by omega) q hq)]
  have hg : pre.reverse[pre.length - 1 - k]? = some p := by
    rw [List.getElem?_reverse (by omega), ← hk]
    congr 1
    omega
  obtain ⟨hl, he⟩ := List.getElem?_eq_some_iff.1 hg
  rw [List.drop_eq_getElem_cons hl, he, nearA, if_pos h1, if_neg (by omega)]
  omega
theorem nearN_no {pre : List (List UInt8 × Nat)} {x : List UInt8} (hno : ∀ (j : Nat) (q : List UInt8 × Nat), pre[j]? = some q → ¬ (q.1.head? = x.head? ∧ q.2 < 8)) : nearN pre x = 0 := by
  by_cases h : nearN pre x = 0
  · exact h
  · obtain ⟨p, hp, h1⟩ := nearN_ok h
    exact absurd h1 (hno _ p hp)

/-- What tells one object, behind others; its depth. -/
def whP (x : List UInt8) : List UInt8 := 0 :: (putL x.length ++ x)
def entP (pre : List (List UInt8 × Nat)) (x : List UInt8) : List UInt8 × Nat :=
  if nearN pre x = 0 then (whP x, 0)
  else if (makeR (pre.getD (pre.length - nearN pre x) ([], 0)).1 x).length < x.length then
    (1 :: (putL (nearN pre x) ++ (putL (makeR (pre.getD (pre.length - nearN pre x) ([], 0)).1 x).length ++ makeR (pre.getD (pre.length - nearN pre x) ([], 0)).1 x)), (pre.getD (pre.length - nearN pre x) ([], 0)).2 + 1)
  else (whP x, 0)
theorem ent_0 {pre : List (List UInt8 × Nat)} {x : List UInt8} (h : nearN pre x = 0) : entP pre x = (whP x, 0) := by unfold entP; rw [if_pos h]
theorem ent_1 {pre : List (List UInt8 × Nat)} {x b : List UInt8} {n d : Nat} (h : nearN pre x = n) (h0 : n ≠ 0) (hp : pre[pre.length - n]? = some (b, d)) (hm : (makeR b x).length < x.length) : entP pre x = (1 :: (putL n ++ (putL (makeR b x).length ++ makeR b x)), d + 1) := by
  have hg : pre.getD (pre.length - n) ([], 0) = (b, d) := by rw [List.getD_eq_getElem?_getD, hp]; rfl
  unfold entP
  rw [h, hg, if_neg h0, if_pos hm]
theorem ent_2 {pre : List (List UInt8 × Nat)} {x b : List UInt8} {n d : Nat} (h : nearN pre x = n) (h0 : n ≠ 0) (hp : pre[pre.length - n]? = some (b, d)) (hm : ¬ (makeR b x).length < x.length) : entP pre x = (whP x, 0) := by
  have hg : pre.getD (pre.length - n) ([], 0) = (b, d) := by rw [List.getD_eq_getElem?_getD, hp]; rfl
  unfold entP
  rw [h, hg, if_neg h0, if_neg hm]
def pkStep (s : List UInt8 × List (List UInt8 × Nat)) (x : List UInt8) : List UInt8 × List (List UInt8 × Nat) := (s.1 ++ (entP s.2 x).1, s.2 ++ [(x, (entP s.2 x).2)])
def pkAll (l : List (List UInt8)) : List UInt8 × List (List UInt8 × Nat) := l.foldl pkStep ([], [])
def pkB (l : List (List UInt8)) : List UInt8 := [77, 80, 49] ++ putL l.length ++ (pkAll l).1
def packL (l : List (List UInt8)) : List UInt8 := pkB l ++ sha (pkB l)
theorem pk_snoc (l : List (List UInt8)) (x : List UInt8) : pkAll (l ++ [x]) = pkStep (pkAll l) x := by
  unfold pkAll
  rw [List.foldl_append]
  rfl
theorem pk_take {l : List (List UInt8)} {i : Nat} (h : i < l.length) : pkAll (l.take (i + 1)) = pkStep (pkAll (l.take i)) l[i] := by rw [List.take_succ_eq_append_getElem h, pk_snoc]
/-- By one more from the end. -/
theorem pk_ind {P : List (List UInt8) → Prop} (h0 : P []) (h1 : ∀ l x, P l → P (l ++ [x])) (l : List (List UInt8)) : P l := by
  have : ∀ n, n ≤ l.length → P (l.take n) := by
    intro n
    induction n with
    | zero => intro _; rw [List.take_zero]; exact h0
    | succ n ih =>
      intro hn
      rw [List.take_succ_eq_append_getElem (by omega)]
      exact h1 _ _ (ih (by omega))
  have h2 := this l.length (Nat.le_refl _)
  rwa [List.take_length] at h2
theorem pk_fst (l : List (List UInt8)) : (pkAll l).2.map Prod.fst = l := by
  induction l using pk_ind with
  | h0 => rfl
  | h1 l x ih => rw [pk_snoc, pkStep, List.map_append, ih]; rfl
theorem pk_len (l : List (List UInt8)) : (pkAll l).2.length = l.length := by
  have := congrArg List.length (pk_fst l)
  rwa [List.length_map] at this
theorem ent_depth {pre : List (List UInt8 × Nat)} (x : List UInt8) : (entP pre x).2 ≤ 8 := by
  by_cases h : nearN pre x = 0
  · rw [ent_0 h]; omega
  · obtain ⟨⟨b, d⟩, hp, _, h2⟩ := nearN_ok h
    by_cases hm : (makeR b x).length < x.length
    · rw [ent_1 rfl h hp hm]
      simp only at h2 ⊢
      omega
    · rw [ent_2 rfl h hp hm]; omega
theorem pk_depth (l : List (List UInt8)) : ∀ p ∈ (pkAll l).2, p.2 ≤ 8 := by
  induction l using pk_ind with
  | h0 => intro p hp; cases hp
  | h1 l x ih =>
    intro p hp
    rw [pk_snoc, pkStep] at hp
    rcases List.mem_append.1 hp with hp | hp
    · exact ih p hp
    · rw [List.mem_singleton.1 hp]
      exact ent_depth x

theorem putL_1 {n : Nat} (h : n ≤ 127) : (putL n).length = 1 := by rw [putL, dif_pos (by omega)]; rfl
theorem ent_len {pre : List (List UInt8 × Nat)} {x : List UInt8} (hx : x.length ≤ 2000) (hl : pre.length ≤ 127) : (entP pre x).1.length ≤ x.length + 3 := by
  have hw : (whP x).length ≤ x.length + 3 := by
    have := putL_2 hx
    simp only [whP, List.length_cons, List.length_append]
    omega
  by_cases h : nearN pre x = 0
  · rw [ent_0 h]; exact hw
  · obtain ⟨⟨b, d⟩, hp, _, h2⟩ := nearN_ok h
    by_cases hm : (makeR b x).length < x.length
    · rw [ent_1 rfl h hp hm]
      have h3 := putL_1 (n := nearN pre x) (by have := nearN_le pre x; omega)
      have h4 := putL_2 (n := (makeR b x).length) (by omega)
      simp only [List.length_cons, List.length_append]
      omega
    · rw [ent_2 rfl h hp hm]; exact hw
theorem pk_size {l : List (List UInt8)} : (∀ x ∈ l, x.length ≤ 2000) → l.length ≤ 127 → (pkAll l).1.length ≤ (l.map List.length).sum + 3 * l.length := by
  induction l using pk_ind with
  | h0 => intro _ _; exact Nat.le_refl _
  | h1 l x ih =>
    intro hx hl
    have h1 := ih (fun y hy => hx y (List.mem_append_left _ hy)) (by simp at hl; omega)
    have h2 := ent_len (pre := (pkAll l).2) (hx x (by simp)) (by rw [pk_len]; simp at hl; omega)
    rw [pk_snoc, pkStep]
    simp only [List.length_append, List.map_append, List.sum_append, List.map_cons, List.map_nil, List.sum_cons, List.sum_nil, List.length_cons, List.length_nil]
    omega
theorem sha_32 (l : List UInt8) : (sha l).length = 32 := sha_len l
theorem pack_size {l : List (List UInt8)} (hx : ∀ x ∈ l, x.length ≤ 2000) (hl : l.length ≤ 127) : (packL l).length ≤ 36 + 3 * l.length + (l.map List.length).sum := by
  have h1 := pk_size hx hl
  have h2 := putL_1 hl
  have h3 := sha_32 (pkB l)
  simp only [packL, pkB, List.length_append, List.length_cons, List.length_nil] at h3 ⊢
  omega
/-- Objects alike: the later ones are told by an earlier one. -/
theorem pk_same {x : List UInt8} (h20 : 20 ≤ x.length) (hx : x.length ≤ 2000) : ∀ (n : Nat), n ≤ 120 → (∀ p ∈ (pkAll (List.replicate n x)).2, p.1 = x) ∧ (1 ≤ n → (∃ p ∈ (pkAll (List.replicate n x)).2, p.2 = 0) ∧ (pkAll (List.replicate n x)).1.length ≤ x.length + 3 + 11 * (n - 1))
  | 0, _ => ⟨fun p hp => (by cases hp), fun h => by omega⟩
  | n + 1, hn => by
    obtain ⟨ih1, ih2⟩ := pk_same h20 hx n (by omega)
    rw [List.replicate_succ', pk_snoc, pkStep]
    have hfst : ∀ p ∈ (pkAll (List.replicate n x)).2 ++ [(x, (entP (pkAll (List.replicate n x)).2 x).2)], p.1 = x := by
      intro p hp
      rcases List.mem_append.1 hp with hp | hp
      · exact ih1 p hp
      · rw [List.mem_singleton.1 hp]
    refine ⟨hfst, fun _ => ?_⟩
    by_cases h0 : n = 0
    · subst h0
      have he : entP (pkAll (List.replicate 0 x)).2 x = (whP x, 0) := ent_0 rfl
      rw [he]
      refine ⟨⟨(x, 0), by simp, rfl⟩, ?_⟩
      have := putL_2 hx
      simp [whP, pkAll]
      omega
    · obtain ⟨⟨p, hp, hp0⟩, hlen⟩ := ih2 (by omega)
      refine ⟨⟨p, List.mem_append_left _ hp, hp0⟩, ?_⟩
      have hne : nearN (pkAll (List.replicate n x)).2 x ≠ 0 := nearA_has x _ (List.mem_reverse.2 hp) (by rw [ih1 p hp]) (by omega)
      obtain ⟨⟨b, d⟩, hb, _, _⟩ := nearN_ok hne
      have hbx : b = x := ih1 (b, d) (List.mem_of_getElem? hb)
      subst hbx
      have hs := (short_self hx).2 (by omega)
      rw [ent_1 rfl hne hb (by omega)]
      have h3 := putL_1 (n := nearN (pkAll (List.replicate n b)).2 b) (by have := nearN_le (pkAll (List.replicate n b)).2 b; rw [pk_len, List.length_replicate] at this; omega)
      have h4 := putL_1 (n := (makeR b b).length) (by omega)
      simp only [List.length_cons, List.length_append]
      omega
theorem pack_same {x : List UInt8} (h20 : 20 ≤ x.length) (hx : x.length ≤ 2000) {n : Nat} (h1 : 1 ≤ n) (hn : n ≤ 120) : (packL (List.replicate n x)).length ≤ 37 + (x.length + 4) * ((n + 8) / 9) + 12 * n := by
  have h2 := ((pk_same h20 hx n hn).2 h1).2
  have h3 := sha_32 (pkB (List.replicate n x))
  have h4 := putL_1 (n := n) (by omega)
  have h5 : 1 ≤ (n + 8) / 9 := by omega
  have h6 : (x.length + 4) * 1 ≤ (x.length + 4) * ((n + 8) / 9) := Nat.mul_le_mul_left _ h5
  simp only [packL, pkB, List.length_append, List.length_cons, List.length_nil, List.length_replicate] at h3 ⊢
  omega
end Go.Mx
