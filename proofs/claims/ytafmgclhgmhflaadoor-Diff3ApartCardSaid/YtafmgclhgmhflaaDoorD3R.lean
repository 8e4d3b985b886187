/- Merges of three texts that change lines apart, or the same line: plain facts. -/
import Derived.Test.YtafmgclhgmhflaaDoorD3Q
namespace Go.Mx
open Go Go.RowKit

theorem mpairs_none (a b : Tx) (i j : Nat) (h : ∀ r s, i ≤ r → j ≤ s → ∀ (h1 : r < a.length) (h2 : s < b.length), a[r] ≠ b[s]) : mpairs a b i j = [] :=
  List.eq_nil_iff_forall_not_mem.2 fun p hp => by
    obtain ⟨h1, h2, h3, h4, h5⟩ := mpairs_mem a b i j p hp
    exact h p.1 p.2 h1 h2 h3 h4 h5
/-- Where both have lines that the other one has not, both go on. -/
theorem mpairs_gap (a b : Tx) : ∀ (s i j n m : Nat), n + m = s → a.drop (i + n) = b.drop (j + m) → i + n ≤ a.length → j + m ≤ b.length → (∀ r, j ≤ r → r < j + m → ∀ (hr : r < b.length), b[r] ∉ a) → (∀ r, i ≤ r → r < i + n → ∀ (hr : r < a.length), a[r] ∉ b) →
    mpairs a b i j = mpairs a b (i + n) (j + m)
  | s, i, j, 0, m, hs, h, hi, hj, hno, _ => mpairs_skip a b i j m h hi hj hno
  | s, i, j, n + 1, 0, hs, h, hi, hj, _, hno' => mpairs_skip' a b i j (n + 1) h.symm hj hi hno'
  | 0, i, j, n + 1, m + 1, hs, _, _, _, _, _ => by omega
  | s + 1, i, j, n + 1, m + 1, hs, h, hi, hj, hno, hno' => by
    have hlt : i < a.length := by omega
    have hltj : j < b.length := by omega
    rw [mpairs, dif_pos ⟨hlt, hltj⟩, if_neg (fun e : a[i] = b[j] => hno j (Nat.le_refl _) (by omega) hltj (by rw [← e]; exact List.getElem_mem _))]
    have i1 := mpairs_gap a b s (i + 1) j n (m + 1) (by omega) (by rw [show i + 1 + n = i + (n + 1) by omega]; exact h) (by omega) hj hno (fun r h1 h2 => hno' r (by omega) (by omega))
    have i2 := mpairs_gap a b s i (j + 1) (n + 1) m (by omega) (by rw [show j + 1 + m = j + (m + 1) by omega]; exact h) hi (by omega) (fun r h1 h2 => hno r (by omega) (by omega)) hno'
    rw [show i + 1 + n = i + (n + 1) by omega] at i1
    rw [show j + 1 + m = j + (m + 1) by omega] at i2
    split
    · exact i1
    · exact i2

/-- What places tell. -/
theorem pla_hit {o a : Tx} {p : Nat × Nat} (h : p ∈ mpairs o a 0 0) : (pla o.length (mpairs o a 0 0)).getD p.1 0 = p.2 := by
  have := plc_hit (mpairs o a 0 0) (List.replicate o.length (-1)) (mpairs_rise o a 0 0) (fun p hp => by rw [List.length_replicate]; exact (mpairs_mem o a 0 0 p hp).2.2.1) p h
  rw [List.getD_eq_getElem?_getD]
  show ((plc (mpairs o a 0 0) (List.replicate o.length (-1)))[p.1]?).getD 0 = p.2
  rw [this]; rfl
theorem pla_miss {o a : Tx} {t : Nat} (ht : t < o.length) (h : ∀ p ∈ mpairs o a 0 0, p.1 ≠ t) : (pla o.length (mpairs o a 0 0)).getD t 0 = -1 := by
  have e1 := getD_some (X := pla o.length (mpairs o a 0 0)) (t := t) (by rw [pla_len]; exact ht)
  rcases pla_get e1 with h' | ⟨p, hp, h1, _⟩
  · exact h'
  · exact absurd h1 (h p hp)
theorem seg_app (F G : Tx) : seg (F ++ G) 0 F.length = F := by simp [seg]
theorem seg_end (F : Tx) (m : ByteArray) (G : Tx) : seg (F ++ m :: G) (F.length + 1) (F ++ m :: G).length = G := by
  rw [seg, List.take_length]
  simp [List.drop_append]
theorem drop_end (F : Tx) (m : ByteArray) (G : Tx) : (F ++ m :: G).drop (F.length + 1) = G := by simp [List.drop_append]
theorem get_pre {F H : Tx} {r : Nat} (h : r < F.length) : (F ++ H)[r]'(by rw [List.length_append]; omega) = F[r] := List.getElem_append_left h

/-- Changes apart: both are taken. -/
theorem mrg_apart (F G A B : Tx) (m : ByteArray) (h1 : ∀ x ∈ F, x ∉ A ++ m :: G) (h2 : ∀ x ∈ A, x ∉ F ++ m :: G) (h3 : ∀ x ∈ G, x ∉ B) :
    mrg (chk (F ++ m :: G) (A ++ m :: G) (F ++ m :: B)) = some (A ++ m :: B) := by
  have lo : (F ++ m :: G).length = F.length + (G.length + 1) := by simp
  have la : (A ++ m :: G).length = A.length + (G.length + 1) := by simp
  have lb : (F ++ m :: B).length = F.length + (B.length + 1) := by simp
  have hp : mpairs (F ++ m :: G) (A ++ m :: G) 0 0 = (List.range (G.length + 1)).map fun t => (F.length + t, A.length + t) := by
    have := mpairs_gap (F ++ m :: G) (A ++ m :: G) _ 0 0 F.length A.length rfl (by simp) (by omega) (by omega)
      (fun r _ hr hr' => by rw [Nat.zero_add] at hr; rw [get_pre hr]; exact h2 _ (List.getElem_mem _)) (fun r _ hr hr' => by rw [Nat.zero_add] at hr; rw [get_pre hr]; exact h1 _ (List.getElem_mem _))
    rw [this, Nat.zero_add, Nat.zero_add, mpairs_same _ _ _ _ (by simp) (by omega) (by omega), lo, show F.length + (G.length + 1) - F.length = G.length + 1 by omega]
  have hq : mpairs (F ++ m :: G) (F ++ m :: B) 0 0 = (List.range (F.length + 1)).map fun t => (0 + t, 0 + t) := by
    rw [mpairs_pre (F ++ m :: G) (F ++ m :: B) 0 (F.length + 1) (by omega) (by omega) (fun k _ hk h1 h2 => by
      rw [List.getElem_append, List.getElem_append]
      split
      · rfl
      · simp [show k - F.length = 0 by omega])]
    rw [mpairs_none _ _ _ _ (fun r s hr hs h1 h2 he => by
      have e1 : (F ++ m :: G)[r] = ((F ++ m :: G).drop (F.length + 1))[r - (F.length + 1)]'(by rw [List.length_drop]; omega) := by rw [List.getElem_drop]; congr 1; omega
      have e2 : (F ++ m :: B)[s] = ((F ++ m :: B).drop (F.length + 1))[s - (F.length + 1)]'(by rw [List.length_drop]; omega) := by rw [List.getElem_drop]; congr 1; omega
      have m1 : (F ++ m :: G)[r] ∈ G := by have := List.getElem_mem (l := (F ++ m :: G).drop (F.length + 1)) (n := r - (F.length + 1)) (by rw [List.length_drop]; omega); rw [← e1, drop_end] at this; exact this
      have m2 : (F ++ m :: B)[s] ∈ B := by have := List.getElem_mem (l := (F ++ m :: B).drop (F.length + 1)) (n := s - (F.length + 1)) (by rw [List.length_drop]; omega); rw [← e2, drop_end] at this; exact this
      exact h3 _ m1 (by rw [he]; exact m2))]
    simp
  have x1 : ∀ r, r < F.length → (pla (F ++ m :: G).length (mpairs (F ++ m :: G) (A ++ m :: G) 0 0)).getD r 0 = -1 := fun r hr => pla_miss (by omega) fun p hp' => by
    rw [hp] at hp'; obtain ⟨t, _, rfl⟩ := List.mem_map.1 hp'; show F.length + t ≠ r; omega
  have x2 : (pla (F ++ m :: G).length (mpairs (F ++ m :: G) (A ++ m :: G) 0 0)).getD F.length 0 = (A.length : Int) := by
    have := pla_hit (o := F ++ m :: G) (a := A ++ m :: G) (p := (F.length, A.length)) (by rw [hp]; exact List.mem_map.2 ⟨0, by simp, by simp⟩)
    exact this
  have y1 : (pla (F ++ m :: G).length (mpairs (F ++ m :: G) (F ++ m :: B) 0 0)).getD F.length 0 = (F.length : Int) := by
    have := pla_hit (o := F ++ m :: G) (a := F ++ m :: B) (p := (F.length, F.length)) (by rw [hq]; exact List.mem_map.2 ⟨F.length, by simp, by simp⟩)
    exact this
  have y2 : ∀ r, F.length + 1 ≤ r → r < (F ++ m :: G).length → (pla (F ++ m :: G).length (mpairs (F ++ m :: G) (F ++ m :: B) 0 0)).getD r 0 = -1 := fun r hr hr' => pla_miss hr' fun p hp' => by
    rw [hq] at hp'; obtain ⟨t, ht, rfl⟩ := List.mem_map.1 hp'; have := List.mem_range.1 ht; show 0 + t ≠ r; omega
  unfold chk
  generalize pla (F ++ m :: G).length (mpairs (F ++ m :: G) (A ++ m :: G) 0 0) = X at *
  generalize pla (F ++ m :: G).length (mpairs (F ++ m :: G) (F ++ m :: B) 0 0) = Y at *
  have hm : (F ++ m :: G)[F.length]'(by omega) = m := by simp
  have tail : ∀ run, mrg (cks (F ++ m :: G) (A ++ m :: G) (F ++ m :: B) X Y (F.length + 1) (F.length + 1) (A.length + 1) (F.length + 1) run) = some (run ++ B) := fun run => by
    rw [cks_skips run _ _ _ (F ++ m :: G).length ((F ++ m :: G).length - (F.length + 1)) (F.length + 1) (by omega) (Nat.le_refl _) (fun r h1 h2 => .inr (by rw [y2 r h1 h2]; omega)), cks_end (Nat.le_refl _), seg_end, seg_end, seg_end, mrg_app, mrg_flu, mrg_gap]
    by_cases h : B = G
    · rw [if_pos h, h]; rfl
    · rw [if_neg h, if_pos rfl]; rfl
  rw [cks_skips [] 0 0 0 F.length F.length 0 (by omega) (by omega) (fun r _ hr => .inl (by rw [x1 r hr]; omega))]
  by_cases hz : 0 < F.length ∨ 0 < A.length ∨ 0 < F.length
  · rw [cks_gap (by omega) x2 y1 hz, mrg_app, mrg_app, seg_app, seg_app, seg_app, mrg_gap, if_pos rfl, tail, mrg_flu, hm]
    simp
  · have f0 : F = [] := List.eq_nil_of_length_eq_zero (by omega)
    have a0 : A = [] := List.eq_nil_of_length_eq_zero (by omega)
    rw [cks_run (by omega) x2 y1 hz]
    have := tail ([] ++ [(F ++ m :: G)[F.length]'(by omega)])
    rw [hm] at this
    subst f0 a0
    simpa using this

/-- One line, changed by both. -/
theorem mrg_both (P S : Tx) (u v w : ByteArray) (hu : u ∉ P) (hu' : u ∉ S) (hv : v ∉ P) (hv' : v ∉ S) (hw : w ∉ P) (hw' : w ∉ S) (huv : u ≠ v) (huw : u ≠ w) :
    mrg (chk (P ++ u :: S) (P ++ v :: S) (P ++ w :: S)) = if v = w then some (P ++ v :: S) else none := by
  have lo : ∀ x : ByteArray, (P ++ x :: S).length = P.length + (S.length + 1) := fun x => by simp
  have hp : ∀ x : ByteArray, u ≠ x → x ∉ P → x ∉ S → mpairs (P ++ u :: S) (P ++ x :: S) 0 0 = ((List.range P.length).map fun t => (0 + t, 0 + t)) ++ (List.range S.length).map fun t => (P.length + 1 + t, P.length + 1 + t) := by
    intro x hx h1 h2
    rw [mpairs_pre (P ++ u :: S) (P ++ x :: S) 0 P.length (by rw [lo]; omega) (by rw [lo]; omega) (fun k _ hk h1 h2 => by
      rw [Nat.zero_add] at hk; rw [get_pre hk, get_pre hk])]
    rw [mpairs_gap (P ++ u :: S) (P ++ x :: S) 2 (0 + P.length) (0 + P.length) 1 1 rfl (by rw [Nat.zero_add, drop_end, drop_end]) (by rw [lo]; omega) (by rw [lo]; omega)
      (fun r h3 h4 hr => by obtain rfl : r = P.length := by omega
                            simp [h1, h2, Ne.symm hx]) (fun r h3 h4 hr => by obtain rfl : r = P.length := by omega
                                                                             simp [hu, hu', hx]),
      mpairs_same _ _ _ _ (by rw [Nat.zero_add, drop_end, drop_end]) (by rw [lo]; omega) (by rw [lo]; omega), lo, Nat.zero_add, show P.length + (S.length + 1) - (P.length + 1) = S.length by omega]
  have hx : ∀ x : ByteArray, u ≠ x → x ∉ P → x ∉ S → ∀ r, r < (P ++ u :: S).length → (pla (P ++ u :: S).length (mpairs (P ++ u :: S) (P ++ x :: S) 0 0)).getD r 0 = if r = P.length then -1 else (r : Int) := by
    intro x hx h1 h2 r hr
    have hp := hp x hx h1 h2
    by_cases h : r = P.length
    · rw [if_pos h]
      refine pla_miss hr fun p hp' => ?_
      rw [hp] at hp'
      rcases List.mem_append.1 hp' with hp' | hp'
      · obtain ⟨t, ht, rfl⟩ := List.mem_map.1 hp'; have := List.mem_range.1 ht; show 0 + t ≠ r; omega
      · obtain ⟨t, ht, rfl⟩ := List.mem_map.1 hp'; show P.length + 1 + t ≠ r; omega
    · rw [if_neg h]
      refine pla_hit (o := P ++ u :: S) (a := P ++ x :: S) (p := (r, r)) ?_
      rw [hp]
      rw [lo] at hr
      by_cases h' : r < P.length
      · exact List.mem_append_left _ (List.mem_map.2 ⟨r, by simpa using h', by simp⟩)
      · exact List.mem_append_right _ (List.mem_map.2 ⟨r - (P.length + 1), by simp; omega, by simp; omega⟩)
  have hX := hx v huv hv hv'
  have hY := hx w huw hw hw'
  unfold chk
  generalize pla (P ++ u :: S).length (mpairs (P ++ u :: S) (P ++ v :: S) 0 0) = X at *
  generalize pla (P ++ u :: S).length (mpairs (P ++ u :: S) (P ++ w :: S) 0 0) = Y at *
  clear hp hx
  have lo' := lo u
  rw [cks_runs P.length 0 0 0 [] (by omega) (fun r hr => by rw [hX _ (by omega), hY _ (by omega), if_neg (by omega)]; simp), Nat.zero_add, seg_app, List.nil_append]
  rw [cks_skip (by omega) (.inl (by rw [hX _ (by omega), if_pos rfl]; omega))]
  have mg : mrg (gap [u] [v] [w]) = if v = w then some [v] else none := by
    rw [mrg_gap]
    by_cases h : v = w
    · subst h; simp [Ne.symm huv]
    · simp [h, Ne.symm huv, Ne.symm huw]
  have sg : ∀ x : ByteArray, seg (P ++ x :: S) P.length (P.length + 1) = [x] := fun x => by simp [seg, List.take_append]
  cases S with
  | nil =>
    rw [cks_end (by simp), mrg_app, mrg_flu]
    have l1 : ∀ x : ByteArray, (P ++ [x]).length = P.length + 1 := fun x => by simp
    rw [l1, l1, l1, sg, sg, sg, mg]
    split <;> simp
  | cons s S =>
    have hs1 : P.length + 1 < (P ++ u :: s :: S).length := by simp
    rw [cks_gap (x := P.length + 1) (y := P.length + 1) hs1 (by rw [hX _ hs1, if_neg (by omega)]) (by rw [hY _ hs1, if_neg (by omega)]) (by omega)]
    have hsv : (P ++ u :: s :: S)[P.length + 1] = s := by simp
    have lo3 : (P ++ u :: s :: S).length = P.length + 1 + 1 + S.length := by simp; omega
    rw [cks_runs S.length (P.length + 1 + 1) (P.length + 1 + 1) (P.length + 1 + 1) _ (by omega) (fun r hr => by rw [hX _ (by omega), hY _ (by omega), if_neg (by omega)]; simp)]
    rw [cks_end (by omega), hsv, sg, sg, sg]
    have sS : seg (P ++ u :: s :: S) (P.length + 1 + 1) (P.length + 1 + 1 + S.length) = S := by
      rw [← lo3, seg, List.take_length, show P ++ u :: s :: S = (P ++ [u, s]) ++ S by simp, show P.length + 1 + 1 = (P ++ [u, s]).length by simp]
      exact List.drop_left
    have e0 : ∀ x : ByteArray, seg (P ++ x :: s :: S) (P.length + 1 + 1 + S.length) (P ++ x :: s :: S).length = [] := fun x => by
      rw [show P.length + 1 + 1 + S.length = (P ++ x :: s :: S).length by simp; omega]; exact seg_self _ _
    rw [sS, e0, e0, e0, mrg_app, mrg_app, mrg_app, mrg_flu, mrg_flu, mg, mrg_gap]
    split <;> simp

/-- Lines one behind the other, read again. -/
theorem lns_lines : ∀ (L : List (List UInt8)) (r : List UInt8), (∀ p ∈ L, ∃ q, p = q ++ [10] ∧ (10 : UInt8) ∉ q) → lns (L.flatten ++ r) = L ++ lns r
  | [], r, _ => rfl
  | p :: L, r, h => by
    obtain ⟨q, rfl, hq⟩ := h p (List.mem_cons_self ..)
    have := lns_cut (p := q) (r := L.flatten ++ r) hq
    rw [List.flatten_cons, List.append_assoc, List.append_assoc]
    show lns (q ++ 10 :: (L.flatten ++ r)) = _
    rw [this, lns_lines L r fun p hp => h p (List.mem_cons_of_mem _ hp)]
    rfl
theorem lns_lines' (L : List (List UInt8)) (h : ∀ p ∈ L, ∃ q, p = q ++ [10] ∧ (10 : UInt8) ∉ q) : lns L.flatten = L := by
  have := lns_lines L [] h
  rw [List.append_nil] at this
  rw [this]; simp [lns]
end Go.Mx
