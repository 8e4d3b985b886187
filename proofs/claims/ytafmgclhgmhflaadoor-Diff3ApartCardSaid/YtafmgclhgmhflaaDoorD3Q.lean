/- Chunks and merges of three texts: what holds of them. -/
import Derived.Test.YtafmgclhgmhflaaDoorD3P
namespace Go.Mx
open Go Go.RowKit

/-- A paired place holds one and the same line. -/
def Lin (o a : Tx) (X : List Int) : Prop := ∀ r v, X[r]? = some v → 0 ≤ v → ∃ (h1 : r < o.length) (h2 : v.toNat < a.length), o[r] = a[v.toNat]
theorem pla_lin (o a : Tx) : Lin o a (pla o.length (mpairs o a 0 0)) := fun _ _ h h0 => pla_line h h0
theorem Lin.at {o a : Tx} {X : List Int} {t x : Nat} (h : Lin o a X) (hl : X.length = o.length) (ht : t < o.length) (hx : X.getD t 0 = x) (ha : x < a.length) : o[t] = a[x] := by
  have e1 := getD_some (X := X) (t := t) (by rw [hl]; exact ht)
  rw [hx] at e1
  obtain ⟨_, _, h3⟩ := h t _ e1 (by omega)
  simpa using h3
theorem seg_drop' (l : Tx) {i j : Nat} (h : i ≤ j) (hj : j ≤ l.length) : seg l i j ++ l.drop j = l.drop i := by
  have h1 : l.drop i = (l.take j ++ l.drop j).drop i := by rw [List.take_append_drop]
  rw [h1, List.drop_append, show i - (l.take j).length = 0 by rw [List.length_take]; omega]
  rfl
theorem gap_flat {o a b : Tx} : ((gap o a b).map (·.o)).flatten = o ∧ ((gap o a b).map (·.a)).flatten = a ∧ ((gap o a b).map (·.b)).flatten = b := by
  unfold gap
  split
  · rename_i h
    have h1 : o = [] := List.eq_nil_of_length_eq_zero (by omega)
    have h2 : a = [] := List.eq_nil_of_length_eq_zero (by omega)
    have h3 : b = [] := List.eq_nil_of_length_eq_zero (by omega)
    subst h1 h2 h3; simp
  · simp
theorem flu_flat (run : Tx) : ((flu run).map (·.o)).flatten = run ∧ ((flu run).map (·.a)).flatten = run ∧ ((flu run).map (·.b)).flatten = run := by
  unfold flu; split <;> simp_all

/-- The ways of cks, for what is shown of it. -/
theorem cks_ind {o a b : Tx} {X Y : List Int} (P : Nat → Nat → Nat → Nat → Tx → List Ck → Prop)
    (hend : ∀ i j k run, Fit o a b X Y o.length i j k → P o.length i j k run (flu run ++ gap (seg o i o.length) (seg a j a.length) (seg b k b.length)))
    (hskip : ∀ t i j k run l, t < o.length → Fit o a b X Y t i j k → (X.getD t 0 < 0 ∨ Y.getD t 0 < 0) → P (t + 1) i j k run l → P t i j k run l)
    (hgap : ∀ t i j k run l x y, (ht : t < o.length) → Fit o a b X Y t i j k → X.getD t 0 = (x : Nat) → Y.getD t 0 = (y : Nat) → j ≤ x → k ≤ y → x < a.length → y < b.length → (i < t ∨ j < x ∨ k < y) → P (t + 1) (t + 1) (x + 1) (y + 1) [o[t]] l → P t i j k run (flu run ++ gap (seg o i t) (seg a j x) (seg b k y) ++ l))
    (hrun : ∀ t j k run l, (ht : t < o.length) → Fit o a b X Y t t j k → X.getD t 0 = (j : Nat) → Y.getD t 0 = (k : Nat) → j < a.length → k < b.length → P (t + 1) (t + 1) (j + 1) (k + 1) (run ++ [o[t]]) l → P t t j k run l) :
    ∀ (n t i j k : Nat) (run : Tx), t + n = o.length → Fit o a b X Y t i j k → P t i j k run (cks o a b X Y t i j k run)
  | 0, t, i, j, k, run, ht, hf => by
    obtain rfl : t = o.length := by omega
    rw [cks_end (Nat.le_refl _)]; exact hend i j k run hf
  | n + 1, t, i, j, k, run, ht, hf => by
    have htl : t < o.length := by omega
    by_cases hs : X.getD t 0 < 0 ∨ Y.getD t 0 < 0
    · rw [cks_skip htl hs]; exact hskip t i j k run _ htl hf hs (cks_ind P hend hskip hgap hrun n (t + 1) i j k run (by omega) (hf.skip htl))
    · obtain ⟨x, y, h1, h2, h3, h4, h5, h6⟩ := hf.at htl (by omega) (by omega)
      have ih := fun r => cks_ind P hend hskip hgap hrun n (t + 1) (t + 1) (x + 1) (y + 1) r (by omega) (hf.take htl h1 h2)
      by_cases hg : i < t ∨ j < x ∨ k < y
      · rw [cks_gap htl h1 h2 hg]; exact hgap t i j k run _ x y htl hf h1 h2 h3 h4 h5 h6 hg (ih _)
      · have := hf.it
        obtain rfl : i = t := by omega
        obtain rfl : j = x := by omega
        obtain rfl : k = y := by omega
        rw [cks_run htl h1 h2 hg]; exact hrun i j k run _ htl hf h1 h2 h5 h6 (ih _)

theorem cks_flat {o a b : Tx} {X Y : List Int} (lx : Lin o a X) (ly : Lin o b Y) {t i j k : Nat} (run : Tx) (hf : Fit o a b X Y t i j k) :
    ((cks o a b X Y t i j k run).map (·.o)).flatten = run ++ o.drop i ∧ ((cks o a b X Y t i j k run).map (·.a)).flatten = run ++ a.drop j ∧ ((cks o a b X Y t i j k run).map (·.b)).flatten = run ++ b.drop k := by
  refine cks_ind (o := o) (a := a) (b := b) (X := X) (Y := Y) (fun t i j k run l => (l.map (·.o)).flatten = run ++ o.drop i ∧ (l.map (·.a)).flatten = run ++ a.drop j ∧ (l.map (·.b)).flatten = run ++ b.drop k) ?_ ?_ ?_ ?_ (o.length - t) t i j k run (by have := hf.to; omega) hf
  · intro i j k run hf
    obtain ⟨f1, f2, f3⟩ := flu_flat run
    obtain ⟨g1, g2, g3⟩ := gap_flat (o := seg o i o.length) (a := seg a j a.length) (b := seg b k b.length)
    simp only [List.map_append, List.flatten_append, f1, f2, f3, g1, g2, g3]
    simp [seg]
  · intro t i j k run l _ _ _ h; exact h
  · intro t i j k run l x y ht hf hx hy hj hk hxa hyb _ ⟨h1, h2, h3⟩
    obtain ⟨f1, f2, f3⟩ := flu_flat run
    obtain ⟨g1, g2, g3⟩ := gap_flat (o := seg o i t) (a := seg a j x) (b := seg b k y)
    have e1 := lx.at hf.xl ht hx hxa
    have e2 := ly.at hf.yl ht hy hyb
    simp only [List.map_append, List.flatten_append, f1, f2, f3, g1, g2, g3, h1, h2, h3]
    have q1 := seg_drop' o hf.it hf.to
    have q2 := seg_drop' a hj (Nat.le_of_lt hxa)
    have q3 := seg_drop' b hk (Nat.le_of_lt hyb)
    rw [← q1, ← q2, ← q3, List.drop_eq_getElem_cons ht, List.drop_eq_getElem_cons hxa, List.drop_eq_getElem_cons hyb, ← e1, ← e2]
    simp
  · intro t j k run l ht hf hx hy hja hkb ⟨h1, h2, h3⟩
    have e1 := lx.at hf.xl ht hx hja
    have e2 := ly.at hf.yl ht hy hkb
    rw [h1, h2, h3, List.drop_eq_getElem_cons ht, List.drop_eq_getElem_cons hja, List.drop_eq_getElem_cons hkb, ← e1, ← e2]
    simp
theorem chk_flat (o a b : Tx) : ((chk o a b).map (·.o)).flatten = o ∧ ((chk o a b).map (·.a)).flatten = a ∧ ((chk o a b).map (·.b)).flatten = b := by
  have := cks_flat (pla_lin o a) (pla_lin o b) [] (Fit.start o a b)
  simpa [chk] using this

/-- A chunk is as its kind says, and not empty. -/
def CkOk (c : Ck) : Prop := c.o.length + c.a.length + c.b.length ≠ 0 ∧ ((c.k = 1 ∧ c.a = c.o ∧ c.b = c.o) ∨ c.k = kin c.o c.a c.b)
theorem gap_ok {o a b : Tx} : ∀ c ∈ gap o a b, CkOk c ∧ c.k ≠ 1 ∧ c = ⟨kin o a b, o, a, b⟩ := by
  intro c hc
  unfold gap at hc
  split at hc
  · simp at hc
  · rename_i h
    rw [List.mem_singleton] at hc
    subst hc
    refine ⟨⟨h, .inr rfl⟩, ?_, rfl⟩
    show kin o a b ≠ 1
    unfold kin
    repeat' split
    all_goals decide
theorem flu_ok {run : Tx} : ∀ c ∈ flu run, CkOk c ∧ c.k = 1 := by
  intro c hc
  unfold flu at hc
  split at hc
  · simp at hc
  · rename_i h
    rw [List.mem_singleton] at hc
    subst hc
    exact ⟨⟨by have := List.length_pos_iff.2 h; show run.length + run.length + run.length ≠ 0; omega, .inl ⟨rfl, rfl, rfl⟩⟩, rfl⟩
/-- No two stable chunks stand side by side. -/
def Alt : List Ck → Prop
  | [] => True
  | [_] => True
  | c :: d :: l => (c.k ≠ 1 ∨ d.k ≠ 1) ∧ Alt (d :: l)
theorem alt_cons {c : Ck} {l : List Ck} (hc : c.k ≠ 1) (h : Alt l) : Alt (c :: l) := by
  cases l with
  | nil => trivial
  | cons d l => exact ⟨.inl hc, h⟩
theorem alt_gap {o a b : Tx} {l : List Ck} (h : Alt l) : Alt (gap o a b ++ l) := by
  have hg := gap_ok (o := o) (a := a) (b := b)
  unfold gap at *
  split
  · exact h
  · rename_i hne
    rw [if_neg hne] at hg
    exact alt_cons (hg _ (List.mem_singleton.2 rfl)).2.1 h
theorem alt_flu {run : Tx} {l : List Ck} (h : Alt l) (hl : ∀ d m, l = d :: m → d.k ≠ 1) : Alt (flu run ++ l) := by
  unfold flu
  split
  · exact h
  · cases l with
    | nil => trivial
    | cons d l => exact ⟨.inr (hl d l rfl), h⟩
theorem alt_get : ∀ {l : List Ck} {i : Nat} (h : i + 1 < l.length), Alt l → (l[i]).k ≠ 1 ∨ (l[i + 1]).k ≠ 1
  | [], _, h, _ => by simp at h
  | [_], _, h, _ => by simp at h
  | c :: d :: l, 0, _, hA => hA.1
  | c :: d :: l, i + 1, h, hA => alt_get (l := d :: l) (i := i) (by simpa using h) hA.2
theorem chk_ok (o a b : Tx) : (∀ c ∈ chk o a b, CkOk c) ∧ Alt (chk o a b) := by
  refine cks_ind (o := o) (a := a) (b := b) (fun t i j k run l => (∀ c ∈ l, CkOk c) ∧ Alt l) ?_ ?_ ?_ ?_ o.length 0 0 0 0 [] (by omega) (Fit.start o a b)
  · intro i j k run hf
    refine ⟨fun c hc => ?_, alt_flu (by have := alt_gap (o := seg o i o.length) (a := seg a j a.length) (b := seg b k b.length) (l := []) trivial; simpa using this) fun d m h => (gap_ok d (by rw [h]; exact List.mem_cons_self ..)).2.1⟩
    rcases List.mem_append.1 hc with hc | hc
    · exact (flu_ok c hc).1
    · exact (gap_ok c hc).1
  · intro t i j k run l _ _ _ h; exact h
  · intro t i j k run l x y ht hf hx hy hj hk hxa hyb hg ⟨h1, h2⟩
    refine ⟨fun c hc => ?_, ?_⟩
    · rcases List.mem_append.1 hc with hc | hc
      · rcases List.mem_append.1 hc with hc | hc
        · exact (flu_ok c hc).1
        · exact (gap_ok c hc).1
      · exact h1 c hc
    · rw [List.append_assoc]
      refine alt_flu (alt_gap h2) fun d m h => ?_
      have hne : (seg o i t).length + (seg a j x).length + (seg b k y).length ≠ 0 := by
        have := hf.it
        rw [seg_len' (by omega), seg_len' (by omega), seg_len' (by omega)]; omega
      rw [gap, if_neg hne] at h
      have := (List.cons.inj h).1
      rw [← this]
      exact (gap_ok (o := seg o i t) (a := seg a j x) (b := seg b k y) _ (by rw [gap, if_neg hne]; exact List.mem_singleton.2 rfl)).2.1
  · intro t j k run l ht hf hx hy hja hkb h; exact h

theorem mrg_app : ∀ (l m : List Ck), mrg (l ++ m) = (mrg l).bind fun x => (mrg m).map fun y => x ++ y
  | [], m => by simp [mrg]
  | c :: l, m => by
    show mrg (c :: (l ++ m)) = _
    rw [mrg, mrg]
    split
    · rfl
    · rw [mrg_app l m]
      cases mrg l with
      | none => rfl
      | some x => cases mrg m <;> simp
theorem mrg_flu (run : Tx) : mrg (flu run) = some run := by
  unfold flu; split
  · simp_all [mrg]
  · simp [mrg]
theorem mrg_gap (o a b : Tx) : mrg (gap o a b) = if b = o then some a else if a = o then some b else if a = b then some a else none := by
  unfold gap
  split
  · rename_i h
    have h1 : o = [] := List.eq_nil_of_length_eq_zero (by omega)
    have h2 : a = [] := List.eq_nil_of_length_eq_zero (by omega)
    have h3 : b = [] := List.eq_nil_of_length_eq_zero (by omega)
    subst h1 h2 h3; simp [mrg]
  · simp only [mrg, kin]
    split
    · simp
    · split
      · simp
      · split <;> simp
theorem mrg_gap_swap (o a b : Tx) : mrg (gap o b a) = mrg (gap o a b) := by
  rw [mrg_gap, mrg_gap]
  by_cases h1 : b = o <;> by_cases h2 : a = o <;> by_cases h3 : a = b <;> simp_all [eq_comm]
/-- Turned round it is the same merge. -/
theorem mrg_swap (o a b : Tx) : mrg (chk o b a) = mrg (chk o a b) := by
  have hY := Fit.start o b a
  refine cks_ind (o := o) (a := a) (b := b) (X := pla o.length (mpairs o a 0 0)) (Y := pla o.length (mpairs o b 0 0)) (fun t i j k run l => mrg (cks o b a (pla o.length (mpairs o b 0 0)) (pla o.length (mpairs o a 0 0)) t i k j run) = mrg l) ?_ ?_ ?_ ?_ o.length 0 0 0 0 [] (by omega) (Fit.start o a b)
  · intro i j k run hf
    rw [cks_end (Nat.le_refl _), mrg_app, mrg_app, mrg_gap_swap]
  · intro t i j k run l ht hf hs h
    rw [cks_skip ht (by omega), h]
  · intro t i j k run l x y ht hf hx hy hj hk hxa hyb hg h
    rw [cks_gap ht hy hx (by omega), mrg_app, mrg_app, mrg_app, mrg_app, mrg_gap_swap, h]
  · intro t j k run l ht hf hx hy hja hkb h
    rw [cks_run ht hy hx (by omega), h]
/-- Where each gap merges to the second text, all does. -/
theorem mrg_left {o a b : Tx} {X Y : List Int} (lx : Lin o a X) (R : Nat → Nat → Nat → Prop) (he : ∀ i j k, R i j k → mrg (gap (seg o i o.length) (seg a j a.length) (seg b k b.length)) = some (seg a j a.length))
    (hg : ∀ t i j k x y, t < o.length → R i j k → X.getD t 0 = (x : Nat) → Y.getD t 0 = (y : Nat) → mrg (gap (seg o i t) (seg a j x) (seg b k y)) = some (seg a j x) ∧ R (t + 1) (x + 1) (y + 1))
    {t i j k : Nat} (run : Tx) (hf : Fit o a b X Y t i j k) (hr : R i j k) : mrg (cks o a b X Y t i j k run) = some (run ++ a.drop j) := by
  refine cks_ind (o := o) (a := a) (b := b) (X := X) (Y := Y) (fun t i j k run l => R i j k → mrg l = some (run ++ a.drop j)) ?_ ?_ ?_ ?_ (o.length - t) t i j k run (by have := hf.to; omega) hf hr
  · intro i j k run hf hr
    rw [mrg_app, mrg_flu, he i j k hr]
    simp [seg]
  · intro t i j k run l _ _ _ h hr; exact h hr
  · intro t i j k run l x y ht hf hx hy hj hk hxa hyb _ h hr
    obtain ⟨g1, g2⟩ := hg t i j k x y ht hr hx hy
    have e1 := lx.at hf.xl ht hx hxa
    rw [mrg_app, mrg_app, mrg_flu, g1, h g2, ← seg_drop' a hj (Nat.le_of_lt hxa), List.drop_eq_getElem_cons hxa, ← e1]
    simp
  · intro t j k run l ht hf hx hy hja hkb h hr
    obtain ⟨g1, g2⟩ := hg t t j k j k ht hr hx hy
    have e1 := lx.at hf.xl ht hx hja
    rw [h g2, List.drop_eq_getElem_cons hja, ← e1]
    simp
theorem pla_self (o : Tx) {t : Nat} (ht : t < o.length) : (pla o.length (mpairs o o 0 0)).getD t 0 = t := by
  have h := mpairs_same o o 0 0 rfl (by omega) (by omega)
  have := plc_hit (mpairs o o 0 0) (List.replicate o.length (-1)) (mpairs_rise o o 0 0) (fun p hp => by rw [List.length_replicate]; exact (mpairs_mem o o 0 0 p hp).2.2.1) (t, t) (by
    rw [h]; simp only [List.mem_map, List.mem_range]; exact ⟨t, by omega, by simp⟩)
  rw [List.getD_eq_getElem?_getD]
  show ((plc (mpairs o o 0 0) (List.replicate o.length (-1)))[t]?).getD 0 = t
  rw [this]; rfl
/-- Of one changed text it is that one. -/
theorem mrg_one (o a : Tx) : mrg (chk o a o) = some a := by
  have := mrg_left (o := o) (a := a) (b := o) (X := pla o.length (mpairs o a 0 0)) (Y := pla o.length (mpairs o o 0 0)) (pla_lin o a) (fun i j k => i = k) (fun i j k h => by subst h; rw [mrg_gap, if_pos rfl])
    (fun t i j k x y ht h hx hy => by
      subst h
      rw [pla_self o ht] at hy
      obtain rfl : t = y := by omega
      exact ⟨by rw [mrg_gap, if_pos rfl], rfl⟩) [] (Fit.start o a o) rfl
  simpa [chk] using this
/-- Of two alike it is that. -/
theorem mrg_two (o a : Tx) : mrg (chk o a a) = some a := by
  have := mrg_left (o := o) (a := a) (b := a) (X := pla o.length (mpairs o a 0 0)) (Y := pla o.length (mpairs o a 0 0)) (pla_lin o a) (fun i j k => j = k) (fun i j k h => by subst h; rw [mrg_gap]; split <;> simp_all)
    (fun t i j k x y ht h hx hy => by
      subst h
      obtain rfl : x = y := by omega
      exact ⟨by rw [mrg_gap]; split <;> simp_all, rfl⟩) [] (Fit.start o a a) rfl
  simpa [chk] using this
end Go.Mx
