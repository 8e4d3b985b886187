/- Chunks of three texts: plain facts. -/
import Derived.Test.YtafmgclhgmhflaaDoorLongP
import Derived.Test.YtafmgclhgmhflaaDoorLBackP
namespace Go.Mx
open Go Go.RowKit

/-- Where each place is paired: -1: nowhere. -/
def plc (ps : List (Nat × Nat)) (l : List Int) : List Int := ps.foldl (fun l p => l.set p.1 (p.2 : Int)) l
theorem plc_len : ∀ (ps : List (Nat × Nat)) (l : List Int), (plc ps l).length = l.length
  | [], _ => rfl
  | p :: ps, l => by
    show (plc ps (l.set p.1 (p.2 : Int))).length = l.length
    rw [plc_len ps]; simp
def pla (n : Nat) (ps : List (Nat × Nat)) : List Int := plc ps (List.replicate n (-1))
theorem pla_len (n : Nat) (ps : List (Nat × Nat)) : (pla n ps).length = n := by rw [pla, plc_len]; simp
theorem plc_snoc (ps : List (Nat × Nat)) (p : Nat × Nat) (l : List Int) : plc (ps ++ [p]) l = (plc ps l).set p.1 (p.2 : Int) := by simp [plc]
theorem plc_get : ∀ (ps : List (Nat × Nat)) (l : List Int) (i : Nat) (v : Int), (plc ps l)[i]? = some v → l[i]? = some v ∨ ∃ p ∈ ps, p.1 = i ∧ (p.2 : Int) = v
  | [], l, i, v, h => .inl h
  | p :: ps, l, i, v, h => by
    rcases plc_get ps (l.set p.1 (p.2 : Int)) i v h with h | ⟨q, hq, h1, h2⟩
    · by_cases hi : p.1 = i
      · subst hi
        rw [List.getElem?_set_self'] at h
        cases hx : l[p.1]? with
        | none => rw [hx] at h; simp at h
        | some y => rw [hx] at h; simp at h; exact .inr ⟨p, List.mem_cons_self .., rfl, h⟩
      · rw [List.getElem?_set_ne hi] at h; exact .inl h
    · exact .inr ⟨q, List.mem_cons_of_mem _ hq, h1, h2⟩
theorem pla_get {n : Nat} {ps : List (Nat × Nat)} {i : Nat} {v : Int} (h : (pla n ps)[i]? = some v) : v = -1 ∨ ∃ p ∈ ps, p.1 = i ∧ (p.2 : Int) = v := by
  rcases plc_get ps _ i v h with h | h
  · left
    rw [List.getElem?_replicate] at h
    split at h <;> simp_all
  · exact .inr h
/-- Pairs rise: what is laid stays. -/
theorem plc_keep : ∀ (ps : List (Nat × Nat)) (l : List Int) (i : Nat), (∀ p ∈ ps, p.1 ≠ i) → (plc ps l)[i]? = l[i]?
  | [], _, _, _ => rfl
  | p :: ps, l, i, h => by
    show (plc ps (l.set p.1 (p.2 : Int)))[i]? = l[i]?
    rw [plc_keep ps _ i fun q hq => h q (List.mem_cons_of_mem _ hq), List.getElem?_set_ne (h p (List.mem_cons_self ..))]
theorem plc_hit : ∀ (ps : List (Nat × Nat)) (l : List Int), (ps.Pairwise fun p q => p.1 < q.1 ∧ p.2 < q.2) → (∀ p ∈ ps, p.1 < l.length) → ∀ p ∈ ps, (plc ps l)[p.1]? = some (p.2 : Int)
  | [], _, _, _, _, h => by simp at h
  | q :: ps, l, hr, hl, p, hp => by
    show (plc ps (l.set q.1 (q.2 : Int)))[p.1]? = some (p.2 : Int)
    rcases List.mem_cons.1 hp with rfl | hp
    · rw [plc_keep ps _ p.1 fun r hr' => by have := (List.pairwise_cons.1 hr).1 r hr'; omega, List.getElem?_set_self (hl p (List.mem_cons_self ..))]
    · exact plc_hit ps _ (List.pairwise_cons.1 hr).2 (fun r hr' => by rw [List.length_set]; exact hl r (List.mem_cons_of_mem _ hr')) p hp

/-- Places that rise and lie within m. -/
def Up (m : Nat) (X : List Int) : Prop := (∀ (i : Nat) (v : Int), X[i]? = some v → -1 ≤ v ∧ v < m) ∧ ∀ (i k : Nat) (u v : Int), i < k → X[i]? = some u → X[k]? = some v → 0 ≤ u → 0 ≤ v → u < v
theorem pla_up (a b : List ByteArray) : Up b.length (pla a.length (mpairs a b 0 0)) := by
  have hr := mpairs_rise a b 0 0
  refine ⟨fun i v h => ?_, fun i k u v hik hu hv h0 h1 => ?_⟩
  · rcases pla_get h with rfl | ⟨p, hp, rfl, rfl⟩
    · omega
    · have := (mpairs_mem a b 0 0 p hp).2.2; obtain ⟨_, h2, _⟩ := this; omega
  · rcases pla_get hu with rfl | ⟨p, hp, rfl, rfl⟩
    · omega
    rcases pla_get hv with rfl | ⟨q, hq, rfl, rfl⟩
    · omega
    obtain ⟨i, hi, rfl⟩ := List.mem_iff_getElem.1 hp
    obtain ⟨k, hk, rfl⟩ := List.mem_iff_getElem.1 hq
    rcases Nat.lt_trichotomy i k with h | h | h
    · have := (List.pairwise_iff_getElem.1 hr i k hi hk h).2; omega
    · subst h; omega
    · have := (List.pairwise_iff_getElem.1 hr k i hk hi h).1; omega
/-- A paired place holds one and the same line. -/
theorem pla_line {a b : List ByteArray} {i : Nat} {v : Int} (h : (pla a.length (mpairs a b 0 0))[i]? = some v) (h0 : 0 ≤ v) : ∃ (h1 : i < a.length) (h2 : v.toNat < b.length), a[i] = b[v.toNat] := by
  rcases pla_get h with rfl | ⟨p, hp, rfl, rfl⟩
  · omega
  · obtain ⟨_, _, h1, h2, h3⟩ := mpairs_mem a b 0 0 p hp
    exact ⟨h1, by simpa using h2, by simpa using h3⟩

abbrev Tx := List ByteArray
structure Ck where
  k : Nat
  o : Tx
  a : Tx
  b : Tx

def seg (l : Tx) (i j : Nat) : Tx := (l.take j).drop i
theorem seg_len' {l : Tx} {i j : Nat} (h : j ≤ l.length) : (seg l i j).length = j - i := by rw [seg, List.length_drop, List.length_take]; omega
def kin (o a b : Tx) : Nat := if b = o then 2 else if a = o then 3 else if a = b then 4 else 5
/-- A gap's chunk, if it has lines. -/
def gap (o a b : Tx) : List Ck := if o.length + a.length + b.length = 0 then [] else [⟨kin o a b, o, a, b⟩]
def flu (run : Tx) : List Ck := if run = [] then [] else [⟨1, run, run, run⟩]

/-- The chunks from the place t on; i, j, k: up to where lines are taken; run: the stable lines that stand open. -/
def cks (o a b : Tx) (X Y : List Int) (t i j k : Nat) (run : Tx) : List Ck :=
  if h : t < o.length then
    if X.getD t 0 < 0 ∨ Y.getD t 0 < 0 then cks o a b X Y (t + 1) i j k run
    else if i < t ∨ (j : Int) < X.getD t 0 ∨ (k : Int) < Y.getD t 0 then
      flu run ++ gap (seg o i t) (seg a j (X.getD t 0).toNat) (seg b k (Y.getD t 0).toNat) ++ cks o a b X Y (t + 1) (t + 1) ((X.getD t 0).toNat + 1) ((Y.getD t 0).toNat + 1) [o[t]]
    else cks o a b X Y (t + 1) (i + 1) (j + 1) (k + 1) (run ++ [o[t]])
  else flu run ++ gap (seg o i o.length) (seg a j a.length) (seg b k b.length)
termination_by o.length - t

/-- The state fits the places. -/
structure Fit (o a b : Tx) (X Y : List Int) (t i j k : Nat) : Prop where
  xl : X.length = o.length
  yl : Y.length = o.length
  xu : Up a.length X
  yu : Up b.length Y
  it : i ≤ t
  to : t ≤ o.length
  ja : j ≤ a.length
  kb : k ≤ b.length
  xj : ∀ r v, t ≤ r → X[r]? = some v → 0 ≤ v → (j : Int) ≤ v
  yk : ∀ r v, t ≤ r → Y[r]? = some v → 0 ≤ v → (k : Int) ≤ v
theorem getD_some {X : List Int} {t : Nat} (h : t < X.length) : X[t]? = some (X.getD t 0) := by simp [List.getD_eq_getElem?_getD, List.getElem?_eq_getElem h]
theorem Fit.skip {o a b : Tx} {X Y : List Int} {t i j k : Nat} (h : Fit o a b X Y t i j k) (ht : t < o.length) : Fit o a b X Y (t + 1) i j k :=
  ⟨h.xl, h.yl, h.xu, h.yu, by have := h.it; omega, ht, h.ja, h.kb, fun r v hr => h.xj r v (by omega), fun r v hr => h.yk r v (by omega)⟩
theorem Fit.at {o a b : Tx} {X Y : List Int} {t i j k : Nat} (h : Fit o a b X Y t i j k) (ht : t < o.length) (hx : 0 ≤ X.getD t 0) (hy : 0 ≤ Y.getD t 0) : ∃ x y : Nat, X.getD t 0 = x ∧ Y.getD t 0 = y ∧ j ≤ x ∧ k ≤ y ∧ x < a.length ∧ y < b.length := by
  have e1 := getD_some (X := X) (t := t) (by rw [h.xl]; exact ht)
  have e2 := getD_some (X := Y) (t := t) (by rw [h.yl]; exact ht)
  have q1 := h.xj t _ (Nat.le_refl _) e1 hx
  have q2 := h.yk t _ (Nat.le_refl _) e2 hy
  have q3 := (h.xu.1 t _ e1).2
  have q4 := (h.yu.1 t _ e2).2
  exact ⟨(X.getD t 0).toNat, (Y.getD t 0).toNat, by omega, by omega, by omega, by omega, by omega, by omega⟩
theorem Fit.take {o a b : Tx} {X Y : List Int} {t i j k x y : Nat} (h : Fit o a b X Y t i j k) (ht : t < o.length) (hx : X.getD t 0 = x) (hy : Y.getD t 0 = y) : Fit o a b X Y (t + 1) (t + 1) (x + 1) (y + 1) := by
  have e1 := getD_some (X := X) (t := t) (by rw [h.xl]; exact ht)
  have e2 := getD_some (X := Y) (t := t) (by rw [h.yl]; exact ht)
  rw [hx] at e1
  rw [hy] at e2
  have q3 := (h.xu.1 t _ e1).2
  have q4 := (h.yu.1 t _ e2).2
  refine ⟨h.xl, h.yl, h.xu, h.yu, by omega, ht, by omega, by omega, fun r v hr hv h0 => ?_, fun r v hr hv h0 => ?_⟩
  · have := h.xu.2 t r _ v (by omega) e1 hv (by omega) h0; omega
  · have := h.yu.2 t r _ v (by omega) e2 hv (by omega) h0; omega
/-- The start. -/
theorem Fit.start (o a b : Tx) : Fit o a b (pla o.length (mpairs o a 0 0)) (pla o.length (mpairs o b 0 0)) 0 0 0 0 :=
  ⟨pla_len _ _, pla_len _ _, pla_up _ _, pla_up _ _, Nat.le_refl _, Nat.zero_le _, Nat.zero_le _, Nat.zero_le _, fun _ _ _ _ h => by omega, fun _ _ _ _ h => by omega⟩

section
variable {o a b : Tx} {X Y : List Int}
theorem cks_end {t i j k : Nat} {run : Tx} (h : o.length ≤ t) : cks o a b X Y t i j k run = flu run ++ gap (seg o i o.length) (seg a j a.length) (seg b k b.length) := by rw [cks, dif_neg (by omega)]
theorem cks_skip {t i j k : Nat} {run : Tx} (h : t < o.length) (hs : X.getD t 0 < 0 ∨ Y.getD t 0 < 0) : cks o a b X Y t i j k run = cks o a b X Y (t + 1) i j k run := by rw [cks, dif_pos h, if_pos hs]
theorem cks_gap {t i j k x y : Nat} {run : Tx} (h : t < o.length) (hx : X.getD t 0 = x) (hy : Y.getD t 0 = y) (hg : i < t ∨ j < x ∨ k < y) :
    cks o a b X Y t i j k run = flu run ++ gap (seg o i t) (seg a j x) (seg b k y) ++ cks o a b X Y (t + 1) (t + 1) (x + 1) (y + 1) [o[t]] := by
  rw [cks, dif_pos h, if_neg (by omega), if_pos (by omega), hx, hy]; simp
theorem cks_run {t i j k x y : Nat} {run : Tx} (h : t < o.length) (hx : X.getD t 0 = x) (hy : Y.getD t 0 = y) (hg : ¬ (i < t ∨ j < x ∨ k < y)) :
    cks o a b X Y t i j k run = cks o a b X Y (t + 1) (i + 1) (j + 1) (k + 1) (run ++ [o[t]]) := by
  rw [cks, dif_pos h, if_neg (by omega), if_neg (by omega)]

/-- An open run ends where the next line that is taken does not follow. -/
theorem cks_flush (run : Tx) (i j k : Nat) : ∀ (n t : Nat), t + n = o.length → (∀ r, t ≤ r → r < o.length → 0 ≤ X.getD r 0 → 0 ≤ Y.getD r 0 → i < r ∨ (j : Int) < X.getD r 0 ∨ (k : Int) < Y.getD r 0) →
    cks o a b X Y t i j k run = flu run ++ cks o a b X Y t i j k []
  | 0, t, ht, _ => by rw [cks_end (by omega), cks_end (by omega)]; simp [flu]
  | n + 1, t, ht, hn => by
    have htl : t < o.length := by omega
    by_cases hs : X.getD t 0 < 0 ∨ Y.getD t 0 < 0
    · rw [cks_skip htl hs, cks_skip htl hs]
      exact cks_flush run i j k n (t + 1) (by omega) fun r hr => hn r (by omega)
    · have hx : X.getD t 0 = ((X.getD t 0).toNat : Int) := by omega
      have hy : Y.getD t 0 = ((Y.getD t 0).toNat : Int) := by omega
      have hg := hn t (Nat.le_refl _) htl (by omega) (by omega)
      rw [cks_gap htl hx hy (by omega), cks_gap htl hx hy (by omega)]
      simp [flu]
/-- Skipped lines. -/
theorem cks_skips (run : Tx) (i j k m : Nat) : ∀ (n t : Nat), t + n = m → m ≤ o.length → (∀ r, t ≤ r → r < m → X.getD r 0 < 0 ∨ Y.getD r 0 < 0) → cks o a b X Y t i j k run = cks o a b X Y m i j k run
  | 0, t, h, _, _ => by rw [show t = m by omega]
  | n + 1, t, h, hm, hs => by
    rw [cks_skip (by omega) (hs t (Nat.le_refl _) (by omega))]
    exact cks_skips run i j k m n (t + 1) (by omega) hm fun r hr => hs r (by omega)
/-- A run of lines. -/
theorem cks_runs : ∀ (n i j k : Nat) (run : Tx), i + n ≤ o.length → (∀ r, r < n → X.getD (i + r) 0 = ((j + r : Nat) : Int) ∧ Y.getD (i + r) 0 = ((k + r : Nat) : Int)) →
    cks o a b X Y i i j k run = cks o a b X Y (i + n) (i + n) (j + n) (k + n) (run ++ seg o i (i + n))
  | 0, i, j, k, run, _, _ => by rw [show seg o i (i + 0) = [] from seg_self o i]; simp
  | n + 1, i, j, k, run, hl, h => by
    have h0 := h 0 (by omega)
    simp only [Nat.add_zero] at h0
    rw [cks_run (by omega) h0.1 h0.2 (by omega), cks_runs n (i + 1) (j + 1) (k + 1) _ (by omega) fun r hr => by
      have := h (r + 1) (by omega)
      rw [show i + 1 + r = i + (r + 1) by omega, show j + 1 + r = j + (r + 1) by omega, show k + 1 + r = k + (r + 1) by omega]; exact this]
    rw [show i + 1 + n = i + (n + 1) by omega, show j + 1 + n = j + (n + 1) by omega, show k + 1 + n = k + (n + 1) by omega, List.append_assoc]
    congr 2
    rw [seg, seg, List.drop_eq_getElem_cons (i := i) (by rw [List.length_take]; omega)]
    simp
/-- The document's first step: lines that all three keep. -/
theorem cks_step1 {n i j k : Nat} (hf : Fit o a b X Y i i j k) (hn : 0 < n) (hl : i + n ≤ o.length) (h : ∀ r, r < n → X.getD (i + r) 0 = ((j + r : Nat) : Int) ∧ Y.getD (i + r) 0 = ((k + r : Nat) : Int))
    (hend : i + n < o.length → ¬ (X.getD (i + n) 0 = ((j + n : Nat) : Int) ∧ Y.getD (i + n) 0 = ((k + n : Nat) : Int))) :
    cks o a b X Y i i j k [] = ⟨1, seg o i (i + n), seg o i (i + n), seg o i (i + n)⟩ :: cks o a b X Y (i + n) (i + n) (j + n) (k + n) [] ∧ Fit o a b X Y (i + n) (i + n) (j + n) (k + n) := by
  have hfit : ∀ n, i + n ≤ o.length → (∀ r, r < n → X.getD (i + r) 0 = ((j + r : Nat) : Int) ∧ Y.getD (i + r) 0 = ((k + r : Nat) : Int)) → Fit o a b X Y (i + n) (i + n) (j + n) (k + n) := by
    intro n
    induction n with
    | zero => intro _ _; exact hf
    | succ n ih =>
      intro hl h
      have hq := h n (by omega)
      exact (ih (by omega) fun r hr => h r (by omega)).take (by omega) hq.1 hq.2
  have hft := hfit n hl h
  refine ⟨?_, hft⟩
  rw [cks_runs n i j k [] hl h, List.nil_append, cks_flush _ _ _ _ (o.length - (i + n)) (i + n) (by omega) fun r hr1 hr2 hx hy => ?_]
  · have : seg o i (i + n) ≠ [] := by intro h; have := congrArg List.length h; rw [seg_len' hl] at this; simp at this; omega
    rw [flu, if_neg this]; rfl
  · by_cases hri : r = i + n
    · subst hri
      have := hend hr2
      obtain ⟨x, y, h1, h2, h3, h4, _⟩ := hft.at hr2 hx hy
      omega
    · omega
/-- The document's other step: lines up to the next that all three keep. -/
theorem cks_step2 {m i j k x y : Nat} (hf : Fit o a b X Y i i j k) (hm : i ≤ m) (hl : m < o.length) (hs : ∀ r, i ≤ r → r < m → X.getD r 0 < 0 ∨ Y.getD r 0 < 0) (hx : X.getD m 0 = x) (hy : Y.getD m 0 = y) (hg : i < m ∨ j < x ∨ k < y) :
    cks o a b X Y i i j k [] = ⟨kin (seg o i m) (seg a j x) (seg b k y), seg o i m, seg a j x, seg b k y⟩ :: cks o a b X Y m m x y [] ∧ Fit o a b X Y m m x y := by
  have hfs : ∀ n, i + n ≤ m → Fit o a b X Y (i + n) i j k := by
    intro n
    induction n with
    | zero => intro _; exact hf
    | succ n ih => intro h; exact (ih (by omega)).skip (by omega)
  have hft := hfs (m - i) (by omega)
  rw [show i + (m - i) = m by omega] at hft
  obtain ⟨x', y', h1, h2, h3, h4, h5, h6⟩ := hft.at hl (by omega) (by omega)
  obtain rfl : x' = x := by omega
  obtain rfl : y' = y := by omega
  have hne : (seg o i m).length + (seg a j x').length + (seg b k y').length ≠ 0 := by
    rw [seg_len' (by omega), seg_len' (by omega), seg_len' (by omega)]; omega
  refine ⟨?_, ⟨hft.xl, hft.yl, hft.xu, hft.yu, Nat.le_refl _, by omega, by omega, by omega, fun r v hr hv h0 => ?_, fun r v hr hv h0 => ?_⟩⟩
  · rw [cks_skips [] i j k m (m - i) i (by omega) (by omega) hs, cks_gap hl hx hy hg, cks_run (i := m) (j := x') (k := y') hl hx hy (by omega), gap, if_neg hne]
    simp [flu]
  · rcases Nat.eq_or_lt_of_le hr with rfl | hr
    · have e1 := getD_some (X := X) (t := m) (by rw [hft.xl]; exact hl); rw [hv, hx] at e1; have := Option.some.inj e1; omega
    · have e1 := getD_some (X := X) (t := m) (by rw [hft.xl]; exact hl)
      have := hft.xu.2 m r _ v hr e1 hv (by omega) h0; omega
  · rcases Nat.eq_or_lt_of_le hr with rfl | hr
    · have e1 := getD_some (X := Y) (t := m) (by rw [hft.yl]; exact hl); rw [hv, hy] at e1; have := Option.some.inj e1; omega
    · have e1 := getD_some (X := Y) (t := m) (by rw [hft.yl]; exact hl)
      have := hft.yu.2 m r _ v hr e1 hv (by omega) h0; omega
/-- The document's last step. -/
theorem cks_step3 {i j k : Nat} (hf : Fit o a b X Y i i j k) (hs : ∀ r, i ≤ r → r < o.length → X.getD r 0 < 0 ∨ Y.getD r 0 < 0) (hg : i < o.length ∨ j < a.length ∨ k < b.length) :
    cks o a b X Y i i j k [] = [⟨kin (seg o i o.length) (seg a j a.length) (seg b k b.length), seg o i o.length, seg a j a.length, seg b k b.length⟩] := by
  have hne : (seg o i o.length).length + (seg a j a.length).length + (seg b k b.length).length ≠ 0 := by
    rw [seg_len' (by omega), seg_len' (by omega), seg_len' (by omega)]; have := hf.to; have := hf.ja; have := hf.kb; omega
  rw [cks_skips [] i j k o.length (o.length - i) i (by have := hf.to; omega) (Nat.le_refl _) hs, cks_end (Nat.le_refl _), gap, if_neg hne]
  simp [flu]
theorem cks_done {i j k : Nat} (h : ¬ (i < o.length ∨ j < a.length ∨ k < b.length)) (hf : Fit o a b X Y i i j k) : cks o a b X Y i i j k [] = [] := by
  have := hf.to; have := hf.ja; have := hf.kb
  rw [cks_end (by omega), gap, if_pos (by rw [seg_len' (by omega), seg_len' (by omega), seg_len' (by omega)]; omega)]
  simp [flu]
end

/-- The chunks of three lists of lines. -/
def chk (o a b : Tx) : List Ck := cks o a b (pla o.length (mpairs o a 0 0)) (pla o.length (mpairs o b 0 0)) 0 0 0 0 []
/-- What chunks merge to. -/
def mrg : List Ck → Option Tx
  | [] => some []
  | c :: cs => if c.k = 5 then none else (mrg cs).map fun l => (if c.k = 3 then c.b else c.a) ++ l
end Go.Mx
