/- Deltas there and back: the plain laws. -/
import Derived.Test.YtlfdnlomlbbicaaGreatDoorJ1WireP
namespace Go.Mx
open Go

theorem nm_put {n : Nat} (hn : n ≤ 72057594037927936) (r : List UInt8) : nmN (putL n ++ r) = n ∧ nmJ (putL n ++ r) = (putL n).length ∧ nmE (putL n ++ r) = 0 := by
  have h := getS_app [] r n hn
  simp only [List.nil_append, List.length_nil, Nat.zero_add] at h
  change getS (putL n ++ r) 0 = _ at h
  unfold nmN nmJ nmE
  rw [h]
  simp
theorem nm_drop {n : Nat} (hn : n ≤ 72057594037927936) (r : List UInt8) : (putL n ++ r).drop (nmJ (putL n ++ r)) = r := by
  rw [(nm_put hn r).2.1]; simp
/-- What is read as a number is that number put, and the rest. -/
theorem nm_split {l : List UInt8} (h : nmE l = 0) : l = putL (nmN l) ++ l.drop (nmJ l) := by
  obtain ⟨_, _, h3, _⟩ := nm_good h
  rw [← h3, List.take_append_drop]
theorem nm_pre {l s : List UInt8} (h : nmE l = 0) : nmE (l ++ s) = 0 ∧ nmN (l ++ s) = nmN l ∧ (l ++ s).drop (nmJ (l ++ s)) = l.drop (nmJ l) ++ s := by
  have h1 := nm_split h
  have h2 := (nm_good h).1
  have e : l ++ s = putL (nmN l) ++ (l.drop (nmJ l) ++ s) := by
    rw [← List.append_assoc, ← h1]
  rw [e]
  exact ⟨(nm_put h2 _).2.2, (nm_put h2 _).1, nm_drop h2 _⟩

theorem step_ins_eq (base x r : List UInt8) (h0 : x ≠ []) (hx : x.length ≤ 72057594037927936) : stepR base 2 (putL x.length ++ (x ++ r)) = (0, x, r) := by
  have hp := nm_put hx (x ++ r)
  have hd := nm_drop hx (x ++ r)
  have hl : x.length ≠ 0 := by simpa using h0
  unfold stepR
  rw [if_neg (by decide), if_pos rfl, hd, hp.1, if_neg (by simp [hp.2.2]), if_neg hl, if_neg (by simp)]
  simp
theorem step_copy_eq (base r : List UInt8) (p n : Nat) (h0 : n ≠ 0) (hb : base.length ≤ 20000) (h : p + n ≤ base.length) : stepR base 1 (putL p ++ (putL n ++ r)) = (0, (base.take (p + n)).drop p, r) := by
  have hp := nm_put (n := p) (by omega) (putL n ++ r)
  have hd := nm_drop (n := p) (by omega) (putL n ++ r)
  have hp2 := nm_put (n := n) (by omega) r
  have hd2 := nm_drop (n := n) (by omega) r
  unfold stepR
  rw [if_pos rfl, hd, hd2, hp.1, hp2.1, if_neg (by simp [hp.2.2]), if_neg (by simp [hp2.2.2]), if_neg h0, if_neg (by omega)]

theorem stepsR_nil' (base : List UInt8) (to : Nat) (out : List UInt8) : stepsR base to [] out = if out.length < to then (2, []) else (0, out) := by rw [stepsR]
theorem stepsR_cons' (base : List UInt8) (to : Nat) (k : UInt8) (l out : List UInt8) : stepsR base to (k :: l) out =
    if (stepR base k l).1 ≠ 0 then ((stepR base k l).1, []) else if (to : Int) - out.length < (stepR base k l).2.1.length then (3, []) else stepsR base to (stepR base k l).2.2 (out ++ (stepR base k l).2.1) := by rw [stepsR]

theorem steps_ins (base x r out : List UInt8) (to : Nat) (h0 : x ≠ []) (hx : x.length ≤ 72057594037927936) (h : out.length + x.length ≤ to) :
    stepsR base to (2 :: (putL x.length ++ (x ++ r))) out = stepsR base to r (out ++ x) := by
  rw [stepsR_cons', step_ins_eq base x r h0 hx, if_neg (by simp), if_neg (by simp only []; omega)]
theorem steps_copy (base r out : List UInt8) (p n to : Nat) (h0 : n ≠ 0) (hb : base.length ≤ 20000) (hp : p + n ≤ base.length) (h : out.length + n ≤ to) :
    stepsR base to (1 :: (putL p ++ (putL n ++ r))) out = stepsR base to r (out ++ (base.take (p + n)).drop p) := by
  have hl : ((base.take (p + n)).drop p).length = n := by rw [List.length_drop, List.length_take]; omega
  rw [stepsR_cons', step_copy_eq base r p n h0 hb hp, if_neg (by simp), if_neg (by simp only [hl]; omega)]
theorem steps_fl (base ins r out : List UInt8) (to : Nat) (hx : ins.length ≤ 72057594037927936) (h : out.length + ins.length ≤ to) :
    stepsR base to (flR ins ++ r) out = stepsR base to r (out ++ ins) := by
  by_cases h0 : ins = []
  · subst h0; rw [flR_nil, List.nil_append, List.append_nil]
  · rw [flR_ne h0, List.cons_append, List.append_assoc, steps_ins base ins r out to h0 hx h]

theorem steps_mk (base : List UInt8) (hb : base.length ≤ 20000) (to : Nat) : ∀ (n : Nat) (t ins out : List UInt8), t.length = n → ins.length ≤ 20000 → t.length ≤ 20000 → ins.length + t.length ≤ 20000 → out.length + ins.length + t.length = to →
    stepsR base to (mkR base t ins) out = (0, out ++ ins ++ t) := by
  intro n
  induction n using Nat.strongRecOn with
  | _ n ih =>
    intro t ins out hn hi ht hit hto
    cases t with
    | nil =>
      have e := steps_fl base ins [] out to (by omega) (by simp at hto; omega)
      rw [List.append_nil] at e
      rw [mkR_nil, e, stepsR_nil', if_neg (by simp at hto ⊢; omega), List.append_nil]
    | cons x t =>
      rw [mkR_cons]
      simp only [List.length_cons] at hn ht hit hto
      have hm := mt_inv base (x :: t)
      rw [List.length_cons] at hm
      split
      · rename_i h8
        obtain ⟨m1, m2, m3⟩ := hm
        rw [List.append_assoc, List.cons_append, List.append_assoc, steps_fl base ins _ out to (by omega) (by omega)]
        have hpl : ((base.take (mtP base (x :: t) + mtN base (x :: t))).drop (mtP base (x :: t))) = (x :: t).take (mtN base (x :: t)) := by
          rw [← m3, List.drop_take]; congr 1; omega
        rw [steps_copy base _ _ _ _ to (by omega) hb m2 (by rw [List.length_append]; omega), hpl]
        have hl2 : ((x :: t).take (mtN base (x :: t))).length = mtN base (x :: t) := by rw [List.length_take, List.length_cons]; omega
        rw [ih (t.drop (mtN base (x :: t) - 1)).length (by rw [List.length_drop]; omega) _ [] _ rfl (by simp) (by rw [List.length_drop]; omega) (by rw [List.length_drop]; simp; omega) (by simp only [List.length_append, hl2, List.length_drop, List.length_nil]; omega)]
        have e : (x :: t).take (mtN base (x :: t)) ++ t.drop (mtN base (x :: t) - 1) = x :: t := by
          obtain ⟨k, hk⟩ : ∃ k, mtN base (x :: t) = k + 1 := ⟨mtN base (x :: t) - 1, by omega⟩
          rw [hk]; simp
        rw [List.append_nil, List.append_assoc, List.append_assoc, e, List.append_assoc]
      · rw [ih t.length (by omega) t (ins ++ [x]) out rfl (by simp; omega) (by omega) (by simp; omega) (by simp; omega)]
        simp

theorem sz_put (a b : Nat) (r : List UInt8) (ha : a ≤ 72057594037927936) (hb : b ≤ 72057594037927936) : szE (putL a ++ (putL b ++ r)) = 0 ∧ szA (putL a ++ (putL b ++ r)) = a ∧ szB (putL a ++ (putL b ++ r)) = b ∧ szR (putL a ++ (putL b ++ r)) = r := by
  have h1 := nm_put ha (putL b ++ r)
  have h2 := nm_drop ha (putL b ++ r)
  have h3 := nm_put hb r
  have h4 := nm_drop hb r
  have e : szE (putL a ++ (putL b ++ r)) = 0 := by unfold szE; rw [if_neg (by simp [h1.2.2]), h2, h3.2.2]
  refine ⟨e, ?_, ?_, ?_⟩
  · unfold szA; rw [if_pos e, h1.1]
  · unfold szB; rw [if_pos e, h2, h3.1]
  · unfold szR; rw [h2, h4]
theorem ap_put (base : List UInt8) (b : Nat) (r : List UInt8) (ha : base.length ≤ 20000) (hb : b ≤ 20000) : apR base (putL base.length ++ (putL b ++ r)) = stepsR base b r [] := by
  obtain ⟨h1, h2, h3, h4⟩ := sz_put base.length b r (by omega) (by omega)
  unfold apR
  rw [h1, h2, h3, h4, if_neg (by simp), if_neg (by simp), if_neg (by omega)]

/-- The delta of a base and a target makes the target. -/
theorem ap_make (base target : List UInt8) (hb : base.length ≤ 20000) (ht : target.length ≤ 20000) : apR base (makeR base target) = (0, target) := by
  unfold makeR
  rw [List.append_assoc, ap_put base target.length _ hb ht, steps_mk base hb target.length target.length target [] [] rfl (by simp) ht (by simpa using ht) (by simp)]
  simp
theorem sz_make (base target : List UInt8) (hb : base.length ≤ 20000) (ht : target.length ≤ 20000) : szE (makeR base target) = 0 ∧ szA (makeR base target) = base.length ∧ szB (makeR base target) = target.length := by
  unfold makeR
  rw [List.append_assoc]
  obtain ⟨h1, h2, h3, _⟩ := sz_put base.length target.length (mkR base target []) (by omega) (by omega)
  exact ⟨h1, h2, h3⟩
/-- .. and is refused of a base of another length. -/
theorem ap_other (base target c : List UInt8) (hb : base.length ≤ 20000) (ht : target.length ≤ 20000) (hc : c.length ≠ base.length) : apR c (makeR base target) = (5, []) := by
  obtain ⟨h1, h2, h3⟩ := sz_make base target hb ht
  unfold apR
  rw [h1, h2, if_neg (by simp), if_pos (fun h => hc h.symm)]

/-- A step of a text that was cut off: the whole text's, if it is one. -/
theorem step_pre {base l s : List UInt8} {k : UInt8} (h : (stepR base k l).1 = 0) : stepR base k (l ++ s) = (0, (stepR base k l).2.1, (stepR base k l).2.2 ++ s) ∧ (stepR base k l).2.1 ≠ [] := by
  unfold stepR at h ⊢
  by_cases h1 : k = 1
  · simp only [if_pos h1] at h ⊢
    by_cases e1 : nmE l = 0
    · obtain ⟨p1, p2, p3⟩ := nm_pre (s := s) e1
      simp only [e1, p1, p2, p3, ne_eq, not_true_eq_false, if_false] at h ⊢
      by_cases e2 : nmE (l.drop (nmJ l)) = 0
      · obtain ⟨q1, q2, q3⟩ := nm_pre (s := s) e2
        simp only [e2, q1, q2, q3, not_true_eq_false, if_false] at h ⊢
        by_cases e3 : nmN (l.drop (nmJ l)) = 0
        · simp [e3] at h
        · simp only [e3, if_false] at h ⊢
          by_cases e4 : base.length < nmN l ∨ base.length - nmN l < nmN (l.drop (nmJ l))
          · simp [e4] at h
          · simp only [e4, if_false, true_and]
            intro hc
            have := congrArg List.length hc
            rw [List.length_drop, List.length_take, List.length_nil] at this
            omega
      · simp [e2] at h
    · simp [e1] at h
  · simp only [if_neg h1] at h ⊢
    by_cases h2 : k = 2
    · simp only [if_pos h2] at h ⊢
      by_cases e1 : nmE l = 0
      · obtain ⟨p1, p2, p3⟩ := nm_pre (s := s) e1
        simp only [e1, p1, p2, p3, ne_eq, not_true_eq_false, if_false] at h ⊢
        by_cases e3 : nmN l = 0
        · simp [e3] at h
        · simp only [e3, if_false] at h ⊢
          by_cases e4 : (l.drop (nmJ l)).length < nmN l
          · rw [if_pos e4] at h
            simp at h
          · have e5 : ¬ ((l.drop (nmJ l) ++ s).length < nmN l) := by rw [List.length_append]; omega
            simp only [e4, e5, if_false]
            refine ⟨?_, fun hc => ?_⟩
            · rw [List.take_append_of_le_length (by omega), List.drop_append_of_le_length (by omega)]
            · have := congrArg List.length hc
              rw [List.length_take, List.length_nil] at this
              omega
      · simp [e1] at h
    · simp [if_neg h2] at h

theorem steps_full {base : List UInt8} {to : Nat} {s r : List UInt8} (hs : s ≠ []) (hr : r.length = to) : (stepsR base to s r).1 ≠ 0 := by
  cases s with
  | nil => exact absurd rfl hs
  | cons k s =>
    rw [stepsR_cons']
    by_cases h : (stepR base k s).1 = 0
    · have hx := (step_pre (s := []) h).2
      have hl : 0 < (stepR base k s).2.1.length := List.length_pos_iff.2 hx
      rw [if_neg (by simp [h]), if_pos (by omega)]
      simp
    · rw [if_pos h]; exact h

/-- Steps of a text that was cut off, all well: then the whole text goes on with what was cut off, at the full length. -/
theorem steps_pre {base : List UInt8} {to : Nat} {s : List UInt8} : ∀ (n : Nat) (l out : List UInt8), l.length = n → out.length ≤ to → (stepsR base to l out).1 = 0 →
    ∃ r, r.length = to ∧ stepsR base to (l ++ s) out = stepsR base to s r := by
  intro n
  induction n using Nat.strongRecOn with
  | _ n ih =>
    intro l out hn ho h
    cases l with
    | nil =>
      rw [stepsR_nil'] at h
      split at h
      · simp at h
      · exact ⟨out, by omega, rfl⟩
    | cons k l =>
      rw [stepsR_cons'] at h
      by_cases h1 : (stepR base k l).1 = 0
      · rw [if_neg (by simp [h1])] at h
        split at h
        · simp at h
        · rename_i h2
          obtain ⟨r, hr, he⟩ := ih (stepR base k l).2.2.length (by have := stepR_len base k l; simp only [List.length_cons] at hn; omega) _ (out ++ (stepR base k l).2.1) rfl (by rw [List.length_append]; omega) h
          refine ⟨r, hr, ?_⟩
          rw [← he, List.cons_append, stepsR_cons', (step_pre (s := s) h1).1]
          simp only []
          rw [if_neg (by simp), if_neg h2]
      · rw [if_pos h1] at h
        exact absurd h h1

theorem sz_pre {d s : List UInt8} (h : szE d = 0) : szE (d ++ s) = 0 ∧ szA (d ++ s) = szA d ∧ szB (d ++ s) = szB d ∧ szR (d ++ s) = szR d ++ s := by
  have h0 : szE d = if nmE d ≠ 0 then nmE d else nmE (d.drop (nmJ d)) := rfl
  have e1 : nmE d = 0 := by
    by_cases e : nmE d = 0
    · exact e
    · rw [if_pos e] at h0; rw [← h0]; exact h
  rw [if_neg (by simp [e1]), h] at h0
  obtain ⟨p1, p2, p3⟩ := nm_pre (s := s) e1
  obtain ⟨q1, q2, q3⟩ := nm_pre (s := s) h0.symm
  have e : szE (d ++ s) = 0 := by unfold szE; rw [if_neg (by simp [p1]), p3, q1]
  refine ⟨e, ?_, ?_, ?_⟩
  · unfold szA; rw [if_pos e, if_pos h, p2]
  · unfold szB; rw [if_pos e, if_pos h, p3, q2]
  · unfold szR; rw [p3, q3]

/-- A delta cut off is refused. -/
theorem ap_cut {base d : List UInt8} {cut : Nat} (h : (apR base d).1 = 0) (hc : cut < d.length) : (apR base (d.take cut)).1 ≠ 0 := by
  intro h0
  have hs : d.drop cut ≠ [] := by intro hx; have := congrArg List.length hx; rw [List.length_drop, List.length_nil] at this; omega
  have hd : d.take cut ++ d.drop cut = d := List.take_append_drop _ _
  generalize d.take cut = l at *
  generalize d.drop cut = s at *
  subst hd
  unfold apR at h0 h
  by_cases e : szE l = 0
  · obtain ⟨p1, p2, p3, p4⟩ := sz_pre (s := s) e
    rw [p1, p2, p3, p4, if_neg (by simp)] at h
    rw [if_neg (by simp [e])] at h0
    by_cases e2 : szA l = base.length
    · rw [if_neg (by simp [e2])] at h h0
      by_cases e3 : 20000 < szB l
      · rw [if_pos e3] at h0; simp at h0
      · rw [if_neg e3] at h h0
        obtain ⟨r, hr, he⟩ := steps_pre (s := s) (szR l).length (szR l) [] rfl (by simp) h0
        rw [he] at h
        exact steps_full hs hr h
    · rw [if_pos e2] at h0; simp at h0
  · rw [if_pos e] at h0
    exact e h0
theorem steps_bad {base : List UInt8} {to : Nat} : ∀ (n : Nat) (l out : List UInt8), l.length = n → (stepsR base to l out).1 ≠ 0 → (stepsR base to l out).2 = [] := by
  intro n
  induction n using Nat.strongRecOn with
  | _ n ih =>
    intro l out hn h
    cases l with
    | nil =>
      rw [stepsR_nil'] at h ⊢
      split at h
      · rename_i h1; rw [if_pos h1]
      · simp at h
    | cons k l =>
      rw [stepsR_cons'] at h ⊢
      split at h
      · rename_i h1; rw [if_pos h1]
      · rename_i h1
        rw [if_neg h1]
        split at h
        · rename_i h2; rw [if_pos h2]
        · rename_i h2
          rw [if_neg h2]
          exact ih _ (by have := stepR_len base k l; simp only [List.length_cons] at hn; omega) _ _ rfl h
theorem ap_bad {base d : List UInt8} (h : (apR base d).1 ≠ 0) : (apR base d).2 = [] := by
  unfold apR at h ⊢
  split at h
  · rename_i h1; rw [if_pos h1]
  · rename_i h1
    rw [if_neg h1]
    split at h
    · rename_i h2; rw [if_pos h2]
    · rename_i h2
      rw [if_neg h2]
      split at h
      · rename_i h3; rw [if_pos h3]
      · rename_i h3
        rw [if_neg h3]
        exact steps_bad _ _ _ rfl h

/-- Where nothing long enough is found: all is put in. -/
theorem mk_none (base : List UInt8) : ∀ (t ins : List UInt8), (∀ k, mtN base (t.drop k) < 8) → mkR base t ins = flR (ins ++ t)
  | [], ins, _ => by rw [mkR_nil, List.append_nil]
  | x :: t, ins, h => by
    have h0 := h 0
    rw [List.drop_zero] at h0
    rw [mkR_cons, if_neg (by omega), mk_none base t (ins ++ [x]) fun k => by have := h (k + 1); simpa using this]
    simp
theorem mt_nil (t : List UInt8) : mtN [] t = 0 := rfl
theorem lcp_self : ∀ l : List UInt8, lcp l l = l.length
  | [] => rfl
  | x :: l => by rw [lcp, if_pos rfl, lcp_self l, List.length_cons]
theorem mt_self {b : List UInt8} (h : b ≠ []) : mtP b b = 0 ∧ mtN b b = b.length := by
  have hl : 0 < b.length := List.length_pos_iff.2 h
  have h1 : mtR b b 1 = (0, b.length) := by
    rw [mtR, mtR, List.drop_zero, lcp_self, if_pos (by simpa using hl)]
  have h2 := mtR_skip (base := b) (t := b) (i := 1) (j := b.length) (by omega) fun k _ _ => by rw [h1]; exact lcp_le_right _ _
  unfold mtP mtN
  rw [h2, h1]
  exact ⟨rfl, rfl⟩
theorem putL_2 {n : Nat} (h : n ≤ 2000) : (putL n).length ≤ 2 := by
  have := putL_le 2 n (by have : (128 : Nat) ^ 2 = 16384 := by decide
                          omega)
  omega
theorem putL_0 : (putL 0).length = 1 := by rw [putL, dif_pos (by decide)]; rfl
theorem fl_len {b : List UInt8} (h : b.length ≤ 2000) : b.length ≤ (flR b).length ∧ (flR b).length ≤ b.length + 3 := by
  by_cases h0 : b = []
  · subst h0; simp [flR_nil]
  · have := putL_2 h
    rw [flR_ne h0, List.length_cons, List.length_append]
    omega
theorem short_self {b : List UInt8} (h : b.length ≤ 2000) : (makeR b b).length ≤ b.length + 7 ∧ (8 ≤ b.length → (makeR b b).length ≤ 8) := by
  have h2 := putL_2 h
  by_cases h8 : 8 ≤ b.length
  · have hne : b ≠ [] := by intro hx; rw [hx] at h8; simp at h8
    obtain ⟨m1, m2⟩ := mt_self hne
    have e : (makeR b b).length ≤ 8 := by
      unfold makeR
      cases b with
      | nil => exact absurd rfl hne
      | cons x t =>
        rw [mkR_cons, if_pos (by omega), m1, m2]
        have hd : t.drop ((x :: t).length - 1) = [] := List.drop_eq_nil_of_le (by simp)
        rw [hd, mkR_nil, flR_nil]
        have := putL_0
        simp only [List.nil_append, List.append_nil, List.length_append, List.length_cons] at h2 ⊢
        omega
    exact ⟨by omega, fun _ => e⟩
  · refine ⟨?_, fun h => absurd h h8⟩
    have e := mk_none b b [] fun k => by have := (mt_inv b (b.drop k)).1; rw [List.length_drop] at this; omega
    unfold makeR
    rw [e, List.nil_append]
    have := fl_len h
    rw [List.length_append, List.length_append]
    omega
theorem short_none {b : List UInt8} (h : b.length ≤ 2000) : b.length ≤ (makeR [] b).length ∧ (makeR [] b).length ≤ b.length + 6 := by
  have h2 := putL_2 h
  have e := mk_none [] b [] fun k => by rw [mt_nil]; omega
  unfold makeR
  rw [e, List.nil_append]
  have h3 := fl_len h
  have h4 := putL_0
  have h5 := putL_pos b.length
  by_cases h0 : b = []
  · subst h0
    rw [flR_nil]
    simp only [List.length_append, List.length_nil] at h2 h4 ⊢
    omega
  · simp only [List.length_append, List.length_nil]
    omega
end Go.Mx
