/- wire.Compare, slices.Clone, wire.merge, wire.Sort (cut out of WireS, SortB for seats without package wire's numbers). -/
import Derived.Test.YtojbdlbcaoeffaaBase
import Derived.Test.YtojbdlbcaoeffaaSortP
namespace Go.Proofs.Ytojbdlbcaoeffaa
open Go.RowKit Go.Mx

theorem compare_any (s t : ByteArray) (w : World) : Calls Try.prog 53 #[.string s, .string t] w fun e w' => e = .returned (.int .i64 (cmpL s.toList t.toList)) ∧ w = w' := by
  generalize hx : s.toList = x
  generalize hy : t.toList = y
  by_cases h : Op.bytesLess x y = true
  · have hc : cmpL x y = -1 := by rw [cmpL, if_pos h]
    have HC := hid hc
    clear hc
    go_enter Try.func53, Try.ntmps53
    go_wp2_with fail
    go_ret
    exact ⟨by rw [HC.out]; rfl, rfl⟩
  · have h : Op.bytesLess x y = false := by simpa using h
    by_cases he : x = y
    · have hc : cmpL x y = 0 := by rw [cmpL, h, if_pos he]; rfl
      have hb : (x == y) = true := by simpa using he
      have HC := hid hc
      clear hc he
      go_enter Try.func53, Try.ntmps53
      go_wp2_with fail
      go_ret
      exact ⟨by rw [HC.out]; rfl, rfl⟩
    · have hc : cmpL x y = 1 := by rw [cmpL, h, if_neg he]; rfl
      have hb : (x == y) = false := by simpa using he
      have HC := hid hc
      clear hc he
      go_enter Try.func53, Try.ntmps53
      go_wp2_with fail
      go_ret
      exact ⟨by rw [HC.out]; rfl, rfl⟩


theorem sclone_any (v : Value) (l : List ByteArray) (w : World) (hv : Sl w 1 v l.length (ss l)) (hl : l.length ≤ 8796093022208) :
    Calls Try.prog 42 #[v] w fun e w' => ∃ v', e = .returned v' ∧ St w w' [⟨v', 9, 1, l.length, ss l⟩] [] := by
  have q := fun (w : World) (a : Option Addr) (n c n' c' : Nat) => Lib.run_eql_slice_nil (P := Try.prog) w 26 _ a n c n' c' Try.underlying26
  have hv0 := hv
  obtain ⟨ao, cap, blk, off, rfl, h1, h2, _, hc⟩ := hv.txt
  cases ao with
  | none =>
    have hnil : l = [] := by
      cases l with
      | nil => rfl
      | cons x l => exact absurd (hc 0 (by simp)).1 (by simp)
    subst hnil
    clear hc hv0
    go_enter Try.func42, Try.ntmps42
    go_wp2_with fail
    go_ret
    exact ⟨_, rfl, St.nil _ _ _⟩
  | some a =>
    have hs := (St.refl w).made #[] 9 1 0 rfl (by simp)
    clear hc
    have HV := hid hv0
    clear hv0
    go_enter Try.func42, Try.ntmps42
    go_wp2_with (at_builtin; refine wpl_app rfl _ _ 26 rfl Try.elStr hs rfl (by exact hs.old HV.out) (ss_one _) (by omega) ?_; intro v1 w1 hs1 _)
    go_ret
    exact ⟨_, rfl, hs1.cast (by simp) (by simp)⟩

theorem ss_rest {w : World} {v : Value} {x : ByteArray} {l : List ByteArray} (h : Sl w 1 v ((x :: l).length - 1) (((ss (x :: l)).take ((x :: l).length * 1)).drop (1 * 1))) : Sl w 1 v l.length (ss l) := by
  rw [ss_cut, List.take_of_length_le (Nat.le_refl _)] at h
  exact h

set_option maxHeartbeats 1000000 in
theorem merge_any (va vb : Value) (A B : List ByteArray) (w : World) (ha : Sl w 1 va A.length (ss A)) (hb : Sl w 1 vb B.length (ss B)) (hl : A.length + B.length ≤ 8796093022208) (sa : Sorted A) (sb : Sorted B) :
    Calls Try.prog 50 #[va, vb] w fun e w' => ∃ v', e = .returned v' ∧ St w w' [⟨v', 9, 1, (A ++ B).length, ss (sortL (A ++ B))⟩] [] := by
  have HI := hid (MInv.start sa sb)
  clear sa sb
  have e2 : wrap64 ((A.length : Int) + (B.length : Int)) = (A.length : Int) + (B.length : Int) := IntWalk.wrap64_in _ (by omega)
  go_enter Try.func50, Try.ntmps50
  go_wp2_with (first | ((with_reducible show wpList _ _ _ _ _ _); refine wpl_len rfl 26 9 _ rfl Try.underlying26 (by exact ha) ?_) | ((with_reducible show wpList _ _ _ _ _ _); refine wpl_len rfl 26 9 _ rfl Try.underlying26 (by exact hb) ?_) | ((with_reducible show wpList _ _ _ _ _ _); refine wpl_make0 (k := .i64) (k' := .i64) rfl 26 _ _ rfl Try.elStr (St.refl w) (A.length + B.length) rfl (by show Value.int IntKind.i64 ((A.length : Int) + (B.length : Int)) = _; rw [Int.natCast_add]) (by omega) ?_; intro vo w1 hs0 _))

  go_loopw [0, 1, 5] (fun x y z wr => ∃ la lb acc : List ByteArray, Sl w 1 x la.length (ss la) ∧ Sl w 1 y lb.length (ss lb) ∧ St w wr [⟨z, 9, 1, acc.length, ss acc⟩] [] ∧ Hid (MInv acc la lb A B)) (fun x y _ _ => lenV x + lenV y)
  case atStart => exact ⟨A, B, [], ha, hb, hs0, HI⟩
  case round =>
    obtain ⟨la, lb, acc, ha, hb, hs, HI⟩ := hrel
    have hlen := HI.out.len
    have HN := hid hlen
    clear hlen
    have HA := hid ha
    have HB := hid hb
    obtain ⟨aa, ca, ba, fa, rfl, ha1, ha2, _, hac⟩ := ha.txt
    obtain ⟨ab, cb, bb, fb, rfl, hb1, hb2, _, hbc⟩ := hb.txt
    clear ha hb
    have CA := hid hac
    have CB := hid hbc
    clear hac hbc
    match la, lb with
    | [], lb =>
      clear CA CB
      have h0 : ([] : List ByteArray).length = 0 := rfl
      have hm : acc.length + lb.length ≤ 8796093022208 := by have := HN.out; simp at this; omega
      go_wp2_with (first | (at_builtin; refine wpl_app rfl _ _ 26 rfl Try.elStr hs rfl (by exact hs.old HA.out) (ss_one _) (by omega) ?_; intro v1 w1 hs1 _) | (at_builtin; refine wpl_app rfl _ _ 26 rfl Try.elStr hs1 rfl (by exact hs1.old HB.out) (ss_one _) (by omega) ?_; intro v2 w2 hs2 _))
      go_ret
      exact ⟨_, rfl, hs2.cast (by have := HN.out; simp at this ⊢; omega) (by rw [← HI.out.done (by simp), ss_app, ss_app])⟩
    | x :: la, [] =>
      clear CA CB
      have h0 : ([] : List ByteArray).length = 0 := rfl
      have h1 : (x :: la).length = la.length + 1 := rfl
      have hm : acc.length + (la.length + 1) ≤ 8796093022208 := by have := HN.out; simp at this; omega
      have hp : decide (0 < (la.length : Int) + 1) = true := decide_eq_true (by omega)
      go_wp2_with (first | (at_builtin; refine wpl_app rfl _ _ 26 rfl Try.elStr hs rfl (by exact hs.old HA.out) (ss_one _) (by omega) ?_; intro v1 w1 hs1 _) | (at_builtin; refine wpl_app rfl _ _ 26 rfl Try.elStr hs1 rfl (by exact hs1.old HB.out) (ss_one _) (by omega) ?_; intro v2 w2 hs2 _))
      go_ret
      exact ⟨_, rfl, hs2.cast (by have := HN.out; simp at this ⊢; omega) (by rw [← HI.out.done (by simp), ss_app, ss_app])⟩
    | x :: la, y :: lb =>
      have hm : acc.length + (la.length + 1) ≤ 8796093022208 := by have := HN.out; simp at this; omega
      have hm' : acc.length + (lb.length + 1) ≤ 8796093022208 := by have := HN.out; simp at this; omega
      have hp : decide (0 < (la.length : Int) + 1) = true := decide_eq_true (by omega)
      have hq : decide (0 < (lb.length : Int) + 1) = true := decide_eq_true (by omega)
      obtain ⟨rfl, c1⟩ := CA.out 0 (by simp)
      obtain ⟨rfl, c2⟩ := CB.out 0 (by simp)
      have c1 := hs.keep c1
      have c2 := hs.keep c2
      simp only [List.getElem_cons_zero, Nat.add_zero] at c1 c2
      by_cases hx : lt y x = true
      · have hb := (cmpL_lt0 y x).trans hx
        have Hx := hid hx
        clear hx
        go_wp2_with fail
        go_quiet ((go_at_call 53; exact Calls.quiet_of_same ((compare_any _ _ _).mono fun _ _ h => ⟨h.1, h.2.symm⟩)))
        go_wp2_with (first | (at_builtin; refine wpl_app rfl _ _ 26 rfl Try.elStr ((hs.drewN _).alloc _) rfl (by exact Sl.one _ _ _) (by intro u hu; simp at hu; subst hu; rfl) (by omega) ?_; intro v1 w1 hs1 _) | ((with_reducible show wpList _ _ _ _ _ _); refine wpl_cut rfl 26 _ _ _ rfl Try.elStr (by exact HB.out) 1 (y :: lb).length (.inr ⟨_, rfl⟩) (.inl ⟨rfl, rfl⟩) (by simp) (by simp) ?_; intro v2 hv2))
        go_roundw
        case rel => exact ⟨lb, x :: la, acc ++ [y], ss_rest (hv2 _ HB.out), HA.out, hs1.cast (by simp) (by simp [ss]), HI.out.swap.step (lt_asymm Hx.out)⟩
        case measure =>
          have := (hv2 _ HB.out).lenV
          simp [lenV] at this ⊢
          omega
      · have hx : lt y x = false := by simpa using hx
        have hb := (cmpL_lt0 y x).trans hx
        have Hx := hid hx
        clear hx
        go_wp2_with fail
        go_quiet ((go_at_call 53; exact Calls.quiet_of_same ((compare_any _ _ _).mono fun _ _ h => ⟨h.1, h.2.symm⟩)))
        go_wp2_with (first | (at_builtin; refine wpl_app rfl _ _ 26 rfl Try.elStr ((hs.drewN _).alloc _) rfl (by exact Sl.one _ _ _) (by intro u hu; simp at hu; subst hu; rfl) (by omega) ?_; intro v1 w1 hs1 _) | ((with_reducible show wpList _ _ _ _ _ _); refine wpl_cut rfl 26 _ _ _ rfl Try.elStr (by exact HA.out) 1 (x :: la).length (.inr ⟨_, rfl⟩) (.inl ⟨rfl, rfl⟩) (by simp) (by simp) ?_; intro v2 hv2))
        go_roundw
        case rel => exact ⟨la, y :: lb, acc ++ [x], ss_rest (hv2 _ HA.out), HB.out, hs1.cast (by simp) (by simp [ss]), HI.out.step Hx.out⟩
        case measure =>
          have := (hv2 _ HA.out).lenV
          simp [lenV] at this ⊢
          omega

set_option maxHeartbeats 1000000 in
theorem sort_any : ∀ (k : Nat) (v : Value) (l : List ByteArray) (w : World), l.length ≤ k → Sl w 1 v l.length (ss l) → l.length ≤ 8796093022208 →
    Calls Try.prog 46 #[v] w fun e w' => ∃ v', e = .returned v' ∧ St w w' [⟨v', 9, 1, l.length, ss (sortL l)⟩] [] := by
  intro k
  induction k with
  | zero =>
    intro v l w hk hv hl
    obtain rfl : l = [] := List.eq_nil_of_length_eq_zero (by omega)
    have hc := sclone_any v [] w hv hl
    have HC := hid hc
    have HV := hid hv
    clear hc hv
    go_enter Try.func46, Try.ntmps46
    go_wp2_with (first | ((with_reducible show wpList _ _ _ _ _ _); refine wpl_len rfl 26 9 _ rfl Try.underlying26 (by exact HV.out) ?_) | (go_at_call 42; refine HC.out.mono ?_; rintro e w1 ⟨v1, rfl, hs1⟩))
    go_ret
    exact ⟨_, rfl, by rw [sortL_small (by simp)]; exact hs1⟩
  | succ k ih =>
    intro v l w hk hv hl
    by_cases h2 : l.length < 2
    · have hd : decide ((l.length : Int) < 2) = true := decide_eq_true (by omega)
      have hc := sclone_any v l w hv hl
      have HC := hid hc
      have HV := hid hv
      clear hc hv ih
      go_enter Try.func46, Try.ntmps46
      go_wp2_with (first | ((with_reducible show wpList _ _ _ _ _ _); refine wpl_len rfl 26 9 _ rfl Try.underlying26 (by exact HV.out) ?_) | (go_at_call 42; refine HC.out.mono ?_; rintro e w1 ⟨v1, rfl, hs1⟩))
      go_ret
      exact ⟨_, rfl, by rw [sortL_small h2]; exact hs1⟩
    · have hd : decide ((l.length : Int) < 2) = false := decide_eq_false (by omega)
      have HV := hid hv
      have IH := hid ih
      clear hv ih
      go_enter Try.func46, Try.ntmps46
      go_wp2_with (first | ((with_reducible show wpList _ _ _ _ _ _); refine wpl_len rfl 26 9 _ rfl Try.underlying26 (by exact HV.out) ?_))
      obtain ⟨v1, r1, c1⟩ := HV.out.cutRun Try.elStr none (some (.int .i64 ((l.length : Int) / 2))) 0 (l.length / 2) (.inl ⟨rfl, rfl⟩) (.inr ⟨.i64, by rw [Int.natCast_ediv]; rfl⟩) (by omega) (by omega)
      obtain ⟨v2, r2, c2⟩ := HV.out.cutRun Try.elStr (some (.int .i64 ((l.length : Int) / 2))) none (l.length / 2) l.length (.inr ⟨.i64, by rw [Int.natCast_ediv]; rfl⟩) (.inl ⟨rfl, rfl⟩) (by omega) (by omega)
      have C1 : Hid (∀ w', Sl w' 1 v l.length (ss l) → Sl w' 1 v1 (l.take (l.length / 2)).length (ss (l.take (l.length / 2)))) := fun w' h => by
        have := c1 w' h
        rw [ss_cut] at this
        simpa [Nat.min_eq_left (show l.length / 2 ≤ l.length by omega)] using this
      have C2 : Hid (∀ w', Sl w' 1 v l.length (ss l) → Sl w' 1 v2 (l.drop (l.length / 2)).length (ss (l.drop (l.length / 2)))) := fun w' h => by
        have := c2 w' h
        rw [ss_cut] at this
        simpa using this
      clear c1 c2
      go_region_held3 (fun _ => True) (trivial) (first
        | (go_at_call_of 46 v1; refine (IH.out v1 (l.take (l.length / 2)) _ (by simp; omega) (C1.out _ (by first | exact HV.out | exact (St.refl w).drew.old HV.out)) (by simp; omega)).mono ?_; rintro e w1 ⟨x1, rfl, hs1⟩; replace hs1 := (St.refl w).drew.call1 hs1)
        | (go_at_call_of 46 v2; refine (IH.out v2 (l.drop (l.length / 2)) _ (by simp; omega) (C2.out _ (hs1.old HV.out)) (by simp; omega)).mono ?_; rintro e w2 ⟨x2, rfl, hs2⟩; replace hs2 := hs1.call1 hs2)
        | (go_at_call 50; refine (merge_any x1 x2 (sortL (l.take (l.length / 2))) (sortL (l.drop (l.length / 2))) _ (by rw [sortL_len]; exact hs2.swap.sl0) (by rw [sortL_len]; exact hs2.sl0) (by rw [sortL_len, sortL_len]; simp; omega) (sortL_sorted _) (sortL_sorted _)).mono ?_; rintro e w3 ⟨x3, rfl, hs3⟩; replace hs3 := hs2.call1 hs3))
      go_wp2_with fail
      go_ret
      have e1 : (sortL (l.take (l.length / 2)) ++ sortL (l.drop (l.length / 2))).length = l.length := by
        rw [List.length_append, sortL_len, sortL_len, ← List.length_append, List.take_append_drop]
      refine ⟨_, rfl, hs3.head.cast e1 ?_⟩
      rw [sortL_app, List.take_append_drop]
end Go.Proofs.Ytojbdlbcaoeffaa
