/- wire.Compare, slices.Clone, wire.merge, wire.Sort (cut out of WireS, SortB for seats without package wire's numbers). slices.Compact, wire.Unique, wire.Merge. marref.Unique. -/
import Derived.Test.YtlfdnlomlbbicaaBase
import Derived.Test.YtlfdnlomlbbicaaJDMet
import Derived.Test.YtlfdnlomlbbicaaShelf
namespace Go.Proofs.Ytlfdnlomlbbicaa
open Go.RowKit Go.Mx

theorem compare_any (s t : ByteArray) (w : World) : Calls Try.prog 90 #[.string s, .string t] w fun e w' => e = .returned (.int .i64 (cmpL s.toList t.toList)) ∧ w = w' := by
  generalize hx : s.toList = x
  generalize hy : t.toList = y
  by_cases h : Op.bytesLess x y = true
  · have hc : cmpL x y = -1 := by rw [cmpL, if_pos h]
    have HC := hid hc
    clear hc
    go_enter Try.func90, Try.ntmps90
    go_wp2_with fail
    go_ret
    exact ⟨by rw [HC.out]; rfl, rfl⟩
  · have h : Op.bytesLess x y = false := by simpa using h
    by_cases he : x = y
    · have hc : cmpL x y = 0 := by rw [cmpL, h, if_pos he]; rfl
      have hb : (x == y) = true := by simpa using he
      have HC := hid hc
      clear hc he
      go_enter Try.func90, Try.ntmps90
      go_wp2_with fail
      go_ret
      exact ⟨by rw [HC.out]; rfl, rfl⟩
    · have hc : cmpL x y = 1 := by rw [cmpL, h, if_neg he]; rfl
      have hb : (x == y) = false := by simpa using he
      have HC := hid hc
      clear hc he
      go_enter Try.func90, Try.ntmps90
      go_wp2_with fail
      go_ret
      exact ⟨by rw [HC.out]; rfl, rfl⟩


theorem sclone_any (v : Value) (l : List ByteArray) (w : World) (hv : Sl w 1 v l.length (ss l)) (hl : l.length ≤ 8796093022208) :
    Calls Try.prog 58 #[v] w fun e w' => ∃ v', e = .returned v' ∧ St w w' [⟨v', 9, 1, l.length, ss l⟩] [] := by
  have q := fun (w : World) (a : Option Addr) (n c n' c' : Nat) => Lib.run_eql_slice_nil (P := Try.prog) w 24 _ a n c n' c' Try.underlying24
  have hv0 := hv
  obtain ⟨ao, cap, blk, off, rfl, h1, h2, _, hc⟩ := hv.txt
  cases ao with
  | none =>
    have hnil : l = [] := by
      cases l with
      | nil => rfl
      | cons x l => exact absurd (hc 0 (by simp)).1 (by simp)
    subst hnil
    clear hc hv0
    go_enter Try.func58, Try.ntmps58
    go_wp2_with fail
    go_ret
    exact ⟨_, rfl, St.nil _ _ _⟩
  | some a =>
    have hs := (St.refl w).made #[] 9 1 0 rfl (by simp)
    clear hc
    have HV := hid hv0
    clear hv0
    go_enter Try.func58, Try.ntmps58
    go_wp2_with (at_builtin; refine wpl_app rfl _ _ 24 rfl Try.elStr hs rfl (by exact hs.old HV.out) (ss_one _) (by omega) ?_; intro v1 w1 hs1 _)
    go_ret
    exact ⟨_, rfl, hs1.cast (by simp) (by simp)⟩

theorem ss_rest {w : World} {v : Value} {x : ByteArray} {l : List ByteArray} (h : Sl w 1 v ((x :: l).length - 1) (((ss (x :: l)).take ((x :: l).length * 1)).drop (1 * 1))) : Sl w 1 v l.length (ss l) := by
  rw [ss_cut, List.take_of_length_le (Nat.le_refl _)] at h
  exact h

set_option maxHeartbeats 1000000 in
theorem merge_any (va vb : Value) (A B : List ByteArray) (w : World) (ha : Sl w 1 va A.length (ss A)) (hb : Sl w 1 vb B.length (ss B)) (hl : A.length + B.length ≤ 8796093022208) (sa : Sorted A) (sb : Sorted B) :
    Calls Try.prog 78 #[va, vb] w fun e w' => ∃ v', e = .returned v' ∧ St w w' [⟨v', 9, 1, (A ++ B).length, ss (sortL (A ++ B))⟩] [] := by
  have HI := hid (MInv.start sa sb)
  clear sa sb
  have e2 : wrap64 ((A.length : Int) + (B.length : Int)) = (A.length : Int) + (B.length : Int) := IntWalk.wrap64_in _ (by omega)
  go_enter Try.func78, Try.ntmps78
  go_wp2_with (first | ((with_reducible show wpList _ _ _ _ _ _); refine wpl_len rfl 24 9 _ rfl Try.underlying24 (by exact ha) ?_) | ((with_reducible show wpList _ _ _ _ _ _); refine wpl_len rfl 24 9 _ rfl Try.underlying24 (by exact hb) ?_) | ((with_reducible show wpList _ _ _ _ _ _); refine wpl_make0 (k := .i64) (k' := .i64) rfl 24 _ _ rfl Try.elStr (St.refl w) (A.length + B.length) rfl (by show Value.int IntKind.i64 ((A.length : Int) + (B.length : Int)) = _; rw [Int.natCast_add]) (by omega) ?_; intro vo w1 hs0 _))

  go_loopw [0, 1, 5] (fun x y z wr => ∃ la lb acc : List ByteArray, Sl w 1 x la.length (ss la) ∧ Sl w 1 y lb.length (ss lb) ∧ St w wr [⟨z, 9, 1, acc.length, ss acc⟩] [] ∧ Hid (MInv acc la lb A B)) (fun x y _ _ => lenV x + lenV y)
  case atStart => exact ⟨A, B, [], ha, hb, hs0, HI⟩
  case round =>
    obtain ⟨la, lb, acc, ha, hb, hs, HI⟩ := hrel
    have hlen := HI.out.len
    have HN := hid hlen
    clear hlen
    have HA := hid ha
    have HB := hid hb
    obtain ⟨aa, ca, ba, fa, rfl, ha1, ha2, _, hac⟩ := ha.txt
    obtain ⟨ab, cb, bb, fb, rfl, hb1, hb2, _, hbc⟩ := hb.txt
    clear ha hb
    have CA := hid hac
    have CB := hid hbc
    clear hac hbc
    match la, lb with
    | [], lb =>
      clear CA CB
      have h0 : ([] : List ByteArray).length = 0 := rfl
      have hm : acc.length + lb.length ≤ 8796093022208 := by have := HN.out; simp at this; omega
      go_wp2_with (first | (at_builtin; refine wpl_app rfl _ _ 24 rfl Try.elStr hs rfl (by exact hs.old HA.out) (ss_one _) (by omega) ?_; intro v1 w1 hs1 _) | (at_builtin; refine wpl_app rfl _ _ 24 rfl Try.elStr hs1 rfl (by exact hs1.old HB.out) (ss_one _) (by omega) ?_; intro v2 w2 hs2 _))
      go_ret
      exact ⟨_, rfl, hs2.cast (by have := HN.out; simp at this ⊢; omega) (by rw [← HI.out.done (by simp), ss_app, ss_app])⟩
    | x :: la, [] =>
      clear CA CB
      have h0 : ([] : List ByteArray).length = 0 := rfl
      have h1 : (x :: la).length = la.length + 1 := rfl
      have hm : acc.length + (la.length + 1) ≤ 8796093022208 := by have := HN.out; simp at this; omega
      have hp : decide (0 < (la.length : Int) + 1) = true := decide_eq_true (by omega)
      go_wp2_with (first | (at_builtin; refine wpl_app rfl _ _ 24 rfl Try.elStr hs rfl (by exact hs.old HA.out) (ss_one _) (by omega) ?_; intro v1 w1 hs1 _) | (at_builtin; refine wpl_app rfl _ _ 24 rfl Try.elStr hs1 rfl (by exact hs1.old HB.out) (ss_one _) (by omega) ?_; intro v2 w2 hs2 _))
      go_ret
      exact ⟨_, rfl, hs2.cast (by have := HN.out; simp at this ⊢; omega) (by rw [← HI.out.done (by simp), ss_app, ss_app])⟩
    | x :: la, y :: lb =>
      have hm : acc.length + (la.length + 1) ≤ 8796093022208 := by have := HN.out; simp at this; omega
      have hm' : acc.length + (lb.length + 1) ≤ 8796093022208 := by have := HN.out; simp at this; omega
      have hp : decide (0 < (la.length : Int) + 1) = true := decide_eq_true (by omega)
      have hq : decide (0 < (lb.length : Int) + 1) = true := decide_eq_true (by omega)
      obtain ⟨rfl, c1⟩ := CA.out 0 (by simp)
      obtain ⟨rfl, c2⟩ := CB.out 0 (by simp)
      have c1 := hs.keep c1
      have c2 := hs.keep c2
      simp only [List.getElem_cons_zero, Nat.add_zero] at c1 c2
      by_cases hx : lt y x = true
      · have hb := (cmpL_lt0 y x).trans hx
        have Hx := hid hx
        clear hx
        go_wp2_with fail
        go_quiet ((go_at_call 90; exact Calls.quiet_of_same ((compare_any _ _ _).mono fun _ _ h => ⟨h.1, h.2.symm⟩)))
        go_wp2_with (first | (at_builtin; refine wpl_app rfl _ _ 24 rfl Try.elStr ((hs.drewN _).alloc _) rfl (by exact Sl.one _ _ _) (by intro u hu; simp at hu; subst hu; rfl) (by omega) ?_; intro v1 w1 hs1 _) | ((with_reducible show wpList _ _ _ _ _ _); refine wpl_cut rfl 24 _ _ _ rfl Try.elStr (by exact HB.out) 1 (y :: lb).length (.inr ⟨_, rfl⟩) (.inl ⟨rfl, rfl⟩) (by simp) (by simp) ?_; intro v2 hv2))
        go_roundw
        case rel => exact ⟨lb, x :: la, acc ++ [y], ss_rest (hv2 _ HB.out), HA.out, hs1.cast (by simp) (by simp [ss]), HI.out.swap.step (lt_asymm Hx.out)⟩
        case measure =>
          have := (hv2 _ HB.out).lenV
          simp [lenV] at this ⊢
          omega
      · have hx : lt y x = false := by simpa using hx
        have hb := (cmpL_lt0 y x).trans hx
        have Hx := hid hx
        clear hx
        go_wp2_with fail
        go_quiet ((go_at_call 90; exact Calls.quiet_of_same ((compare_any _ _ _).mono fun _ _ h => ⟨h.1, h.2.symm⟩)))
        go_wp2_with (first | (at_builtin; refine wpl_app rfl _ _ 24 rfl Try.elStr ((hs.drewN _).alloc _) rfl (by exact Sl.one _ _ _) (by intro u hu; simp at hu; subst hu; rfl) (by omega) ?_; intro v1 w1 hs1 _) | ((with_reducible show wpList _ _ _ _ _ _); refine wpl_cut rfl 24 _ _ _ rfl Try.elStr (by exact HA.out) 1 (x :: la).length (.inr ⟨_, rfl⟩) (.inl ⟨rfl, rfl⟩) (by simp) (by simp) ?_; intro v2 hv2))
        go_roundw
        case rel => exact ⟨la, y :: lb, acc ++ [x], ss_rest (hv2 _ HA.out), HB.out, hs1.cast (by simp) (by simp [ss]), HI.out.step Hx.out⟩
        case measure =>
          have := (hv2 _ HA.out).lenV
          simp [lenV] at this ⊢
          omega

set_option maxHeartbeats 1000000 in
theorem sort_any : ∀ (k : Nat) (v : Value) (l : List ByteArray) (w : World), l.length ≤ k → Sl w 1 v l.length (ss l) → l.length ≤ 8796093022208 →
    Calls Try.prog 60 #[v] w fun e w' => ∃ v', e = .returned v' ∧ St w w' [⟨v', 9, 1, l.length, ss (sortL l)⟩] [] := by
  intro k
  induction k with
  | zero =>
    intro v l w hk hv hl
    obtain rfl : l = [] := List.eq_nil_of_length_eq_zero (by omega)
    have hc := sclone_any v [] w hv hl
    have HC := hid hc
    have HV := hid hv
    clear hc hv
    go_enter Try.func60, Try.ntmps60
    go_wp2_with (first | ((with_reducible show wpList _ _ _ _ _ _); refine wpl_len rfl 24 9 _ rfl Try.underlying24 (by exact HV.out) ?_) | (go_at_call 58; refine HC.out.mono ?_; rintro e w1 ⟨v1, rfl, hs1⟩))
    go_ret
    exact ⟨_, rfl, by rw [sortL_small (by simp)]; exact hs1⟩
  | succ k ih =>
    intro v l w hk hv hl
    by_cases h2 : l.length < 2
    · have hd : decide ((l.length : Int) < 2) = true := decide_eq_true (by omega)
      have hc := sclone_any v l w hv hl
      have HC := hid hc
      have HV := hid hv
      clear hc hv ih
      go_enter Try.func60, Try.ntmps60
      go_wp2_with (first | ((with_reducible show wpList _ _ _ _ _ _); refine wpl_len rfl 24 9 _ rfl Try.underlying24 (by exact HV.out) ?_) | (go_at_call 58; refine HC.out.mono ?_; rintro e w1 ⟨v1, rfl, hs1⟩))
      go_ret
      exact ⟨_, rfl, by rw [sortL_small h2]; exact hs1⟩
    · have hd : decide ((l.length : Int) < 2) = false := decide_eq_false (by omega)
      have HV := hid hv
      have IH := hid ih
      clear hv ih
      go_enter Try.func60, Try.ntmps60
      go_wp2_with (first | ((with_reducible show wpList _ _ _ _ _ _); refine wpl_len rfl 24 9 _ rfl Try.underlying24 (by exact HV.out) ?_))
      obtain ⟨v1, r1, c1⟩ := HV.out.cutRun Try.elStr none (some (.int .i64 ((l.length : Int) / 2))) 0 (l.length / 2) (.inl ⟨rfl, rfl⟩) (.inr ⟨.i64, by rw [Int.natCast_ediv]; rfl⟩) (by omega) (by omega)
      obtain ⟨v2, r2, c2⟩ := HV.out.cutRun Try.elStr (some (.int .i64 ((l.length : Int) / 2))) none (l.length / 2) l.length (.inr ⟨.i64, by rw [Int.natCast_ediv]; rfl⟩) (.inl ⟨rfl, rfl⟩) (by omega) (by omega)
      have C1 : Hid (∀ w', Sl w' 1 v l.length (ss l) → Sl w' 1 v1 (l.take (l.length / 2)).length (ss (l.take (l.length / 2)))) := fun w' h => by
        have := c1 w' h
        rw [ss_cut] at this
        simpa [Nat.min_eq_left (show l.length / 2 ≤ l.length by omega)] using this
      have C2 : Hid (∀ w', Sl w' 1 v l.length (ss l) → Sl w' 1 v2 (l.drop (l.length / 2)).length (ss (l.drop (l.length / 2)))) := fun w' h => by
        have := c2 w' h
        rw [ss_cut] at this
        simpa using this
      clear c1 c2
      go_region_held3 (fun _ => True) (trivial) (first
        | (go_at_call_of 60 v1; refine (IH.out v1 (l.take (l.length / 2)) _ (by simp; omega) (C1.out _ (by first | exact HV.out | exact (St.refl w).drew.old HV.out)) (by simp; omega)).mono ?_; rintro e w1 ⟨x1, rfl, hs1⟩; replace hs1 := (St.refl w).drew.call1 hs1)
        | (go_at_call_of 60 v2; refine (IH.out v2 (l.drop (l.length / 2)) _ (by simp; omega) (C2.out _ (hs1.old HV.out)) (by simp; omega)).mono ?_; rintro e w2 ⟨x2, rfl, hs2⟩; replace hs2 := hs1.call1 hs2)
        | (go_at_call 78; refine (merge_any x1 x2 (sortL (l.take (l.length / 2))) (sortL (l.drop (l.length / 2))) _ (by rw [sortL_len]; exact hs2.swap.sl0) (by rw [sortL_len]; exact hs2.sl0) (by rw [sortL_len, sortL_len]; simp; omega) (sortL_sorted _) (sortL_sorted _)).mono ?_; rintro e w3 ⟨x3, rfl, hs3⟩; replace hs3 := hs2.call1 hs3))
      go_wp2_with fail
      go_ret
      have e1 : (sortL (l.take (l.length / 2)) ++ sortL (l.drop (l.length / 2))).length = l.length := by
        rw [List.length_append, sortL_len, sortL_len, ← List.length_append, List.take_append_drop]
      refine ⟨_, rfl, hs3.head.cast e1 ?_⟩
      rw [sortL_app, List.take_append_drop]
end Go.Proofs.Ytlfdnlomlbbicaa

namespace Go.Mx
open Go Go.RowKit

theorem St.unfrozen {w0 w : World} {R : List Row} {Q : List Rd} {g n cap : Nat} {e : TypeId} {size : Nat} {xs : List Value} (h : St w0 w (⟨.slice (some ⟨g, 0, none⟩) n cap, e, size, n, xs⟩ :: R) Q) (j : Nat) (hj : j < xs.length) : w.frozen? ⟨g, j, none⟩ = false := by
  have ho := h.own _ (List.mem_cons_self ..)
  rcases ho.2 with ⟨h2, _⟩ | ⟨g', cap', cur, fr, hv, hb, hg, hfr, hn, hm, hs, htake⟩
  · cases h2
  · obtain ⟨rfl, rfl⟩ : g = g' ∧ cap = cap' := by simp at hv; exact hv
    have hlen := ho.1
    simp only [] at hlen hs hg hn
    have hxl : xs.length ≤ cur.size := by rw [hlen, hs]; exact Nat.mul_le_mul_right _ hn
    have := hfr j (by omega)
    simp only [World.frozen?, hg]
    simpa using this

/-- Cells laid from the row's head on. -/
theorem St.laid {P : Program} {w0 w : World} {R : List Row} {Q : List Rd} {g n cap : Nat} {e : TypeId} {size : Nat} {xs : List Value} (h : St w0 w (⟨.slice (some ⟨g, 0, none⟩) n cap, e, size, n, xs⟩ :: R) Q) (cs : List Value) (hj : cs.length = xs.length) (h1 : ∀ u ∈ cs, u.oneCell' = true) :
    St w0 (w.setCells g 0 cs) (⟨.slice (some ⟨g, 0, none⟩) n cap, e, size, n, cs⟩ :: R) Q := by
  obtain ⟨w', hr, hs⟩ := h.store (P := P) 0 cs (by omega) h1
  have h2 := run_storeCells_cells (P := P) g 0 cs 0 w (fun j hjl => by
      obtain ⟨u, hu⟩ : ∃ u, xs[j]? = some u := ⟨xs[j]'(by omega), List.getElem?_eq_getElem (by omega)⟩
      have := h.cell hu
      simp [this]) (fun j hjl => by have := h.unfrozen j (by omega); simpa using this) h1
  rw [hr] at h2
  have e : w' = w.setCells g 0 cs := by injection h2
  rw [← e]
  have hx : xs.take 0 ++ cs ++ xs.drop (0 + cs.length) = cs := by rw [List.take_zero, List.nil_append, Nat.zero_add, hj, List.drop_length, List.append_nil]
  rw [hx] at hs
  exact hs

/-- The row cut short. -/
theorem St.short {w0 w : World} {R : List Row} {Q : List Rd} {g n cap : Nat} {e : TypeId} {size : Nat} {xs : List Value} (h : St w0 w (⟨.slice (some ⟨g, 0, none⟩) n cap, e, size, n, xs⟩ :: R) Q) (m : Nat) (hm : m ≤ n) :
    St w0 w (⟨.slice (some ⟨g, 0, none⟩) m cap, e, size, m, xs.take (m * size)⟩ :: R) Q := by
  have ho := h.own _ (List.mem_cons_self ..)
  refine h.turn (r' := ⟨.slice (some ⟨g, 0, none⟩) m cap, e, size, m, xs.take (m * size)⟩) ?_ ⟨rfl, rfl, rfl, Nat.le_refl _, fun _ _ _ => rfl⟩ fun b hb => .inl hb
  rcases ho.2 with ⟨h2, _⟩ | ⟨g', cap', cur, fr, hv, hb, hg, hfr, hn, hc, hs, htake⟩
  · cases h2
  · obtain ⟨rfl, rfl⟩ : g = g' ∧ cap = cap' := by simp at hv; exact hv
    have hlen := ho.1
    simp only [] at hlen hs hg hn htake
    have hle : m * size ≤ n * size := Nat.mul_le_mul_right _ hm
    refine ⟨by simp only []; rw [List.length_take, hlen, Nat.min_eq_left hle], .inr ⟨g, cap, cur, fr, rfl, hb, hg, hfr, by simp only []; omega, hc, hs, ?_⟩⟩
    simp only []
    rw [← htake, List.take_take, Nat.min_eq_left hle]

/-- What slices.Compact makes of a list. -/
def compL (l : List ByteArray) : List ByteArray := (Lib.compact (l.map fun s : ByteArray => s.data.toList)).map str
theorem compL_sort (l : List ByteArray) : compL (sortL l) = uniqL l := rfl
theorem compL_len (l : List ByteArray) : (compL l).length ≤ l.length := by
  unfold compL
  rw [List.length_map]
  have := Lib.compact_length_le (l.map fun s : ByteArray => s.data.toList)
  simpa using this
theorem uniqL_len (l : List ByteArray) : (uniqL l).length ≤ l.length := by have := compL_len (sortL l); rwa [compL_sort, sortL_len] at this
theorem strsOf_eq (l : List ByteArray) : Lib.strsOf (fun i => l.getD i ByteArray.empty) l.length = l.map fun s : ByteArray => s.data.toList := by
  apply List.ext_getElem
  · simp [Lib.strsOf]
  · intro i h1 h2
    have : i < l.length := by simpa using h2
    simp [Lib.strsOf, this]
end Go.Mx
namespace Go.Proofs.Ytlfdnlomlbbicaa
open Go.RowKit Go.Mx

theorem compact_any {w0 : World} {v : Value} {l : List ByteArray} {w : World} {R : List Row} {Q : List Rd} (hs : St w0 w (⟨v, 9, 1, l.length, ss l⟩ :: R) Q) :
    Calls Try.prog 79 #[v] w fun e w' => ∃ v', e = .returned v' ∧ St w0 w' (⟨v', 9, 1, (compL l).length, ss (compL l)⟩ :: R) Q := by
  by_cases hn : l.length = 0
  · obtain rfl := List.eq_nil_of_length_eq_zero hn
    obtain ⟨ao, cap, blk, off, rfl, h1, h2, _, hc⟩ := hs.sl0.txt
    refine (Try.slices_Compact_string_empty ao cap w).mono ?_
    rintro e w' ⟨rfl, rfl⟩
    exact ⟨_, rfl, hs⟩
  · obtain ⟨g, cap, rfl, hb, _, h1, h2⟩ := hs.form0 hn
    refine (Try.slices_Compact_string_cells g 0 l.length cap (fun i => l.getD i ByteArray.empty) w (by omega) h1 (fun i hi => ?_) (fun j hj => ?_)).mono ?_
    · have := hs.cell (ss_get hi)
      rw [Nat.zero_add, this]
      simp [hi]
    · rw [Nat.zero_add]
      exact hs.unfrozen j (by rw [ss_len]; exact hj)
    · rintro e w' ⟨rfl, q, rfl⟩
      refine ⟨_, rfl, ?_⟩
      rw [strsOf_eq]
      have hle := compL_len l
      have e1 : (compL l).length = (Lib.compact (l.map fun s : ByteArray => s.data.toList)).length := by simp [compL]
      have hl := (hs.drewN q).laid (P := Try.prog) ((Lib.compact (l.map fun s : ByteArray => s.data.toList) ++ List.replicate (l.length - (Lib.compact (l.map fun s : ByteArray => s.data.toList)).length) []).map Go.Proofs.encStr) (by rw [ss_len]; simp; omega) (by
        intro u hu
        obtain ⟨_, _, rfl⟩ := List.mem_map.1 hu
        rfl)
      have h3 := hl.short (compL l).length hle
      rw [e1] at h3
      refine h3.cast e1.symm ?_
      rw [Nat.mul_one, List.map_append, List.take_append_of_le_length (by simp), List.take_of_length_le (by simp)]
      simp [ss, compL]
      intro a _
      rfl


theorem wmerge_any (va vb : Value) (A B : List ByteArray) (w : World) (ha : Sl w 1 va A.length (ss A)) (hb : Sl w 1 vb B.length (ss B)) (hl : A.length + B.length ≤ 8796093022208) :
    Calls Try.prog 61 #[va, vb] w fun e w' => ∃ v', e = .returned v' ∧ St w w' [⟨v', 9, 1, (uniqL (A ++ B)).length, ss (uniqL (A ++ B))⟩] [] := by
  have HA := hid (sort_any A.length va A w (Nat.le_refl _) ha (by omega))
  have HB := hid hb
  clear ha hb
  have na := sortL_len A
  have nb := sortL_len B
  have nc := sortL_len (A ++ B)
  have e1 : (sortL A ++ sortL B).length = (sortL (A ++ B)).length := by rw [List.length_append, na, nb, nc, List.length_append]
  go_enter Try.func61, Try.ntmps61
  go_wp2_with (first
    | (go_at_call_of 60 va; refine HA.out.mono ?_; rintro e w1 ⟨x1, rfl, hs1⟩; replace hs1 := hs1.cast na.symm rfl)
    | (go_at_call_of 60 vb; refine (sort_any B.length vb B _ (Nat.le_refl _) (hs1.old HB.out) (by omega)).mono ?_; rintro e w2 ⟨x2, rfl, hs2⟩; replace hs2 := hs1.call1 (hs2.cast nb.symm rfl))
    | (go_at_call 78; refine (merge_any x1 x2 (sortL A) (sortL B) _ hs2.swap.sl0 hs2.sl0 (by omega) (sortL_sorted _) (sortL_sorted _)).mono ?_; rintro e w3 ⟨x3, rfl, hs3⟩; replace hs3 := (hs2.call1 hs3).head.cast e1 (congrArg ss (sortL_app A B)))
    | (go_at_call 79; refine (compact_any hs3).mono ?_; rintro e w4 ⟨v4, rfl, hs4⟩))
  go_ret
  exact ⟨_, rfl, hs4⟩

end Go.Proofs.Ytlfdnlomlbbicaa

namespace Go.Mx
open Go Go.RowKit

/-- x[:k] of a row: the row itself, cut short. -/
theorem St.cutTo {P : Program} {t e : TypeId} {size bytes : Nat} (E : El P t e size bytes) {w0 w : World} {R : List Row} {Q : List Rd} {v : Value} {n : Nat} {xs : List Value} (h : St w0 w (⟨v, e, size, n, xs⟩ :: R) Q) (k : Nat) (hk : k ≤ n) :
    ∃ v1, (∀ w', (Instr.sliceAt t v none (some (.int .i64 (k : Int))) none).run P w' = .ok v1 w') ∧ ∀ w R Q, St w0 w (⟨v, e, size, n, xs⟩ :: R) Q → St w0 w (⟨v1, e, size, k, xs.take (k * size)⟩ :: R) Q := by
  have ho := h.own _ (List.mem_cons_self ..)
  rcases ho.2 with ⟨h1, h2⟩ | ⟨g, cap, cur, fr, hv, hb, hg, hfr, hn, hm, hs, htake⟩
  · simp only [] at h1 h2
    subst h1 h2
    obtain rfl : k = 0 := by omega
    refine ⟨.slice none 0 0, fun w' => ?_, fun w R Q h => ?_⟩
    · have := run_slice_sl E (w := w') (ao := none) (n := 0) (cap := 0) (Nat.le_refl _) none (some (.int .i64 ((0 : Nat) : Int))) 0 0 (.inl ⟨rfl, rfl⟩) (.inr ⟨.i64, rfl⟩) (Nat.le_refl _) (Nat.le_refl _)
      simpa using this
    · have hx := (h.own _ (List.mem_cons_self ..)).1
      simp only [Nat.zero_mul] at hx
      obtain rfl := List.eq_nil_of_length_eq_zero hx
      simpa using h
  · simp only [] at hv hn
    subst hv
    refine ⟨.slice (some ⟨g, 0, none⟩) k cap, fun w' => ?_, fun w R Q h => h.short k hk⟩
    have := run_slice_sl E (w := w') (ao := some ⟨g, 0, none⟩) (n := n) (cap := cap) hn none (some (.int .i64 (k : Int))) 0 k (.inl ⟨rfl, rfl⟩) (.inr ⟨.i64, rfl⟩) (Nat.zero_le _) hk
    simpa [Addr.add] using this
end Go.Mx
namespace Go.Proofs.Ytlfdnlomlbbicaa
open Go.RowKit Go.Mx

theorem Sorted.drop_gt {l : List ByteArray} {x : ByteArray} {j : Nat} (hj : j < l.length) (h : ∀ y ∈ l.drop (j + 1), lt x y = true) (hx : lt x l[j] = true) : ∀ y ∈ l.drop j, lt x y = true := by
  intro y hy
  rw [List.drop_eq_getElem_cons hj] at hy
  rcases List.mem_cons.1 hy with rfl | hy
  · exact hx
  · exact h y hy

theorem cells_ins (O : List ByteArray) (x : ByteArray) (i k : Nat) (h : O.length = i) : (ss O).take (k * 1) ++ ([Value.string x] ++ ((ss O).take (i * 1)).drop (k * 1)) = ss (O.take k ++ ([x] ++ O.drop k)) := by
  subst h
  have e : (ss O).take (O.length * 1) = ss O := by rw [Nat.mul_one]; exact List.take_of_length_le (by rw [ss_len]; exact Nat.le_refl _)
  rw [e]
  simp [ss, List.map_take, List.map_drop]
end Go.Proofs.Ytlfdnlomlbbicaa

namespace Go.Mx
open Go Go.RowKit

theorem uniqL_ins (l : List ByteArray) (i : Nat) (hi : i < l.length) (k : Nat) (h1 : ∀ y ∈ (uniqL (l.take i)).take k, lt y l[i] = true) (h2 : ∀ y ∈ (uniqL (l.take i)).drop k, lt l[i] y = true) :
    (uniqL (l.take i)).take k ++ ([l[i]] ++ (uniqL (l.take i)).drop k) = uniqL (l.take (i + 1)) := by
  refine eq_uniqL (ins_strict (uniqL_strict _) k _ h1 h2) fun x => ?_
  rw [(ins_perm _ k _).mem_iff, List.take_succ_eq_append_getElem hi, List.mem_append, List.mem_append, mem_uniqL]
theorem uniqL_skip (l : List ByteArray) (i : Nat) (hi : i < l.length) (h : l[i] ∈ uniqL (l.take i)) : uniqL (l.take i) = uniqL (l.take (i + 1)) := by
  refine eq_uniqL (uniqL_strict _) fun x => ?_
  rw [mem_uniqL, List.take_succ_eq_append_getElem hi, List.mem_append, List.mem_singleton]
  constructor
  · exact .inl
  · rintro (h' | rfl)
    · exact h'
    · exact (mem_uniqL _ _).1 h
theorem Strict.drop_gt {l : List ByteArray} (h : Strict l) {k : Nat} (hk : k < l.length) {x : ByteArray} (hle : lt l[k] x = false) (hne : l[k] ≠ x) : ∀ y ∈ l.drop k, lt x y = true := by
  have h0 : lt x l[k] = true := by
    cases hc : lt x l[k] with
    | true => rfl
    | false => exact absurd (lt_total hle hc) hne
  intro y hy
  obtain ⟨j, hj, rfl⟩ := List.mem_drop_iff_getElem.1 hy
  by_cases he : j = 0
  · subst he; exact h0
  · exact lt_trans h0 (List.pairwise_iff_getElem.1 h k (k + j) hk (by omega) (by omega))
theorem Strict.take_lt {l : List ByteArray} (h : Strict l) {j : Nat} (hj : j < l.length) {x : ByteArray} (hx : lt l[j] x = true) : ∀ y ∈ l.take (j + 1), lt y x = true := by
  intro y hy
  obtain ⟨q, hq, rfl⟩ := List.mem_take_iff_getElem.1 hy
  by_cases he : q = j
  · subst he; exact hx
  · exact lt_trans (List.pairwise_iff_getElem.1 h q j (by omega) hj (by omega)) hx
theorem drop_ge {l : List ByteArray} {x : ByteArray} {j : Nat} (hj : j < l.length) (h : ∀ y ∈ l.drop (j + 1), lt y x = false) (hx : lt l[j] x = false) : ∀ y ∈ l.drop j, lt y x = false := by
  intro y hy
  rw [List.drop_eq_getElem_cons hj] at hy
  rcases List.mem_cons.1 hy with rfl | hy
  · exact hx
  · exact h y hy
theorem Sl.lenRun {P : Program} {w : World} {v : Value} {size n : Nat} {xs : List Value} (h : Sl w size v n xs) (t e ty : TypeId) (ht : P.underlying t = some (.slice e)) (w' : World) : (Builtin.len_ #[t] ty #[v]).run P w' = .ok (.int .i64 (n : Int)) w' := by
  obtain ⟨ao, cap, rfl, _⟩ := h
  simp [Builtin.len_, run_underlying ht, goInt]
end Go.Mx
namespace Go.Proofs.Ytlfdnlomlbbicaa
open Go.RowKit Go.Mx

set_option maxHeartbeats 4000000 in
theorem refUnique_any (v : Value) (l : List ByteArray) (w : World) (hv : Sl w 1 v l.length (ss l)) (hl : l.length ≤ 8796093022208) :
    Calls Try.prog 29 #[v] w fun e w' => ∃ v', e = .returned v' ∧ St w w' [⟨v', 9, 1, (uniqL l).length, ss (uniqL l)⟩] [] := by
  obtain ⟨ao, cap, blk, off, rfl, h1, h2, _, hc⟩ := hv.txt
  clear hv
  have HC := hid hc
  clear hc
  go_enter Try.func29, Try.ntmps29
  go_wp2_with fail
  go_loopw [3, 4] (fun y x wr => ∃ (i : Nat) (vo : Value), i ≤ l.length ∧ vo = y ∧ x = .int .i64 i ∧ St w wr [⟨vo, 9, 1, (uniqL (l.take i)).length, ss (uniqL (l.take i))⟩] []) (fun _ x _ => l.length - (intOf x).toNat)
  case atStart => exact ⟨0, _, by omega, rfl, rfl, (St.nil w 9 1).cast (by simp [uniqL, sortL, Lib.compact, Lib.compactUpTo]) (by simp [uniqL, sortL, ss, Lib.compact, Lib.compactUpTo])⟩
  case round =>
    obtain ⟨i, vo, hi, rfl, rfl, hs⟩ := hrel
    obtain ⟨wo, rfl⟩ : ∃ x : World, x = wr := ⟨_, rfl⟩
    by_cases hlt : i < l.length
    · obtain ⟨rfl, c0⟩ := HC.out i hlt
      have hii : (i : Int) < (l.length : Int) := by omega
      have hins := hid (uniqL_ins l i hlt)
      have hskip := hid (uniqL_skip l i hlt)
      have hsrt := hid (uniqL_strict (l.take i))
      have hOl : (uniqL (l.take i)).length ≤ i := by have := uniqL_len (l.take i); rw [List.length_take] at this; omega
      generalize hO : uniqL (l.take i) = O at *
      generalize hX : l[i] = x at *
      clear hX hO
      go_wp2_with ((with_reducible show wpList _ _ _ _ _ _); refine wpl_len rfl 24 9 _ rfl Try.underlying24 (by exact hs.sl0) ?_)
      go_loopw [5] (fun z ws => ∃ k : Nat, k ≤ O.length ∧ z = .int .i64 k ∧ Hid (∀ y ∈ O.drop k, lt y x = false) ∧ St w ws [⟨vo, 9, 1, O.length, ss O⟩] []) (fun z _ => (intOf z).toNat)
      case atStart => exact ⟨O.length, by omega, rfl, by rw [List.drop_of_length_le (by omega)]; simp [Hid], hs⟩
      case round =>
        obtain ⟨k, hk, rfl, Hd, hs⟩ := hrel
        have c1 := hs.keep c0
        have hlen := hs.sl0.lenRun 24 9 3 Try.underlying24
        match k with
        | 0 =>
          have HT : Hid (∀ y ∈ O.take 0, lt y x = true) := by simp [Hid]
          by_cases hkn : 0 < O.length
          · obtain ⟨g, cp, hv, hg1, hg2, hg3, hg4⟩ := hs.form0 (by omega)
            have hs' := hs
            rw [hv] at hs'
            have c3 := hs'.cell (ss_get hkn)
            clear hs'
            have hkd : decide ((0 : Int) < (O.length : Int)) = true := decide_eq_true (by omega)
            by_cases hq : O[0] = x
            · have hqb := tx_beq hq
              have Hq := hid hq
              clear hq
              clear hlen
              rw [hv]
              go_wp2_with fail
              go_quiet (fail)
              obtain ⟨n1, rfl⟩ : ∃ m : Nat, m = nq := ⟨_, rfl⟩
              go_wp2_with fail
              go_quiet (fail)
              go_wp2_with fail
              rw [← hv]
              go_roundw
              case rel =>
                have e := hskip.out (Hq.out ▸ List.getElem_mem hkn)
                exact ⟨i + 1, vo, by omega, rfl, by go_num, (hs.drewN _).cast (by rw [e]) (by rw [e])⟩
              case measure => simp [intOf]; omega
            · have hqb := tx_bne hq
              have HG : Hid (∀ y ∈ O.drop (0), lt x y = true) := hsrt.out.drop_gt hkn (Hd.out _ (by rw [List.drop_eq_getElem_cons hkn]; exact List.mem_cons_self ..)) hq
              clear hq
              clear hlen
              rw [hv]
              go_wp2_with fail
              go_quiet (fail)
              obtain ⟨n1, rfl⟩ : ∃ m : Nat, m = nq := ⟨_, rfl⟩
              go_wp2_with fail
              go_quiet (fail)
              go_wp2_with fail
              rw [← hv]
              replace hs := hs.drewN (n1 + nq)
              clear hv hqb c3 hg1 hg2 hg3 hg4 hkd
              try clear c2 hb
              obtain ⟨v1, r1, t1⟩ := hs.cutTo Try.elStr (0) (by omega)
              obtain ⟨v2, r2, t2⟩ := hs.sl0.cutRun Try.elStr (some (.int .i64 (0))) none (0) O.length (.inr ⟨.i64, rfl⟩) (.inl ⟨rfl, rfl⟩) (by omega) (Nat.le_refl _)
              replace t1 := hid t1
              replace t2 := hid t2
              replace r1 : ∀ w', (Instr.sliceAt 24 vo none (some (.int .i64 (0))) none).run Try.prog w' = .ok v1 w' := r1
              go_region_held3 (fun W => W.cell? ⟨blk, off + i, none⟩ = some (.string x)) (first | exact hA2.keep c0 | exact hA1.keep c0 | go_keep) (first
                | (have := hA1; refine step_app rfl _ _ 24 rfl Try.elStr (t1.out _ _ _ hA1.swap) rfl (by exact hA1.sl0) (by intro u hu; rcases List.mem_append.1 hu with hu | hu; (simp at hu; subst hu; rfl); exact ss_one O u (List.mem_of_mem_take (List.mem_of_mem_drop hu))) (by omega) ?_; intro vb wb hA2 _)
                | (refine step_app rfl _ _ 24 rfl Try.elStr (hs.drew.made #[.string x] 9 1 1 rfl (by simp [maxLen])) rfl (by exact t2.out _ (hs.drew.made #[.string x] 9 1 1 rfl (by simp [maxLen])).tail.sl0) (by intro u hu; exact ss_one O u (List.mem_of_mem_take (List.mem_of_mem_drop hu))) (by omega) ?_; intro va wa hA1 _))
              go_wp2_with fail
              go_roundw
              case rel =>
                have e := hins.out (0) HT.out HG.out
                refine ⟨i + 1, vb, by omega, rfl, by go_num, hA2.head.cast ?_ ?_⟩
                · rw [← e]; simp; omega
                · rw [cells_ins O x O.length _ rfl, e]
              case measure => simp [intOf]; omega
          · have hkd : decide ((0 : Int) < (O.length : Int)) = false := decide_eq_false (by omega)
            have HG : Hid (∀ y ∈ O.drop (0), lt x y = true) := by rw [List.drop_of_length_le (by omega)]; simp [Hid]
            go_wp2_with fail
            go_quiet (fail)
            obtain ⟨n1, rfl⟩ : ∃ m : Nat, m = nq := ⟨_, rfl⟩
            go_wp2_with fail
            go_quiet (fail)
            go_wp2_with fail
            replace hs := hs.drewN (n1 + nq)
            clear hlen hkd
            obtain ⟨v1, r1, t1⟩ := hs.cutTo Try.elStr (0) (by omega)
            obtain ⟨v2, r2, t2⟩ := hs.sl0.cutRun Try.elStr (some (.int .i64 (0))) none (0) O.length (.inr ⟨.i64, rfl⟩) (.inl ⟨rfl, rfl⟩) (by omega) (Nat.le_refl _)
            replace t1 := hid t1
            replace t2 := hid t2
            replace r1 : ∀ w', (Instr.sliceAt 24 vo none (some (.int .i64 (0))) none).run Try.prog w' = .ok v1 w' := r1
            go_region_held3 (fun W => W.cell? ⟨blk, off + i, none⟩ = some (.string x)) (first | exact hA2.keep c0 | exact hA1.keep c0 | go_keep) (first
              | (have := hA1; refine step_app rfl _ _ 24 rfl Try.elStr (t1.out _ _ _ hA1.swap) rfl (by exact hA1.sl0) (by intro u hu; rcases List.mem_append.1 hu with hu | hu; (simp at hu; subst hu; rfl); exact ss_one O u (List.mem_of_mem_take (List.mem_of_mem_drop hu))) (by omega) ?_; intro vb wb hA2 _)
              | (refine step_app rfl _ _ 24 rfl Try.elStr (hs.drew.made #[.string x] 9 1 1 rfl (by simp [maxLen])) rfl (by exact t2.out _ (hs.drew.made #[.string x] 9 1 1 rfl (by simp [maxLen])).tail.sl0) (by intro u hu; exact ss_one O u (List.mem_of_mem_take (List.mem_of_mem_drop hu))) (by omega) ?_; intro va wa hA1 _))
            go_wp2_with fail
            go_roundw
            case rel =>
              have e := hins.out (0) HT.out HG.out
              refine ⟨i + 1, vb, by omega, rfl, by go_num, hA2.head.cast ?_ ?_⟩
              · rw [← e]; simp; omega
              · rw [cells_ins O x O.length _ rfl, e]
            case measure => simp [intOf]; omega
        | j + 1 =>
          have hjO : j < O.length := by omega
          have hj0 : decide (0 < (j : Int) + 1) = true := decide_eq_true (by omega)
          have hjj : (j : Int) < (O.length : Int) := by omega
          by_cases hx : lt O[j] x = true
          · have hb : Op.bytesLess O[j].toList x.toList = true := hx
            have HT : Hid (∀ y ∈ O.take (j + 1), lt y x = true) := hsrt.out.take_lt hjO hx
            clear hx
            by_cases hkn : j + 1 < O.length
            · obtain ⟨g, cp, hv, hg1, hg2, hg3, hg4⟩ := hs.form0 (by omega)
              have hs' := hs
              rw [hv] at hs'
              have c3 := hs'.cell (ss_get hkn)
              have c2 := hs'.cell (ss_get hjO)
              clear hs'
              have hkd : decide (((j : Int) + 1 : Int) < (O.length : Int)) = true := decide_eq_true (by omega)
              by_cases hq : O[j + 1] = x
              · have hqb := tx_beq hq
                have Hq := hid hq
                clear hq
                clear hlen
                rw [hv]
                go_wp2_with fail
                go_quiet (fail)
                obtain ⟨n1, rfl⟩ : ∃ m : Nat, m = nq := ⟨_, rfl⟩
                go_wp2_with fail
                go_quiet (fail)
                go_wp2_with fail
                rw [← hv]
                go_roundw
                case rel =>
                  have e := hskip.out (Hq.out ▸ List.getElem_mem hkn)
                  exact ⟨i + 1, vo, by omega, rfl, by go_num, (hs.drewN _).cast (by rw [e]) (by rw [e])⟩
                case measure => simp [intOf]; omega
              · have hqb := tx_bne hq
                have HG : Hid (∀ y ∈ O.drop (j + 1), lt x y = true) := hsrt.out.drop_gt hkn (Hd.out _ (by rw [List.drop_eq_getElem_cons hkn]; exact List.mem_cons_self ..)) hq
                clear hq
                clear hlen
                rw [hv]
                go_wp2_with fail
                go_quiet (fail)
                obtain ⟨n1, rfl⟩ : ∃ m : Nat, m = nq := ⟨_, rfl⟩
                go_wp2_with fail
                go_quiet (fail)
                go_wp2_with fail
                rw [← hv]
                replace hs := hs.drewN (n1 + nq)
                clear hv hqb c3 hg1 hg2 hg3 hg4 hkd
                try clear c2 hb
                obtain ⟨v1, r1, t1⟩ := hs.cutTo Try.elStr (j + 1) (by omega)
                obtain ⟨v2, r2, t2⟩ := hs.sl0.cutRun Try.elStr (some (.int .i64 ((j : Int) + 1))) none (j + 1) O.length (.inr ⟨.i64, rfl⟩) (.inl ⟨rfl, rfl⟩) (by omega) (Nat.le_refl _)
                replace t1 := hid t1
                replace t2 := hid t2
                replace r1 : ∀ w', (Instr.sliceAt 24 vo none (some (.int .i64 ((j : Int) + 1))) none).run Try.prog w' = .ok v1 w' := r1
                go_region_held3 (fun W => W.cell? ⟨blk, off + i, none⟩ = some (.string x)) (first | exact hA2.keep c0 | exact hA1.keep c0 | go_keep) (first
                  | (have := hA1; refine step_app rfl _ _ 24 rfl Try.elStr (t1.out _ _ _ hA1.swap) rfl (by exact hA1.sl0) (by intro u hu; rcases List.mem_append.1 hu with hu | hu; (simp at hu; subst hu; rfl); exact ss_one O u (List.mem_of_mem_take (List.mem_of_mem_drop hu))) (by omega) ?_; intro vb wb hA2 _)
                  | (refine step_app rfl _ _ 24 rfl Try.elStr (hs.drew.made #[.string x] 9 1 1 rfl (by simp [maxLen])) rfl (by exact t2.out _ (hs.drew.made #[.string x] 9 1 1 rfl (by simp [maxLen])).tail.sl0) (by intro u hu; exact ss_one O u (List.mem_of_mem_take (List.mem_of_mem_drop hu))) (by omega) ?_; intro va wa hA1 _))
                go_wp2_with fail
                go_roundw
                case rel =>
                  have e := hins.out (j + 1) HT.out HG.out
                  refine ⟨i + 1, vb, by omega, rfl, by go_num, hA2.head.cast ?_ ?_⟩
                  · rw [← e]; simp; omega
                  · rw [cells_ins O x O.length _ rfl, e]
                case measure => simp [intOf]; omega
            · have hkd : decide (((j : Int) + 1 : Int) < (O.length : Int)) = false := decide_eq_false (by omega)
              have HG : Hid (∀ y ∈ O.drop (j + 1), lt x y = true) := by rw [List.drop_of_length_le (by omega)]; simp [Hid]
              obtain ⟨g, cp, hv, hg1, hg2, hg3, hg4⟩ := hs.form0 (by omega)
              have hs' := hs
              rw [hv] at hs'
              have c2 := hs'.cell (ss_get hjO)
              clear hs' hlen
              rw [hv]
              go_wp2_with fail
              go_quiet (fail)
              obtain ⟨n1, rfl⟩ : ∃ m : Nat, m = nq := ⟨_, rfl⟩
              go_wp2_with fail
              go_quiet (fail)
              go_wp2_with fail
              rw [← hv]
              replace hs := hs.drewN (n1 + nq)
              clear hv c2 hb hg1 hg2 hg3 hg4 hkd
              obtain ⟨v1, r1, t1⟩ := hs.cutTo Try.elStr (j + 1) (by omega)
              obtain ⟨v2, r2, t2⟩ := hs.sl0.cutRun Try.elStr (some (.int .i64 ((j : Int) + 1))) none (j + 1) O.length (.inr ⟨.i64, rfl⟩) (.inl ⟨rfl, rfl⟩) (by omega) (Nat.le_refl _)
              replace t1 := hid t1
              replace t2 := hid t2
              replace r1 : ∀ w', (Instr.sliceAt 24 vo none (some (.int .i64 ((j : Int) + 1))) none).run Try.prog w' = .ok v1 w' := r1
              go_region_held3 (fun W => W.cell? ⟨blk, off + i, none⟩ = some (.string x)) (first | exact hA2.keep c0 | exact hA1.keep c0 | go_keep) (first
                | (have := hA1; refine step_app rfl _ _ 24 rfl Try.elStr (t1.out _ _ _ hA1.swap) rfl (by exact hA1.sl0) (by intro u hu; rcases List.mem_append.1 hu with hu | hu; (simp at hu; subst hu; rfl); exact ss_one O u (List.mem_of_mem_take (List.mem_of_mem_drop hu))) (by omega) ?_; intro vb wb hA2 _)
                | (refine step_app rfl _ _ 24 rfl Try.elStr (hs.drew.made #[.string x] 9 1 1 rfl (by simp [maxLen])) rfl (by exact t2.out _ (hs.drew.made #[.string x] 9 1 1 rfl (by simp [maxLen])).tail.sl0) (by intro u hu; exact ss_one O u (List.mem_of_mem_take (List.mem_of_mem_drop hu))) (by omega) ?_; intro va wa hA1 _))
              go_wp2_with fail
              go_roundw
              case rel =>
                have e := hins.out (j + 1) HT.out HG.out
                refine ⟨i + 1, vb, by omega, rfl, by go_num, hA2.head.cast ?_ ?_⟩
                · rw [← e]; simp; omega
                · rw [cells_ins O x O.length _ rfl, e]
              case measure => simp [intOf]; omega
          · have hx : lt O[j] x = false := by simpa using hx
            have hb : Op.bytesLess O[j].toList x.toList = false := hx
            have Hx := hid hx
            clear hx
            obtain ⟨g, cp, hv, hg1, hg2, hg3, hg4⟩ := hs.form0 (by omega)
            have hs' := hs
            rw [hv] at hs'
            have c2 := hs'.cell (ss_get hjO)
            clear hs' hlen
            rw [hv]
            go_wp2_with fail
            go_quiet (fail)
            go_wp2_with fail
            rw [← hv]
            go_roundw
            case rel => exact ⟨j, by omega, rfl, drop_ge hjO Hd.out Hx.out, hs.drewN _⟩
            case measure => simp [intOf]
    · go_wp2_with fail
      go_ret
      have e : l.take i = l := List.take_of_length_le (by omega)
      exact ⟨_, rfl, hs.cast (by rw [e]) (by rw [e])⟩
end Go.Proofs.Ytlfdnlomlbbicaa
