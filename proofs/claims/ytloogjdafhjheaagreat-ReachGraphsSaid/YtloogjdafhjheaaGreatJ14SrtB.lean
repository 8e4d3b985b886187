/- wire.Compare, slices.Clone, wire.merge, wire.Sort (cut out of WireS, SortB for seats without package wire's numbers). slices.Compact, wire.Unique, wire.Merge. The graph of commits in memory; walks of dag.New, Has, Len, Stamp, Parents. -/
import Derived.Test.YtloogjdafhjheaaGreatJ1Lib3
import Derived.Test.YtloogjdafhjheaaGreatSortP
import Derived.Test.YtloogjdafhjheaaGreatShelf
import Derived.Test.YtloogjdafhjheaaGreatMapM
import Derived.Test.YtloogjdafhjheaaGreatJ13Met
import Derived.Test.YtloogjdafhjheaaGreatJ2ShaW
namespace Go.Proofs.YtloogjdafhjheaaGreat
open Go.RowKit Go.Mx

theorem compare_any (s t : ByteArray) (w : World) : Calls Tryz.prog 67 #[.string s, .string t] w fun e w' => e = .returned (.int .i64 (cmpL s.toList t.toList)) ∧ w = w' := by
  generalize hx : s.toList = x
  generalize hy : t.toList = y
  by_cases h : Op.bytesLess x y = true
  · have hc : cmpL x y = -1 := by rw [cmpL, if_pos h]
    have HC := hid hc
    clear hc
    go_enter Tryz.func67, Tryz.ntmps67
    go_wp2_with fail
    go_ret
    exact ⟨by rw [HC.out]; rfl, rfl⟩
  · have h : Op.bytesLess x y = false := by simpa using h
    by_cases he : x = y
    · have hc : cmpL x y = 0 := by rw [cmpL, h, if_pos he]; rfl
      have hb : (x == y) = true := by simpa using he
      have HC := hid hc
      clear hc he
      go_enter Tryz.func67, Tryz.ntmps67
      go_wp2_with fail
      go_ret
      exact ⟨by rw [HC.out]; rfl, rfl⟩
    · have hc : cmpL x y = 1 := by rw [cmpL, h, if_neg he]; rfl
      have hb : (x == y) = false := by simpa using he
      have HC := hid hc
      clear hc he
      go_enter Tryz.func67, Tryz.ntmps67
      go_wp2_with fail
      go_ret
      exact ⟨by rw [HC.out]; rfl, rfl⟩


theorem sclone_any (v : Value) (l : List ByteArray) (w : World) (hv : Sl w 1 v l.length (ss l)) (hl : l.length ≤ 8796093022208) :
    Calls Tryz.prog 37 #[v] w fun e w' => ∃ v', e = .returned v' ∧ St w w' [⟨v', 9, 1, l.length, ss l⟩] [] := by
  have q := fun (w : World) (a : Option Addr) (n c n' c' : Nat) => Lib.run_eql_slice_nil (P := Tryz.prog) w 23 _ a n c n' c' Tryz.underlying23
  have hv0 := hv
  obtain ⟨ao, cap, blk, off, rfl, h1, h2, _, hc⟩ := hv.txt
  cases ao with
  | none =>
    have hnil : l = [] := by
      cases l with
      | nil => rfl
      | cons x l => exact absurd (hc 0 (by simp)).1 (by simp)
    subst hnil
    clear hc hv0
    go_enter Tryz.func37, Tryz.ntmps37
    go_wp2_with fail
    go_ret
    exact ⟨_, rfl, St.nil _ _ _⟩
  | some a =>
    have hs := (St.refl w).made #[] 9 1 0 rfl (by simp)
    clear hc
    have HV := hid hv0
    clear hv0
    go_enter Tryz.func37, Tryz.ntmps37
    go_wp2_with (at_builtin; refine wpl_app rfl _ _ 23 rfl Tryz.elStr hs rfl (by exact hs.old HV.out) (ss_one _) (by omega) ?_; intro v1 w1 hs1 _)
    go_ret
    exact ⟨_, rfl, hs1.cast (by simp) (by simp)⟩

theorem ss_rest {w : World} {v : Value} {x : ByteArray} {l : List ByteArray} (h : Sl w 1 v ((x :: l).length - 1) (((ss (x :: l)).take ((x :: l).length * 1)).drop (1 * 1))) : Sl w 1 v l.length (ss l) := by
  rw [ss_cut, List.take_of_length_le (Nat.le_refl _)] at h
  exact h

set_option maxHeartbeats 1000000 in
theorem merge_any (va vb : Value) (A B : List ByteArray) (w : World) (ha : Sl w 1 va A.length (ss A)) (hb : Sl w 1 vb B.length (ss B)) (hl : A.length + B.length ≤ 8796093022208) (sa : Sorted A) (sb : Sorted B) :
    Calls Tryz.prog 47 #[va, vb] w fun e w' => ∃ v', e = .returned v' ∧ St w w' [⟨v', 9, 1, (A ++ B).length, ss (sortL (A ++ B))⟩] [] := by
  have HI := hid (MInv.start sa sb)
  clear sa sb
  have e2 : wrap64 ((A.length : Int) + (B.length : Int)) = (A.length : Int) + (B.length : Int) := IntWalk.wrap64_in _ (by omega)
  go_enter Tryz.func47, Tryz.ntmps47
  go_wp2_with (first | ((with_reducible show wpList _ _ _ _ _ _); refine wpl_len rfl 23 9 _ rfl Tryz.underlying23 (by exact ha) ?_) | ((with_reducible show wpList _ _ _ _ _ _); refine wpl_len rfl 23 9 _ rfl Tryz.underlying23 (by exact hb) ?_) | ((with_reducible show wpList _ _ _ _ _ _); refine wpl_make0 (k := .i64) (k' := .i64) rfl 23 _ _ rfl Tryz.elStr (St.refl w) (A.length + B.length) rfl (by show Value.int IntKind.i64 ((A.length : Int) + (B.length : Int)) = _; rw [Int.natCast_add]) (by omega) ?_; intro vo w1 hs0 _))

  go_loopw [0, 1, 5] (fun x y z wr => ∃ la lb acc : List ByteArray, Sl w 1 x la.length (ss la) ∧ Sl w 1 y lb.length (ss lb) ∧ St w wr [⟨z, 9, 1, acc.length, ss acc⟩] [] ∧ Hid (MInv acc la lb A B)) (fun x y _ _ => lenV x + lenV y)
  case atStart => exact ⟨A, B, [], ha, hb, hs0, HI⟩
  case round =>
    obtain ⟨la, lb, acc, ha, hb, hs, HI⟩ := hrel
    have hlen := HI.out.len
    have HN := hid hlen
    clear hlen
    have HA := hid ha
    have HB := hid hb
    obtain ⟨aa, ca, ba, fa, rfl, ha1, ha2, _, hac⟩ := ha.txt
    obtain ⟨ab, cb, bb, fb, rfl, hb1, hb2, _, hbc⟩ := hb.txt
    clear ha hb
    have CA := hid hac
    have CB := hid hbc
    clear hac hbc
    match la, lb with
    | [], lb =>
      clear CA CB
      have h0 : ([] : List ByteArray).length = 0 := rfl
      have hm : acc.length + lb.length ≤ 8796093022208 := by have := HN.out; simp at this; omega
      go_wp2_with (first | (at_builtin; refine wpl_app rfl _ _ 23 rfl Tryz.elStr hs rfl (by exact hs.old HA.out) (ss_one _) (by omega) ?_; intro v1 w1 hs1 _) | (at_builtin; refine wpl_app rfl _ _ 23 rfl Tryz.elStr hs1 rfl (by exact hs1.old HB.out) (ss_one _) (by omega) ?_; intro v2 w2 hs2 _))
      go_ret
      exact ⟨_, rfl, hs2.cast (by have := HN.out; simp at this ⊢; omega) (by rw [← HI.out.done (by simp), ss_app, ss_app])⟩
    | x :: la, [] =>
      clear CA CB
      have h0 : ([] : List ByteArray).length = 0 := rfl
      have h1 : (x :: la).length = la.length + 1 := rfl
      have hm : acc.length + (la.length + 1) ≤ 8796093022208 := by have := HN.out; simp at this; omega
      have hp : decide (0 < (la.length : Int) + 1) = true := decide_eq_true (by omega)
      go_wp2_with (first | (at_builtin; refine wpl_app rfl _ _ 23 rfl Tryz.elStr hs rfl (by exact hs.old HA.out) (ss_one _) (by omega) ?_; intro v1 w1 hs1 _) | (at_builtin; refine wpl_app rfl _ _ 23 rfl Tryz.elStr hs1 rfl (by exact hs1.old HB.out) (ss_one _) (by omega) ?_; intro v2 w2 hs2 _))
      go_ret
      exact ⟨_, rfl, hs2.cast (by have := HN.out; simp at this ⊢; omega) (by rw [← HI.out.done (by simp), ss_app, ss_app])⟩
    | x :: la, y :: lb =>
      have hm : acc.length + (la.length + 1) ≤ 8796093022208 := by have := HN.out; simp at this; omega
      have hm' : acc.length + (lb.length + 1) ≤ 8796093022208 := by have := HN.out; simp at this; omega
      have hp : decide (0 < (la.length : Int) + 1) = true := decide_eq_true (by omega)
      have hq : decide (0 < (lb.length : Int) + 1) = true := decide_eq_true (by omega)
      obtain ⟨rfl, c1⟩ := CA.out 0 (by simp)
      obtain ⟨rfl, c2⟩ := CB.out 0 (by simp)
      have c1 := hs.keep c1
      have c2 := hs.keep c2
      simp only [List.getElem_cons_zero, Nat.add_zero] at c1 c2
      by_cases hx : lt y x = true
      · have hb := (cmpL_lt0 y x).trans hx
        have Hx := hid hx
        clear hx
        go_wp2_with fail
        go_quiet ((go_at_call 67; exact Calls.quiet_of_same ((compare_any _ _ _).mono fun _ _ h => ⟨h.1, h.2.symm⟩)))
        go_wp2_with (first | (at_builtin; refine wpl_app rfl _ _ 23 rfl Tryz.elStr ((hs.drewN _).alloc _) rfl (by exact Sl.one _ _ _) (by intro u hu; simp at hu; subst hu; rfl) (by omega) ?_; intro v1 w1 hs1 _) | ((with_reducible show wpList _ _ _ _ _ _); refine wpl_cut rfl 23 _ _ _ rfl Tryz.elStr (by exact HB.out) 1 (y :: lb).length (.inr ⟨_, rfl⟩) (.inl ⟨rfl, rfl⟩) (by simp) (by simp) ?_; intro v2 hv2))
        go_roundw
        case rel => exact ⟨lb, x :: la, acc ++ [y], ss_rest (hv2 _ HB.out), HA.out, hs1.cast (by simp) (by simp [ss]), HI.out.swap.step (lt_asymm Hx.out)⟩
        case measure =>
          have := (hv2 _ HB.out).lenV
          simp [lenV] at this ⊢
          omega
      · have hx : lt y x = false := by simpa using hx
        have hb := (cmpL_lt0 y x).trans hx
        have Hx := hid hx
        clear hx
        go_wp2_with fail
        go_quiet ((go_at_call 67; exact Calls.quiet_of_same ((compare_any _ _ _).mono fun _ _ h => ⟨h.1, h.2.symm⟩)))
        go_wp2_with (first | (at_builtin; refine wpl_app rfl _ _ 23 rfl Tryz.elStr ((hs.drewN _).alloc _) rfl (by exact Sl.one _ _ _) (by intro u hu; simp at hu; subst hu; rfl) (by omega) ?_; intro v1 w1 hs1 _) | ((with_reducible show wpList _ _ _ _ _ _); refine wpl_cut rfl 23 _ _ _ rfl Tryz.elStr (by exact HA.out) 1 (x :: la).length (.inr ⟨_, rfl⟩) (.inl ⟨rfl, rfl⟩) (by simp) (by simp) ?_; intro v2 hv2))
        go_roundw
        case rel => exact ⟨la, y :: lb, acc ++ [x], ss_rest (hv2 _ HA.out), HB.out, hs1.cast (by simp) (by simp [ss]), HI.out.step Hx.out⟩
        case measure =>
          have := (hv2 _ HA.out).lenV
          simp [lenV] at this ⊢
          omega

set_option maxHeartbeats 1000000 in
theorem sort_any : ∀ (k : Nat) (v : Value) (l : List ByteArray) (w : World), l.length ≤ k → Sl w 1 v l.length (ss l) → l.length ≤ 8796093022208 →
    Calls Tryz.prog 25 #[v] w fun e w' => ∃ v', e = .returned v' ∧ St w w' [⟨v', 9, 1, l.length, ss (sortL l)⟩] [] := by
  intro k
  induction k with
  | zero =>
    intro v l w hk hv hl
    obtain rfl : l = [] := List.eq_nil_of_length_eq_zero (by omega)
    have hc := sclone_any v [] w hv hl
    have HC := hid hc
    have HV := hid hv
    clear hc hv
    go_enter Tryz.func25, Tryz.ntmps25
    go_wp2_with (first | ((with_reducible show wpList _ _ _ _ _ _); refine wpl_len rfl 23 9 _ rfl Tryz.underlying23 (by exact HV.out) ?_) | (go_at_call 37; refine HC.out.mono ?_; rintro e w1 ⟨v1, rfl, hs1⟩))
    go_ret
    exact ⟨_, rfl, by rw [sortL_small (by simp)]; exact hs1⟩
  | succ k ih =>
    intro v l w hk hv hl
    by_cases h2 : l.length < 2
    · have hd : decide ((l.length : Int) < 2) = true := decide_eq_true (by omega)
      have hc := sclone_any v l w hv hl
      have HC := hid hc
      have HV := hid hv
      clear hc hv ih
      go_enter Tryz.func25, Tryz.ntmps25
      go_wp2_with (first | ((with_reducible show wpList _ _ _ _ _ _); refine wpl_len rfl 23 9 _ rfl Tryz.underlying23 (by exact HV.out) ?_) | (go_at_call 37; refine HC.out.mono ?_; rintro e w1 ⟨v1, rfl, hs1⟩))
      go_ret
      exact ⟨_, rfl, by rw [sortL_small h2]; exact hs1⟩
    · have hd : decide ((l.length : Int) < 2) = false := decide_eq_false (by omega)
      have HV := hid hv
      have IH := hid ih
      clear hv ih
      go_enter Tryz.func25, Tryz.ntmps25
      go_wp2_with (first | ((with_reducible show wpList _ _ _ _ _ _); refine wpl_len rfl 23 9 _ rfl Tryz.underlying23 (by exact HV.out) ?_))
      obtain ⟨v1, r1, c1⟩ := HV.out.cutRun Tryz.elStr none (some (.int .i64 ((l.length : Int) / 2))) 0 (l.length / 2) (.inl ⟨rfl, rfl⟩) (.inr ⟨.i64, by rw [Int.natCast_ediv]; rfl⟩) (by omega) (by omega)
      obtain ⟨v2, r2, c2⟩ := HV.out.cutRun Tryz.elStr (some (.int .i64 ((l.length : Int) / 2))) none (l.length / 2) l.length (.inr ⟨.i64, by rw [Int.natCast_ediv]; rfl⟩) (.inl ⟨rfl, rfl⟩) (by omega) (by omega)
      have C1 : Hid (∀ w', Sl w' 1 v l.length (ss l) → Sl w' 1 v1 (l.take (l.length / 2)).length (ss (l.take (l.length / 2)))) := fun w' h => by
        have := c1 w' h
        rw [ss_cut] at this
        simpa [Nat.min_eq_left (show l.length / 2 ≤ l.length by omega)] using this
      have C2 : Hid (∀ w', Sl w' 1 v l.length (ss l) → Sl w' 1 v2 (l.drop (l.length / 2)).length (ss (l.drop (l.length / 2)))) := fun w' h => by
        have := c2 w' h
        rw [ss_cut] at this
        simpa using this
      clear c1 c2
      go_region_held3 (fun _ => True) (trivial) (first
        | (go_at_call_of 25 v1; refine (IH.out v1 (l.take (l.length / 2)) _ (by simp; omega) (C1.out _ (by first | exact HV.out | exact (St.refl w).drew.old HV.out)) (by simp; omega)).mono ?_; rintro e w1 ⟨x1, rfl, hs1⟩; replace hs1 := (St.refl w).drew.call1 hs1)
        | (go_at_call_of 25 v2; refine (IH.out v2 (l.drop (l.length / 2)) _ (by simp; omega) (C2.out _ (hs1.old HV.out)) (by simp; omega)).mono ?_; rintro e w2 ⟨x2, rfl, hs2⟩; replace hs2 := hs1.call1 hs2)
        | (go_at_call 47; refine (merge_any x1 x2 (sortL (l.take (l.length / 2))) (sortL (l.drop (l.length / 2))) _ (by rw [sortL_len]; exact hs2.swap.sl0) (by rw [sortL_len]; exact hs2.sl0) (by rw [sortL_len, sortL_len]; simp; omega) (sortL_sorted _) (sortL_sorted _)).mono ?_; rintro e w3 ⟨x3, rfl, hs3⟩; replace hs3 := hs2.call1 hs3))
      go_wp2_with fail
      go_ret
      have e1 : (sortL (l.take (l.length / 2)) ++ sortL (l.drop (l.length / 2))).length = l.length := by
        rw [List.length_append, sortL_len, sortL_len, ← List.length_append, List.take_append_drop]
      refine ⟨_, rfl, hs3.head.cast e1 ?_⟩
      rw [sortL_app, List.take_append_drop]
end Go.Proofs.YtloogjdafhjheaaGreat

namespace Go.Mx
open Go Go.RowKit

theorem St.unfrozen {w0 w : World} {R : List Row} {Q : List Rd} {g n cap : Nat} {e : TypeId} {size : Nat} {xs : List Value} (h : St w0 w (⟨.slice (some ⟨g, 0, none⟩) n cap, e, size, n, xs⟩ :: R) Q) (j : Nat) (hj : j < xs.length) : w.frozen? ⟨g, j, none⟩ = false := by
  have ho := h.own _ (List.mem_cons_self ..)
  rcases ho.2 with ⟨h2, _⟩ | ⟨g', cap', cur, fr, hv, hb, hg, hfr, hn, hm, hs, htake⟩
  · cases h2
  · obtain ⟨rfl, rfl⟩ : g = g' ∧ cap = cap' := by simp at hv; exact hv
    have hlen := ho.1
    simp only [] at hlen hs hg hn
    have hxl : xs.length ≤ cur.size := by rw [hlen, hs]; exact Nat.mul_le_mul_right _ hn
    have := hfr j (by omega)
    simp only [World.frozen?, hg]
    simpa using this

/-- Cells laid from the row's head on. -/
theorem St.laid {P : Program} {w0 w : World} {R : List Row} {Q : List Rd} {g n cap : Nat} {e : TypeId} {size : Nat} {xs : List Value} (h : St w0 w (⟨.slice (some ⟨g, 0, none⟩) n cap, e, size, n, xs⟩ :: R) Q) (cs : List Value) (hj : cs.length = xs.length) (h1 : ∀ u ∈ cs, u.oneCell' = true) :
    St w0 (w.setCells g 0 cs) (⟨.slice (some ⟨g, 0, none⟩) n cap, e, size, n, cs⟩ :: R) Q := by
  obtain ⟨w', hr, hs⟩ := h.store (P := P) 0 cs (by omega) h1
  have h2 := run_storeCells_cells (P := P) g 0 cs 0 w (fun j hjl => by
      obtain ⟨u, hu⟩ : ∃ u, xs[j]? = some u := ⟨xs[j]'(by omega), List.getElem?_eq_getElem (by omega)⟩
      have := h.cell hu
      simp [this]) (fun j hjl => by have := h.unfrozen j (by omega); simpa using this) h1
  rw [hr] at h2
  have e : w' = w.setCells g 0 cs := by injection h2
  rw [← e]
  have hx : xs.take 0 ++ cs ++ xs.drop (0 + cs.length) = cs := by rw [List.take_zero, List.nil_append, Nat.zero_add, hj, List.drop_length, List.append_nil]
  rw [hx] at hs
  exact hs

/-- The row cut short. -/
theorem St.short {w0 w : World} {R : List Row} {Q : List Rd} {g n cap : Nat} {e : TypeId} {size : Nat} {xs : List Value} (h : St w0 w (⟨.slice (some ⟨g, 0, none⟩) n cap, e, size, n, xs⟩ :: R) Q) (m : Nat) (hm : m ≤ n) :
    St w0 w (⟨.slice (some ⟨g, 0, none⟩) m cap, e, size, m, xs.take (m * size)⟩ :: R) Q := by
  have ho := h.own _ (List.mem_cons_self ..)
  refine h.turn (r' := ⟨.slice (some ⟨g, 0, none⟩) m cap, e, size, m, xs.take (m * size)⟩) ?_ ⟨rfl, rfl, rfl, Nat.le_refl _, fun _ _ _ => rfl⟩ fun b hb => .inl hb
  rcases ho.2 with ⟨h2, _⟩ | ⟨g', cap', cur, fr, hv, hb, hg, hfr, hn, hc, hs, htake⟩
  · cases h2
  · obtain ⟨rfl, rfl⟩ : g = g' ∧ cap = cap' := by simp at hv; exact hv
    have hlen := ho.1
    simp only [] at hlen hs hg hn htake
    have hle : m * size ≤ n * size := Nat.mul_le_mul_right _ hm
    refine ⟨by simp only []; rw [List.length_take, hlen, Nat.min_eq_left hle], .inr ⟨g, cap, cur, fr, rfl, hb, hg, hfr, by simp only []; omega, hc, hs, ?_⟩⟩
    simp only []
    rw [← htake, List.take_take, Nat.min_eq_left hle]

/-- What slices.Compact makes of a list. -/
def compL (l : List ByteArray) : List ByteArray := (Lib.compact (l.map fun s : ByteArray => s.data.toList)).map str
theorem compL_sort (l : List ByteArray) : compL (sortL l) = uniqL l := rfl
theorem compL_len (l : List ByteArray) : (compL l).length ≤ l.length := by
  unfold compL
  rw [List.length_map]
  have := Lib.compact_length_le (l.map fun s : ByteArray => s.data.toList)
  simpa using this
theorem uniqL_len (l : List ByteArray) : (uniqL l).length ≤ l.length := by have := compL_len (sortL l); rwa [compL_sort, sortL_len] at this
theorem strsOf_eq (l : List ByteArray) : Lib.strsOf (fun i => l.getD i ByteArray.empty) l.length = l.map fun s : ByteArray => s.data.toList := by
  apply List.ext_getElem
  · simp [Lib.strsOf]
  · intro i h1 h2
    have : i < l.length := by simpa using h2
    simp [Lib.strsOf, this]
end Go.Mx
namespace Go.Proofs.YtloogjdafhjheaaGreat
open Go.RowKit Go.Mx

theorem compact_any {w0 : World} {v : Value} {l : List ByteArray} {w : World} {R : List Row} {Q : List Rd} (hs : St w0 w (⟨v, 9, 1, l.length, ss l⟩ :: R) Q) :
    Calls Tryz.prog 70 #[v] w fun e w' => ∃ v', e = .returned v' ∧ St w0 w' (⟨v', 9, 1, (compL l).length, ss (compL l)⟩ :: R) Q := by
  by_cases hn : l.length = 0
  · obtain rfl := List.eq_nil_of_length_eq_zero hn
    obtain ⟨ao, cap, blk, off, rfl, h1, h2, _, hc⟩ := hs.sl0.txt
    refine (Tryz.slices_Compact_string_empty ao cap w).mono ?_
    rintro e w' ⟨rfl, rfl⟩
    exact ⟨_, rfl, hs⟩
  · obtain ⟨g, cap, rfl, hb, _, h1, h2⟩ := hs.form0 hn
    refine (Tryz.slices_Compact_string_cells g 0 l.length cap (fun i => l.getD i ByteArray.empty) w (by omega) h1 (fun i hi => ?_) (fun j hj => ?_)).mono ?_
    · have := hs.cell (ss_get hi)
      rw [Nat.zero_add, this]
      simp [hi]
    · rw [Nat.zero_add]
      exact hs.unfrozen j (by rw [ss_len]; exact hj)
    · rintro e w' ⟨rfl, q, rfl⟩
      refine ⟨_, rfl, ?_⟩
      rw [strsOf_eq]
      have hle := compL_len l
      have e1 : (compL l).length = (Lib.compact (l.map fun s : ByteArray => s.data.toList)).length := by simp [compL]
      have hl := (hs.drewN q).laid (P := Tryz.prog) ((Lib.compact (l.map fun s : ByteArray => s.data.toList) ++ List.replicate (l.length - (Lib.compact (l.map fun s : ByteArray => s.data.toList)).length) []).map Go.Proofs.encStr) (by rw [ss_len]; simp; omega) (by
        intro u hu
        obtain ⟨_, _, rfl⟩ := List.mem_map.1 hu
        rfl)
      have h3 := hl.short (compL l).length hle
      rw [e1] at h3
      refine h3.cast e1.symm ?_
      rw [Nat.mul_one, List.map_append, List.take_append_of_le_length (by simp), List.take_of_length_le (by simp)]
      simp [ss, compL]
      intro a _
      rfl

theorem unique_any (v : Value) (l : List ByteArray) (w : World) (hv : Sl w 1 v l.length (ss l)) (hl : l.length ≤ 8796093022208) :
    Calls Tryz.prog 49 #[v] w fun e w' => ∃ v', e = .returned v' ∧ St w w' [⟨v', 9, 1, (uniqL l).length, ss (uniqL l)⟩] [] := by
  have HS := hid (sort_any l.length v l w (Nat.le_refl _) hv hl)
  clear hv
  have hn := sortL_len l
  go_enter Tryz.func49, Tryz.ntmps49
  go_wp2_with (first
    | (go_at_call 25; refine HS.out.mono ?_; rintro e w1 ⟨v1, rfl, hs1⟩; replace hs1 := hs1.cast hn.symm rfl)
    | (go_at_call 70; refine (compact_any hs1).mono ?_; rintro e w2 ⟨v2, rfl, hs2⟩))
  go_ret
  exact ⟨_, rfl, hs2⟩
end Go.Proofs.YtloogjdafhjheaaGreat

namespace Go.Mx
open Go Go.RowKit

/-- A commit in memory: where its parents lie. -/
abbrev Gd := Value × Nd
def ndV (q : Gd) : Value := .agg #[q.1, .int .i64 q.2.2.2]
def gent (q : Gd) : Ent := (q.2.1, ndV q)
def gfnd : List Gd → ByteArray → Option Gd
  | [], _ => none
  | q :: G, k => if q.2.1 = k then some q else gfnd G k
theorem mget_g (G : List Gd) (k : ByteArray) : mget (G.map gent) k = (gfnd G k).map ndV := by
  induction G with
  | nil => rfl
  | cons q G ih =>
    rw [List.map_cons, mget, gfnd]
    show (if q.2.1 = k then some (ndV q) else mget (G.map gent) k) = _
    split
    · rfl
    · exact ih
theorem gfnd_fnd (G : List Gd) (k : ByteArray) : fnd (G.map (·.2)) k = (gfnd G k).map fun q => q.2.2 := by
  induction G with
  | nil => rfl
  | cons q G ih =>
    rw [List.map_cons, fnd, gfnd]
    split
    · rfl
    · exact ih
theorem gfnd_mem {G : List Gd} {k : ByteArray} {q : Gd} (h : gfnd G k = some q) : q ∈ G ∧ q.2.1 = k := by
  induction G with
  | nil => cases h
  | cons p G ih =>
    rw [gfnd] at h
    split at h
    · rename_i hk; cases h; exact ⟨List.mem_cons_self .., hk⟩
    · exact ⟨List.mem_cons_of_mem _ (ih h).1, (ih h).2⟩
def ndZ : Value := .agg #[.slice none 0 0, .int .i64 0]

/-- At address g stands a graph: its map is block B, its commits are G. -/
structure GR (w : World) (g B : Nat) (G : List Gd) : Prop where
  cell : w.cell? ⟨g, 0, none⟩ = some (.map (some B))
  mp : Mp w B (G.map gent)
  sl : ∀ q ∈ G, Sl w 1 q.1 q.2.2.1.length (ss q.2.2.1)
  few : ∀ q ∈ G, q.2.2.1.length ≤ 1000000
  len : G.length ≤ 2000
theorem GR.grow {w w' : World} {g B : Nat} {G : List Gd} (h : GR w g B G) (hb : Below w.heap.size w w') : GR w' g B G where
  cell := (hb.cell (World.block_lt_of_cell? w _ h.cell)).trans h.cell
  mp := h.mp.grow hb
  sl q hq := (h.sl q hq).below hb
  few := h.few
  len := h.len
theorem GR.st {w0 w : World} {R : List Row} {Q : List Rd} {g B : Nat} {G : List Gd} (h : GR w0 g B G) (hs : St w0 w R Q) : GR w g B G := h.grow hs.below
/-- What one commit reads as. -/
theorem GR.get {w : World} {g B : Nat} {G : List Gd} (h : GR w g B G) {k : ByteArray} {n : List ByteArray × Int} (hn : fnd (G.map (·.2)) k = some n) : ∃ pv, mget (G.map gent) k = some (.agg #[pv, .int .i64 n.2]) ∧ Sl w 1 pv n.1.length (ss n.1) ∧ n.1.length ≤ 1000000 := by
  rw [gfnd_fnd] at hn
  obtain ⟨q, hq, rfl⟩ := Option.map_eq_some_iff.1 hn
  exact ⟨q.1, by rw [mget_g, hq]; rfl, h.sl q (gfnd_mem hq).1, h.few q (gfnd_mem hq).1⟩
theorem GR.none {G : List Gd} {k : ByteArray} (hn : fnd (G.map (·.2)) k = none) : mget (G.map gent) k = none := by
  rw [gfnd_fnd] at hn
  rw [mget_g]
  cases hg : gfnd G k with
  | none => rfl
  | some q => rw [hg] at hn; cases hn
def stampL (L : List Nd) (k : ByteArray) : Int := match fnd L k with | some n => n.2 | none => -1
def parsG (L : List Nd) (k : ByteArray) : List ByteArray := match fnd L k with | some n => n.1 | none => []
end Go.Mx
namespace Go.Proofs.YtloogjdafhjheaaGreat
open Go.RowKit Go.Mx

theorem Tryz.zeroNd : ∀ w : World, (zeroValue 83).run Tryz.prog w = .ok ndZ w := fun _ => by kernel_rfl
theorem Tryz.zeroInt : ∀ w : World, (zeroValue 3).run Tryz.prog w = .ok (.int .i64 0) w := fun _ => by kernel_rfl

theorem Tryz.aNd : Ag Tryz.prog 83 2 := ⟨⟨_, Tryz.underlying83, rfl⟩, by kernel_rfl⟩

theorem Tryz.fldP (x : Value) (y : Int) (w : World) : (Instr.field 83 (.agg #[x, .int .i64 y]) 0).run Tryz.prog w = .ok x w := by kernel_rfl
theorem Tryz.fldS (x : Value) (y : Int) (w : World) : (Instr.field 83 (.agg #[x, .int .i64 y]) 1).run Tryz.prog w = .ok (.int .i64 y) w := by kernel_rfl

theorem has_g (g B : Nat) (G : List Gd) (k : ByteArray) (w : World) (h : GR w g B G) :
    Calls Tryz.prog 12 #[.pointer (some ⟨g, 0, none⟩), .string k] w fun e w' => e = .returned (.bool (isIn (G.map (·.2)) k)) ∧ St w w' [] [] := by
  have c0 := h.cell
  have HM := Mx.hid h.mp
  cases hn : fnd (G.map (·.2)) k with
  | none =>
    have HI := Mx.hid (show isIn (G.map (·.2)) k = false by unfold isIn; rw [hn]; rfl)
    have HG := Mx.hid (GR.none hn)
    clear hn h
    go_enter Tryz.func12, Tryz.ntmps12
    go_wp2_with (first | ((with_reducible show wpList _ _ _ _ _ _); refine wpl_look rfl 79 _ _ true rfl Tryz.underlying79 Tryz.underlying9 Tryz.zeroNd (by exact HM.out) rfl k rfl ?_; rw [HG.out]) | ((with_reducible show wpList _ _ _ _ _ _); refine wpl_storeA rfl 83 _ _ rfl Tryz.aNd ((St.refl w).made #[.slice none 0 0, .int .i64 0] 83 2 1 (by rfl) (by simp [maxLen])) (0) rfl ([.slice none 0 0, .int .i64 0]) rfl (by rfl) (by simp) (by intro u hu; simp at hu; rcases hu with rfl | rfl <;> rfl) ?_; intro w2 hs2))
    go_ret
    exact ⟨by rw [HI.out]; rfl, hs2.bare⟩
  | some n =>
    have HI := Mx.hid (show isIn (G.map (·.2)) k = true by unfold isIn; rw [hn]; rfl)
    obtain ⟨pv, hg, hsl, _⟩ := h.get hn
    obtain ⟨pa, pc, rfl, _⟩ := hsl.form
    have HG := Mx.hid hg
    clear hn h hg hsl
    go_enter Tryz.func12, Tryz.ntmps12
    go_wp2_with (first | ((with_reducible show wpList _ _ _ _ _ _); refine wpl_look rfl 79 _ _ true rfl Tryz.underlying79 Tryz.underlying9 Tryz.zeroNd (by exact HM.out) rfl k rfl ?_; rw [HG.out]) | ((with_reducible show wpList _ _ _ _ _ _); refine wpl_storeA rfl 83 _ _ rfl Tryz.aNd ((St.refl w).made #[.slice none 0 0, .int .i64 0] 83 2 1 (by rfl) (by simp [maxLen])) (0) rfl ([.slice pa n.1.length pc, .int .i64 n.2]) rfl (by rfl) (by simp) (by intro u hu; simp at hu; rcases hu with rfl | rfl <;> rfl) ?_; intro w2 hs2))
    go_ret
    exact ⟨by rw [HI.out]; rfl, hs2.bare⟩

theorem len_g (g B : Nat) (G : List Gd) (w : World) (h : GR w g B G) :
    Calls Tryz.prog 11 #[.pointer (some ⟨g, 0, none⟩)] w fun e w' => e = .returned (.int .i64 (G.length : Int)) ∧ w = w' := by
  have c0 := h.cell
  have HM := Mx.hid h.mp
  have HL := Mx.hid (show (G.map gent).length = G.length from List.length_map ..)
  clear h
  go_enter Tryz.func11, Tryz.ntmps11
  go_wp2_with ((with_reducible show wpList _ _ _ _ _ _); refine wpl_mlen rfl 79 _ rfl Tryz.underlying79 HM.out rfl ?_; rw [HL.out])
  go_ret
  exact ⟨rfl, rfl⟩

theorem stamp_g (g B : Nat) (G : List Gd) (k : ByteArray) (w : World) (h : GR w g B G) :
    Calls Tryz.prog 13 #[.pointer (some ⟨g, 0, none⟩), .string k] w fun e w' => e = .returned (.int .i64 (stampL (G.map (·.2)) k)) ∧ St w w' [] [] := by
  have HH := Mx.hid (has_g g B G k w h)
  have HR := Mx.hid (fun w' (hs : St w w' [] []) => h.st hs)
  cases hn : fnd (G.map (·.2)) k with
  | none =>
    have HI := Mx.hid (show stampL (G.map (·.2)) k = -1 by unfold stampL; rw [hn])
    have hi : isIn (G.map (·.2)) k = false := by unfold isIn; rw [hn]; rfl
    rw [hi] at HH
    clear hn h hi
    have kf := Tryz.fldS
    go_enter Tryz.func13, Tryz.ntmps13
    go_wp2_with fail
    refine HH.out.mono ?_
    rintro e w1 ⟨rfl, hs⟩
    go_wp2_with fail
    go_ret
    exact ⟨by rw [HI.out]; rfl, hs⟩
  | some n =>
    have HI := Mx.hid (show stampL (G.map (·.2)) k = n.2 by unfold stampL; rw [hn])
    have hi : isIn (G.map (·.2)) k = true := by unfold isIn; rw [hn]; rfl
    obtain ⟨pv, hg, hsl, _⟩ := h.get hn
    obtain ⟨pa, pc, rfl, _⟩ := hsl.form
    have HG := Mx.hid hg
    rw [hi] at HH
    clear hn h hi hsl hg
    have kf := Tryz.fldS
    go_enter Tryz.func13, Tryz.ntmps13
    go_wp2_with fail
    refine HH.out.mono ?_
    rintro e w1 ⟨rfl, hs⟩
    have hr := HR.out _ hs
    have c0 := hr.cell
    have HM := Mx.hid hr.mp
    clear hr
    go_wp2_with ((with_reducible show wpList _ _ _ _ _ _); refine wpl_look rfl 79 _ _ false rfl Tryz.underlying79 Tryz.underlying9 Tryz.zeroNd (by exact HM.out) rfl k rfl ?_; rw [HG.out])
    go_ret
    exact ⟨by rw [HI.out]; rfl, hs⟩

theorem parents_g (g B : Nat) (G : List Gd) (k : ByteArray) (w : World) (h : GR w g B G) :
    Calls Tryz.prog 16 #[.pointer (some ⟨g, 0, none⟩), .string k] w fun e w' => ∃ v, e = .returned v ∧ St w w' [⟨v, 9, 1, (parsG (G.map (·.2)) k).length, ss (parsG (G.map (·.2)) k)⟩] [] := by
  have c0 := h.cell
  have HM := Mx.hid h.mp
  cases hn : fnd (G.map (·.2)) k with
  | none =>
    have HI := Mx.hid (show parsG (G.map (·.2)) k = [] by unfold parsG; rw [hn])
    have HG := Mx.hid (GR.none hn)
    have HC := Mx.hid (sclone_any (.slice none 0 0) [] w (Sl.nil _ _) (by simp))
    clear hn h
    have kf := Tryz.fldP
    have kz : ndZ = .agg #[.slice none 0 0, .int .i64 0] := rfl
    go_enter Tryz.func16, Tryz.ntmps16
    go_wp2_with (first | ((with_reducible show wpList _ _ _ _ _ _); refine wpl_look rfl 79 _ _ false rfl Tryz.underlying79 Tryz.underlying9 Tryz.zeroNd (by exact HM.out) rfl k rfl ?_; rw [HG.out]))
    refine HC.out.mono ?_
    rintro e w1 ⟨v1, rfl, hs⟩
    go_wp2_with fail
    go_ret
    exact ⟨_, rfl, by rw [HI.out]; exact hs⟩
  | some n =>
    have HI := Mx.hid (show parsG (G.map (·.2)) k = n.1 by unfold parsG; rw [hn])
    obtain ⟨pv, hg, hsl, hl⟩ := h.get hn
    have HC := Mx.hid (sclone_any pv n.1 w hsl (by omega))
    obtain ⟨pa, pc, rfl, _⟩ := hsl.form
    have HG := Mx.hid hg
    clear hn h hg hsl hl
    have kf := Tryz.fldP
    have kz : ndZ = .agg #[.slice none 0 0, .int .i64 0] := rfl
    go_enter Tryz.func16, Tryz.ntmps16
    go_wp2_with (first | ((with_reducible show wpList _ _ _ _ _ _); refine wpl_look rfl 79 _ _ false rfl Tryz.underlying79 Tryz.underlying9 Tryz.zeroNd (by exact HM.out) rfl k rfl ?_; rw [HG.out]))
    refine HC.out.mono ?_
    rintro e w1 ⟨v1, rfl, hs⟩
    go_wp2_with fail
    go_ret
    exact ⟨_, rfl, by rw [HI.out]; exact hs⟩

def NewPost (w : World) (e : Ending) (w' : World) : Prop := ∃ g B, e = .returned (.pointer (some ⟨g, 0, none⟩)) ∧ w.heap.size ≤ B ∧ w.heap.size ≤ g ∧ GR w' g B [] ∧ St w w' [] []
theorem new_g (w : World) :
    Calls Tryz.prog 28 #[] w (NewPost w) := by
  have q := @run_makeMap Tryz.prog
  have HM := Mx.hid (Mp.made w)
  have HS := Mx.hid (((St.refl w).alloc (.map #[] 0)).madeAt #[.map (some w.heap.size)] 81 1 1 (w.heap.size + 1) (by rfl) (by simp [maxLen]) (heap_size_alloc _ _).symm)
  go_enter Tryz.func28, Tryz.ntmps28
  go_wp2_with fail
  go_ret
  exact ⟨w.heap.size + 1, w.heap.size, rfl, Nat.le_refl _, by omega, ⟨HS.out.cell rfl, HM.out.grow ((Below.refl _ _).alloc (Nat.le_refl _) _), by simp, by simp, by simp⟩, HS.out.bare⟩
end Go.Proofs.YtloogjdafhjheaaGreat
