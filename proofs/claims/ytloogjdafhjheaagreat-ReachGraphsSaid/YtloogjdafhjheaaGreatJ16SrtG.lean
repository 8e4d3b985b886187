/- marref.Unique. The stable sort of Go's library: the plain mathematics (no program in sight). Keys are whole numbers. -/
import Derived.Test.YtloogjdafhjheaaGreatJ14SrtB
import Derived.Test.YtloogjdafhjheaaGreatSortP
namespace Go.Mx
open Go Go.RowKit

/-- x[:k] of a row: the row itself, cut short. -/
theorem St.cutTo {P : Program} {t e : TypeId} {size bytes : Nat} (E : El P t e size bytes) {w0 w : World} {R : List Row} {Q : List Rd} {v : Value} {n : Nat} {xs : List Value} (h : St w0 w (⟨v, e, size, n, xs⟩ :: R) Q) (k : Nat) (hk : k ≤ n) :
    ∃ v1, (∀ w', (Instr.sliceAt t v none (some (.int .i64 (k : Int))) none).run P w' = .ok v1 w') ∧ ∀ w R Q, St w0 w (⟨v, e, size, n, xs⟩ :: R) Q → St w0 w (⟨v1, e, size, k, xs.take (k * size)⟩ :: R) Q := by
  have ho := h.own _ (List.mem_cons_self ..)
  rcases ho.2 with ⟨h1, h2⟩ | ⟨g, cap, cur, fr, hv, hb, hg, hfr, hn, hm, hs, htake⟩
  · simp only [] at h1 h2
    subst h1 h2
    obtain rfl : k = 0 := by omega
    refine ⟨.slice none 0 0, fun w' => ?_, fun w R Q h => ?_⟩
    · have := run_slice_sl E (w := w') (ao := none) (n := 0) (cap := 0) (Nat.le_refl _) none (some (.int .i64 ((0 : Nat) : Int))) 0 0 (.inl ⟨rfl, rfl⟩) (.inr ⟨.i64, rfl⟩) (Nat.le_refl _) (Nat.le_refl _)
      simpa using this
    · have hx := (h.own _ (List.mem_cons_self ..)).1
      simp only [Nat.zero_mul] at hx
      obtain rfl := List.eq_nil_of_length_eq_zero hx
      simpa using h
  · simp only [] at hv hn
    subst hv
    refine ⟨.slice (some ⟨g, 0, none⟩) k cap, fun w' => ?_, fun w R Q h => h.short k hk⟩
    have := run_slice_sl E (w := w') (ao := some ⟨g, 0, none⟩) (n := n) (cap := cap) hn none (some (.int .i64 (k : Int))) 0 k (.inl ⟨rfl, rfl⟩) (.inr ⟨.i64, rfl⟩) (Nat.zero_le _) hk
    simpa [Addr.add] using this
end Go.Mx
namespace Go.Proofs.YtloogjdafhjheaaGreat
open Go.RowKit Go.Mx

theorem Sorted.drop_gt {l : List ByteArray} {x : ByteArray} {j : Nat} (hj : j < l.length) (h : ∀ y ∈ l.drop (j + 1), lt x y = true) (hx : lt x l[j] = true) : ∀ y ∈ l.drop j, lt x y = true := by
  intro y hy
  rw [List.drop_eq_getElem_cons hj] at hy
  rcases List.mem_cons.1 hy with rfl | hy
  · exact hx
  · exact h y hy

theorem cells_ins (O : List ByteArray) (x : ByteArray) (i k : Nat) (h : O.length = i) : (ss O).take (k * 1) ++ ([Value.string x] ++ ((ss O).take (i * 1)).drop (k * 1)) = ss (O.take k ++ ([x] ++ O.drop k)) := by
  subst h
  have e : (ss O).take (O.length * 1) = ss O := by rw [Nat.mul_one]; exact List.take_of_length_le (by rw [ss_len]; exact Nat.le_refl _)
  rw [e]
  simp [ss, List.map_take, List.map_drop]
end Go.Proofs.YtloogjdafhjheaaGreat

namespace Go.Mx
open Go Go.RowKit

theorem uniqL_ins (l : List ByteArray) (i : Nat) (hi : i < l.length) (k : Nat) (h1 : ∀ y ∈ (uniqL (l.take i)).take k, lt y l[i] = true) (h2 : ∀ y ∈ (uniqL (l.take i)).drop k, lt l[i] y = true) :
    (uniqL (l.take i)).take k ++ ([l[i]] ++ (uniqL (l.take i)).drop k) = uniqL (l.take (i + 1)) := by
  refine eq_uniqL (ins_strict (uniqL_strict _) k _ h1 h2) fun x => ?_
  rw [(ins_perm _ k _).mem_iff, List.take_succ_eq_append_getElem hi, List.mem_append, List.mem_append, mem_uniqL]
theorem uniqL_skip (l : List ByteArray) (i : Nat) (hi : i < l.length) (h : l[i] ∈ uniqL (l.take i)) : uniqL (l.take i) = uniqL (l.take (i + 1)) := by
  refine eq_uniqL (uniqL_strict _) fun x => ?_
  rw [mem_uniqL, List.take_succ_eq_append_getElem hi, List.mem_append, List.mem_singleton]
  constructor
  · exact .inl
  · rintro (h' | rfl)
    · exact h'
    · exact (mem_uniqL _ _).1 h
theorem Strict.drop_gt {l : List ByteArray} (h : Strict l) {k : Nat} (hk : k < l.length) {x : ByteArray} (hle : lt l[k] x = false) (hne : l[k] ≠ x) : ∀ y ∈ l.drop k, lt x y = true := by
  have h0 : lt x l[k] = true := by
    cases hc : lt x l[k] with
    | true => rfl
    | false => exact absurd (lt_total hle hc) hne
  intro y hy
  obtain ⟨j, hj, rfl⟩ := List.mem_drop_iff_getElem.1 hy
  by_cases he : j = 0
  · subst he; exact h0
  · exact lt_trans h0 (List.pairwise_iff_getElem.1 h k (k + j) hk (by omega) (by omega))
theorem Strict.take_lt {l : List ByteArray} (h : Strict l) {j : Nat} (hj : j < l.length) {x : ByteArray} (hx : lt l[j] x = true) : ∀ y ∈ l.take (j + 1), lt y x = true := by
  intro y hy
  obtain ⟨q, hq, rfl⟩ := List.mem_take_iff_getElem.1 hy
  by_cases he : q = j
  · subst he; exact hx
  · exact lt_trans (List.pairwise_iff_getElem.1 h q j (by omega) hj (by omega)) hx
theorem drop_ge {l : List ByteArray} {x : ByteArray} {j : Nat} (hj : j < l.length) (h : ∀ y ∈ l.drop (j + 1), lt y x = false) (hx : lt l[j] x = false) : ∀ y ∈ l.drop j, lt y x = false := by
  intro y hy
  rw [List.drop_eq_getElem_cons hj] at hy
  rcases List.mem_cons.1 hy with rfl | hy
  · exact hx
  · exact h y hy
theorem Sl.lenRun {P : Program} {w : World} {v : Value} {size n : Nat} {xs : List Value} (h : Sl w size v n xs) (t e ty : TypeId) (ht : P.underlying t = some (.slice e)) (w' : World) : (Builtin.len_ #[t] ty #[v]).run P w' = .ok (.int .i64 (n : Int)) w' := by
  obtain ⟨ao, cap, rfl, _⟩ := h
  simp [Builtin.len_, run_underlying ht, goInt]
end Go.Mx
namespace Go.Proofs.YtloogjdafhjheaaGreat
open Go.RowKit Go.Mx

set_option maxHeartbeats 4000000 in
theorem refUnique_any (v : Value) (l : List ByteArray) (w : World) (hv : Sl w 1 v l.length (ss l)) (hl : l.length ≤ 8796093022208) :
    Calls Tryz.prog 30 #[v] w fun e w' => ∃ v', e = .returned v' ∧ St w w' [⟨v', 9, 1, (uniqL l).length, ss (uniqL l)⟩] [] := by
  obtain ⟨ao, cap, blk, off, rfl, h1, h2, _, hc⟩ := hv.txt
  clear hv
  have HC := hid hc
  clear hc
  go_enter Tryz.func30, Tryz.ntmps30
  go_wp2_with fail
  go_loopw [3, 4] (fun y x wr => ∃ (i : Nat) (vo : Value), i ≤ l.length ∧ vo = y ∧ x = .int .i64 i ∧ St w wr [⟨vo, 9, 1, (uniqL (l.take i)).length, ss (uniqL (l.take i))⟩] []) (fun _ x _ => l.length - (intOf x).toNat)
  case atStart => exact ⟨0, _, by omega, rfl, rfl, (St.nil w 9 1).cast (by simp [uniqL, sortL, Lib.compact, Lib.compactUpTo]) (by simp [uniqL, sortL, ss, Lib.compact, Lib.compactUpTo])⟩
  case round =>
    obtain ⟨i, vo, hi, rfl, rfl, hs⟩ := hrel
    obtain ⟨wo, rfl⟩ : ∃ x : World, x = wr := ⟨_, rfl⟩
    by_cases hlt : i < l.length
    · obtain ⟨rfl, c0⟩ := HC.out i hlt
      have hii : (i : Int) < (l.length : Int) := by omega
      have hins := hid (uniqL_ins l i hlt)
      have hskip := hid (uniqL_skip l i hlt)
      have hsrt := hid (uniqL_strict (l.take i))
      have hOl : (uniqL (l.take i)).length ≤ i := by have := uniqL_len (l.take i); rw [List.length_take] at this; omega
      generalize hO : uniqL (l.take i) = O at *
      generalize hX : l[i] = x at *
      clear hX hO
      go_wp2_with ((with_reducible show wpList _ _ _ _ _ _); refine wpl_len rfl 23 9 _ rfl Tryz.underlying23 (by exact hs.sl0) ?_)
      go_loopw [5] (fun z ws => ∃ k : Nat, k ≤ O.length ∧ z = .int .i64 k ∧ Hid (∀ y ∈ O.drop k, lt y x = false) ∧ St w ws [⟨vo, 9, 1, O.length, ss O⟩] []) (fun z _ => (intOf z).toNat)
      case atStart => exact ⟨O.length, by omega, rfl, by rw [List.drop_of_length_le (by omega)]; simp [Hid], hs⟩
      case round =>
        obtain ⟨k, hk, rfl, Hd, hs⟩ := hrel
        have c1 := hs.keep c0
        have hlen := hs.sl0.lenRun 23 9 3 Tryz.underlying23
        match k with
        | 0 =>
          have HT : Hid (∀ y ∈ O.take 0, lt y x = true) := by simp [Hid]
          by_cases hkn : 0 < O.length
          · obtain ⟨g, cp, hv, hg1, hg2, hg3, hg4⟩ := hs.form0 (by omega)
            have hs' := hs
            rw [hv] at hs'
            have c3 := hs'.cell (ss_get hkn)
            clear hs'
            have hkd : decide ((0 : Int) < (O.length : Int)) = true := decide_eq_true (by omega)
            by_cases hq : O[0] = x
            · have hqb := tx_beq hq
              have Hq := hid hq
              clear hq
              clear hlen
              rw [hv]
              go_wp2_with fail
              go_quiet (fail)
              obtain ⟨n1, rfl⟩ : ∃ m : Nat, m = nq := ⟨_, rfl⟩
              go_wp2_with fail
              go_quiet (fail)
              go_wp2_with fail
              rw [← hv]
              go_roundw
              case rel =>
                have e := hskip.out (Hq.out ▸ List.getElem_mem hkn)
                exact ⟨i + 1, vo, by omega, rfl, by go_num, (hs.drewN _).cast (by rw [e]) (by rw [e])⟩
              case measure => simp [intOf]; omega
            · have hqb := tx_bne hq
              have HG : Hid (∀ y ∈ O.drop (0), lt x y = true) := hsrt.out.drop_gt hkn (Hd.out _ (by rw [List.drop_eq_getElem_cons hkn]; exact List.mem_cons_self ..)) hq
              clear hq
              clear hlen
              rw [hv]
              go_wp2_with fail
              go_quiet (fail)
              obtain ⟨n1, rfl⟩ : ∃ m : Nat, m = nq := ⟨_, rfl⟩
              go_wp2_with fail
              go_quiet (fail)
              go_wp2_with fail
              rw [← hv]
              replace hs := hs.drewN (n1 + nq)
              clear hv hqb c3 hg1 hg2 hg3 hg4 hkd
              try clear c2 hb
              obtain ⟨v1, r1, t1⟩ := hs.cutTo Tryz.elStr (0) (by omega)
              obtain ⟨v2, r2, t2⟩ := hs.sl0.cutRun Tryz.elStr (some (.int .i64 (0))) none (0) O.length (.inr ⟨.i64, rfl⟩) (.inl ⟨rfl, rfl⟩) (by omega) (Nat.le_refl _)
              replace t1 := hid t1
              replace t2 := hid t2
              replace r1 : ∀ w', (Instr.sliceAt 23 vo none (some (.int .i64 (0))) none).run Tryz.prog w' = .ok v1 w' := r1
              go_region_held3 (fun W => W.cell? ⟨blk, off + i, none⟩ = some (.string x)) (first | exact hA2.keep c0 | exact hA1.keep c0 | go_keep) (first
                | (have := hA1; refine step_app rfl _ _ 23 rfl Tryz.elStr (t1.out _ _ _ hA1.swap) rfl (by exact hA1.sl0) (by intro u hu; rcases List.mem_append.1 hu with hu | hu; (simp at hu; subst hu; rfl); exact ss_one O u (List.mem_of_mem_take (List.mem_of_mem_drop hu))) (by omega) ?_; intro vb wb hA2 _)
                | (refine step_app rfl _ _ 23 rfl Tryz.elStr (hs.drew.made #[.string x] 9 1 1 rfl (by simp [maxLen])) rfl (by exact t2.out _ (hs.drew.made #[.string x] 9 1 1 rfl (by simp [maxLen])).tail.sl0) (by intro u hu; exact ss_one O u (List.mem_of_mem_take (List.mem_of_mem_drop hu))) (by omega) ?_; intro va wa hA1 _))
              go_wp2_with fail
              go_roundw
              case rel =>
                have e := hins.out (0) HT.out HG.out
                refine ⟨i + 1, vb, by omega, rfl, by go_num, hA2.head.cast ?_ ?_⟩
                · rw [← e]; simp; omega
                · rw [cells_ins O x O.length _ rfl, e]
              case measure => simp [intOf]; omega
          · have hkd : decide ((0 : Int) < (O.length : Int)) = false := decide_eq_false (by omega)
            have HG : Hid (∀ y ∈ O.drop (0), lt x y = true) := by rw [List.drop_of_length_le (by omega)]; simp [Hid]
            go_wp2_with fail
            go_quiet (fail)
            obtain ⟨n1, rfl⟩ : ∃ m : Nat, m = nq := ⟨_, rfl⟩
            go_wp2_with fail
            go_quiet (fail)
            go_wp2_with fail
            replace hs := hs.drewN (n1 + nq)
            clear hlen hkd
            obtain ⟨v1, r1, t1⟩ := hs.cutTo Tryz.elStr (0) (by omega)
            obtain ⟨v2, r2, t2⟩ := hs.sl0.cutRun Tryz.elStr (some (.int .i64 (0))) none (0) O.length (.inr ⟨.i64, rfl⟩) (.inl ⟨rfl, rfl⟩) (by omega) (Nat.le_refl _)
            replace t1 := hid t1
            replace t2 := hid t2
            replace r1 : ∀ w', (Instr.sliceAt 23 vo none (some (.int .i64 (0))) none).run Tryz.prog w' = .ok v1 w' := r1
            go_region_held3 (fun W => W.cell? ⟨blk, off + i, none⟩ = some (.string x)) (first | exact hA2.keep c0 | exact hA1.keep c0 | go_keep) (first
              | (have := hA1; refine step_app rfl _ _ 23 rfl Tryz.elStr (t1.out _ _ _ hA1.swap) rfl (by exact hA1.sl0) (by intro u hu; rcases List.mem_append.1 hu with hu | hu; (simp at hu; subst hu; rfl); exact ss_one O u (List.mem_of_mem_take (List.mem_of_mem_drop hu))) (by omega) ?_; intro vb wb hA2 _)
              | (refine step_app rfl _ _ 23 rfl Tryz.elStr (hs.drew.made #[.string x] 9 1 1 rfl (by simp [maxLen])) rfl (by exact t2.out _ (hs.drew.made #[.string x] 9 1 1 rfl (by simp [maxLen])).tail.sl0) (by intro u hu; exact ss_one O u (List.mem_of_mem_take (List.mem_of_mem_drop hu))) (by omega) ?_; intro va wa hA1 _))
            go_wp2_with fail
            go_roundw
            case rel =>
              have e := hins.out (0) HT.out HG.out
              refine ⟨i + 1, vb, by omega, rfl, by go_num, hA2.head.cast ?_ ?_⟩
              · rw [← e]; simp; omega
              · rw [cells_ins O x O.length _ rfl, e]
            case measure => simp [intOf]; omega
        | j + 1 =>
          have hjO : j < O.length := by omega
          have hj0 : decide (0 < (j : Int) + 1) = true := decide_eq_true (by omega)
          have hjj : (j : Int) < (O.length : Int) := by omega
          by_cases hx : lt O[j] x = true
          · have hb : Op.bytesLess O[j].toList x.toList = true := hx
            have HT : Hid (∀ y ∈ O.take (j + 1), lt y x = true) := hsrt.out.take_lt hjO hx
            clear hx
            by_cases hkn : j + 1 < O.length
            · obtain ⟨g, cp, hv, hg1, hg2, hg3, hg4⟩ := hs.form0 (by omega)
              have hs' := hs
              rw [hv] at hs'
              have c3 := hs'.cell (ss_get hkn)
              have c2 := hs'.cell (ss_get hjO)
              clear hs'
              have hkd : decide (((j : Int) + 1 : Int) < (O.length : Int)) = true := decide_eq_true (by omega)
              by_cases hq : O[j + 1] = x
              · have hqb := tx_beq hq
                have Hq := hid hq
                clear hq
                clear hlen
                rw [hv]
                go_wp2_with fail
                go_quiet (fail)
                obtain ⟨n1, rfl⟩ : ∃ m : Nat, m = nq := ⟨_, rfl⟩
                go_wp2_with fail
                go_quiet (fail)
                go_wp2_with fail
                rw [← hv]
                go_roundw
                case rel =>
                  have e := hskip.out (Hq.out ▸ List.getElem_mem hkn)
                  exact ⟨i + 1, vo, by omega, rfl, by go_num, (hs.drewN _).cast (by rw [e]) (by rw [e])⟩
                case measure => simp [intOf]; omega
              · have hqb := tx_bne hq
                have HG : Hid (∀ y ∈ O.drop (j + 1), lt x y = true) := hsrt.out.drop_gt hkn (Hd.out _ (by rw [List.drop_eq_getElem_cons hkn]; exact List.mem_cons_self ..)) hq
                clear hq
                clear hlen
                rw [hv]
                go_wp2_with fail
                go_quiet (fail)
                obtain ⟨n1, rfl⟩ : ∃ m : Nat, m = nq := ⟨_, rfl⟩
                go_wp2_with fail
                go_quiet (fail)
                go_wp2_with fail
                rw [← hv]
                replace hs := hs.drewN (n1 + nq)
                clear hv hqb c3 hg1 hg2 hg3 hg4 hkd
                try clear c2 hb
                obtain ⟨v1, r1, t1⟩ := hs.cutTo Tryz.elStr (j + 1) (by omega)
                obtain ⟨v2, r2, t2⟩ := hs.sl0.cutRun Tryz.elStr (some (.int .i64 ((j : Int) + 1))) none (j + 1) O.length (.inr ⟨.i64, rfl⟩) (.inl ⟨rfl, rfl⟩) (by omega) (Nat.le_refl _)
                replace t1 := hid t1
                replace t2 := hid t2
                replace r1 : ∀ w', (Instr.sliceAt 23 vo none (some (.int .i64 ((j : Int) + 1))) none).run Tryz.prog w' = .ok v1 w' := r1
                go_region_held3 (fun W => W.cell? ⟨blk, off + i, none⟩ = some (.string x)) (first | exact hA2.keep c0 | exact hA1.keep c0 | go_keep) (first
                  | (have := hA1; refine step_app rfl _ _ 23 rfl Tryz.elStr (t1.out _ _ _ hA1.swap) rfl (by exact hA1.sl0) (by intro u hu; rcases List.mem_append.1 hu with hu | hu; (simp at hu; subst hu; rfl); exact ss_one O u (List.mem_of_mem_take (List.mem_of_mem_drop hu))) (by omega) ?_; intro vb wb hA2 _)
                  | (refine step_app rfl _ _ 23 rfl Tryz.elStr (hs.drew.made #[.string x] 9 1 1 rfl (by simp [maxLen])) rfl (by exact t2.out _ (hs.drew.made #[.string x] 9 1 1 rfl (by simp [maxLen])).tail.sl0) (by intro u hu; exact ss_one O u (List.mem_of_mem_take (List.mem_of_mem_drop hu))) (by omega) ?_; intro va wa hA1 _))
                go_wp2_with fail
                go_roundw
                case rel =>
                  have e := hins.out (j + 1) HT.out HG.out
                  refine ⟨i + 1, vb, by omega, rfl, by go_num, hA2.head.cast ?_ ?_⟩
                  · rw [← e]; simp; omega
                  · rw [cells_ins O x O.length _ rfl, e]
                case measure => simp [intOf]; omega
            · have hkd : decide (((j : Int) + 1 : Int) < (O.length : Int)) = false := decide_eq_false (by omega)
              have HG : Hid (∀ y ∈ O.drop (j + 1), lt x y = true) := by rw [List.drop_of_length_le (by omega)]; simp [Hid]
              obtain ⟨g, cp, hv, hg1, hg2, hg3, hg4⟩ := hs.form0 (by omega)
              have hs' := hs
              rw [hv] at hs'
              have c2 := hs'.cell (ss_get hjO)
              clear hs' hlen
              rw [hv]
              go_wp2_with fail
              go_quiet (fail)
              obtain ⟨n1, rfl⟩ : ∃ m : Nat, m = nq := ⟨_, rfl⟩
              go_wp2_with fail
              go_quiet (fail)
              go_wp2_with fail
              rw [← hv]
              replace hs := hs.drewN (n1 + nq)
              clear hv c2 hb hg1 hg2 hg3 hg4 hkd
              obtain ⟨v1, r1, t1⟩ := hs.cutTo Tryz.elStr (j + 1) (by omega)
              obtain ⟨v2, r2, t2⟩ := hs.sl0.cutRun Tryz.elStr (some (.int .i64 ((j : Int) + 1))) none (j + 1) O.length (.inr ⟨.i64, rfl⟩) (.inl ⟨rfl, rfl⟩) (by omega) (Nat.le_refl _)
              replace t1 := hid t1
              replace t2 := hid t2
              replace r1 : ∀ w', (Instr.sliceAt 23 vo none (some (.int .i64 ((j : Int) + 1))) none).run Tryz.prog w' = .ok v1 w' := r1
              go_region_held3 (fun W => W.cell? ⟨blk, off + i, none⟩ = some (.string x)) (first | exact hA2.keep c0 | exact hA1.keep c0 | go_keep) (first
                | (have := hA1; refine step_app rfl _ _ 23 rfl Tryz.elStr (t1.out _ _ _ hA1.swap) rfl (by exact hA1.sl0) (by intro u hu; rcases List.mem_append.1 hu with hu | hu; (simp at hu; subst hu; rfl); exact ss_one O u (List.mem_of_mem_take (List.mem_of_mem_drop hu))) (by omega) ?_; intro vb wb hA2 _)
                | (refine step_app rfl _ _ 23 rfl Tryz.elStr (hs.drew.made #[.string x] 9 1 1 rfl (by simp [maxLen])) rfl (by exact t2.out _ (hs.drew.made #[.string x] 9 1 1 rfl (by simp [maxLen])).tail.sl0) (by intro u hu; exact ss_one O u (List.mem_of_mem_take (List.mem_of_mem_drop hu))) (by omega) ?_; intro va wa hA1 _))
              go_wp2_with fail
              go_roundw
              case rel =>
                have e := hins.out (j + 1) HT.out HG.out
                refine ⟨i + 1, vb, by omega, rfl, by go_num, hA2.head.cast ?_ ?_⟩
                · rw [← e]; simp; omega
                · rw [cells_ins O x O.length _ rfl, e]
              case measure => simp [intOf]; omega
          · have hx : lt O[j] x = false := by simpa using hx
            have hb : Op.bytesLess O[j].toList x.toList = false := hx
            have Hx := hid hx
            clear hx
            obtain ⟨g, cp, hv, hg1, hg2, hg3, hg4⟩ := hs.form0 (by omega)
            have hs' := hs
            rw [hv] at hs'
            have c2 := hs'.cell (ss_get hjO)
            clear hs' hlen
            rw [hv]
            go_wp2_with fail
            go_quiet (fail)
            go_wp2_with fail
            rw [← hv]
            go_roundw
            case rel => exact ⟨j, by omega, rfl, drop_ge hjO Hd.out Hx.out, hs.drewN _⟩
            case measure => simp [intOf]
    · go_wp2_with fail
      go_ret
      have e : l.take i = l := List.take_of_length_le (by omega)
      exact ⟨_, rfl, hs.cast (by rw [e]) (by rw [e])⟩
end Go.Proofs.YtloogjdafhjheaaGreat

namespace Go.Mx
open Go Go.RowKit

def gv (l : List ByteArray) (i : Nat) : ByteArray := l.getD i ByteArray.empty
theorem gv_eq {l : List ByteArray} {i : Nat} (h : i < l.length) : gv l i = l[i] := by unfold gv; rw [List.getD_eq_getElem?_getD, List.getElem?_eq_getElem h]; rfl
/-- The keys rise from a to b. -/
def Rise (f : ByteArray → Int) (l : List ByteArray) (a b : Nat) : Prop := ∀ i j, a ≤ i → i < j → j < b → f (gv l i) ≤ f (gv l j)
/-- Where keys are alike, the names stand in order. -/
def EE (f : ByteArray → Int) (l : List ByteArray) : Prop := ∀ i j, i < j → j < l.length → f (gv l i) = f (gv l j) → lt (gv l i) (gv l j) = true
/-- Moved within a .. b: only places there, nothing lost, alike ones stay in order. -/
structure Mov (f : ByteArray → Int) (l l' : List ByteArray) (a b : Nat) : Prop where
  perm : l'.Perm l
  idx : ∃ σ : Nat → Nat, (∀ i, i < a ∨ b ≤ i → σ i = i) ∧ (∀ i, a ≤ i → i < b → a ≤ σ i ∧ σ i < b) ∧ ∀ i, gv l' i = gv l (σ i)
  ee : EE f l → EE f l'
theorem Mov.refl (f : ByteArray → Int) (l : List ByteArray) (a b : Nat) : Mov f l l a b := ⟨List.Perm.refl _, ⟨id, fun _ _ => rfl, fun _ h1 h2 => ⟨h1, h2⟩, fun _ => rfl⟩, id⟩
theorem Mov.trans {f : ByteArray → Int} {l l' l'' : List ByteArray} {a b a' b' : Nat} (h : Mov f l l' a b) (h' : Mov f l' l'' a' b') (ha : a ≤ a') (hb : b' ≤ b) : Mov f l l'' a b := by
  obtain ⟨σ, h1, h2, h3⟩ := h.idx
  obtain ⟨τ, k1, k2, k3⟩ := h'.idx
  refine ⟨h'.perm.trans h.perm, ⟨fun i => σ (τ i), fun i hi => ?_, fun i hi hi2 => ?_, fun i => by rw [k3, h3]⟩, fun he => h'.ee (h.ee he)⟩
  · show σ (τ i) = i
    rw [k1 i (by omega), h1 i hi]
  · show a ≤ σ (τ i) ∧ σ (τ i) < b
    by_cases hq : a' ≤ i ∧ i < b'
    · obtain ⟨q1, q2⟩ := k2 i hq.1 hq.2
      exact h2 _ (by omega) (by omega)
    · rw [k1 i (by omega)]
      exact h2 i hi hi2
theorem Mov.wide {f : ByteArray → Int} {l l' : List ByteArray} {a b a' b' : Nat} (h : Mov f l l' a' b') (ha : a ≤ a') (hb : b' ≤ b) : Mov f l l' a b := (Mov.refl f l a b).trans h ha hb
theorem Mov.len {f : ByteArray → Int} {l l' : List ByteArray} {a b : Nat} (h : Mov f l l' a b) : l'.length = l.length := h.perm.length_eq
/-- What lies outside keeps rising. -/
theorem Mov.rise {f : ByteArray → Int} {l l' : List ByteArray} {a b c d : Nat} (h : Mov f l l' a b) (hr : Rise f l c d) (ho : d ≤ a ∨ b ≤ c) : Rise f l' c d := by
  obtain ⟨σ, h1, h2, h3⟩ := h.idx
  intro i j hi hij hj
  rw [h3, h3, h1 i (by omega), h1 j (by omega)]
  exact hr i j hi hij hj
/-- Two halves, each risen within itself, the lower one's below the upper one's. -/
def Halves (f : ByteArray → Int) (l : List ByteArray) (a m b : Nat) : Prop := ∀ i j, a ≤ i → i < m → m ≤ j → j < b → f (gv l i) ≤ f (gv l j)
theorem Mov.halves {f : ByteArray → Int} {l l' : List ByteArray} {a m b c d : Nat} (h : Mov f l l' c d) (hh : Halves f l a m b) (ho : (a ≤ c ∧ d ≤ m) ∨ (m ≤ c ∧ d ≤ b)) : Halves f l' a m b := by
  obtain ⟨σ, h1, h2, h3⟩ := h.idx
  have hs : ∀ i, (a ≤ i ∧ i < m → a ≤ σ i ∧ σ i < m) ∧ (m ≤ i ∧ i < b → m ≤ σ i ∧ σ i < b) := by
    intro i
    by_cases hq : c ≤ i ∧ i < d
    · have := h2 i hq.1 hq.2; omega
    · have := h1 i (by omega); omega
  intro i j hi him hmj hj
  rw [h3, h3]
  have p := (hs i).1 ⟨hi, him⟩
  have q := (hs j).2 ⟨hmj, hj⟩
  exact hh _ _ p.1 p.2 q.1 q.2
theorem rise_of {f : ByteArray → Int} {l : List ByteArray} {a m b : Nat} (h1 : Rise f l a m) (h2 : Rise f l m b) (hh : Halves f l a m b) : Rise f l a b := by
  intro i j hi hij hj
  by_cases hjm : j < m
  · exact h1 i j hi hij hjm
  · by_cases him : i < m
    · exact hh i j hi him (by omega) hj
    · exact h2 i j (by omega) hij hj

/-- Where place i's one stood before s .. m and m .. e changed places. -/
def rotI (s m e i : Nat) : Nat := if i < s then i else if i < s + (e - m) then i + (m - s) else if i < e then i - (e - m) else i
structure Rot (l l' : List ByteArray) (s m e : Nat) : Prop where
  perm : l'.Perm l
  at' : ∀ i, gv l' i = gv l (rotI s m e i)
theorem rot_mov {f : ByteArray → Int} {l l' : List ByteArray} {s m e : Nat} (h : Rot l l' s m e) (hsm : s ≤ m) (hme : m ≤ e) (hinv : ∀ i j, s ≤ i → i < m → m ≤ j → j < e → f (gv l j) < f (gv l i)) (he : e ≤ l.length) : Mov f l l' s e where
  perm := h.perm
  idx := ⟨rotI s m e, fun i hi => by unfold rotI; split <;> (try split) <;> (try split) <;> omega, fun i h1 h2 => by unfold rotI; split <;> (try split) <;> (try split) <;> omega, h.at'⟩
  ee hee i j hij hj hf := by
    rw [h.perm.length_eq] at hj
    rw [h.at', h.at'] at hf ⊢
    have key : (rotI s m e i < rotI s m e j ∧ rotI s m e j < l.length) ∨ (s ≤ rotI s m e j ∧ rotI s m e j < m ∧ m ≤ rotI s m e i ∧ rotI s m e i < e) := by
      unfold rotI
      split <;> (try split) <;> (try split) <;> (try split) <;> (try split) <;> (try split) <;> omega
    rcases key with ⟨k1, k2⟩ | ⟨k1, k2, k3, k4⟩
    · exact hee _ _ k1 k2 hf
    · have := hinv _ _ k1 k2 k3 k4
      omega
/-- One that goes up by steps past those that are less (a, then a + 1 .. i). -/
theorem rot_keys {f : ByteArray → Int} {l l' : List ByteArray} {s m e : Nat} (h : Rot l l' s m e) (i : Nat) : f (gv l' i) = f (gv l (rotI s m e i)) := by rw [h.at']
theorem rot_rise {f : ByteArray → Int} {l l' : List ByteArray} {a s m e b : Nat} (h : Rot l l' s m e) (has : a ≤ s) (hsm : s ≤ m) (hme : m ≤ e) (heb : e ≤ b) (h1 : Rise f l a m) (h2 : Rise f l m b)
    (hA : s = a ∨ e = b ∨ f (gv l (s - 1)) ≤ f (gv l e)) (hB : s = m ∨ e = m ∨ f (gv l (e - 1)) < f (gv l s)) :
    Rise f l' a s ∧ Rise f l' s (s + (e - m)) ∧ Rise f l' (s + (e - m)) e ∧ Rise f l' e b ∧ Halves f l' a (s + (e - m)) b ∧ (∀ i j, s ≤ i → i < m → m ≤ j → j < e → f (gv l j) < f (gv l i)) := by
  have k := rot_keys (f := f) h
  have le1 : ∀ i j, a ≤ i → i ≤ j → j < m → f (gv l i) ≤ f (gv l j) := fun i j hi hij hj => by
    rcases Nat.lt_or_ge i j with hl | hl
    · exact h1 i j hi hl hj
    · rw [show i = j by omega]; omega
  have le2 : ∀ i j, m ≤ i → i ≤ j → j < b → f (gv l i) ≤ f (gv l j) := fun i j hi hij hj => by
    rcases Nat.lt_or_ge i j with hl | hl
    · exact h2 i j hi hl hj
    · rw [show i = j by omega]; omega
  have r1 : ∀ i, i < s → rotI s m e i = i := fun i hi => by unfold rotI; rw [if_pos hi]
  have r2 : ∀ i, s ≤ i → i < s + (e - m) → rotI s m e i = i + (m - s) := fun i hi h2 => by unfold rotI; rw [if_neg (by omega), if_pos h2]
  have r3 : ∀ i, s + (e - m) ≤ i → i < e → rotI s m e i = i - (e - m) := fun i hi h2 => by unfold rotI; rw [if_neg (by omega), if_neg (by omega), if_pos h2]
  have r4 : ∀ i, e ≤ i → rotI s m e i = i := fun i hi => by unfold rotI; split <;> (try split) <;> (try split) <;> omega
  have hinv : ∀ i j, s ≤ i → i < m → m ≤ j → j < e → f (gv l j) < f (gv l i) := fun i j hi him hmj hj => by
    have q1 := le1 s i has hi him
    have q2 := le2 j (e - 1) hmj (by omega) (by omega)
    omega
  have hcr : ∀ i j, a ≤ i → i < s → e ≤ j → j < b → f (gv l i) ≤ f (gv l j) := fun i j hi his hej hj => by
    have q1 := le1 i (s - 1) hi (by omega) (by omega)
    have q2 := le2 e j (by omega) hej hj
    omega
  refine ⟨fun i j hi hij hj => ?_, fun i j hi hij hj => ?_, fun i j hi hij hj => ?_, fun i j hi hij hj => ?_, fun i j hi him hmj hj => ?_, hinv⟩
  · rw [k, k, r1 i (by omega), r1 j hj]; exact le1 i j hi (by omega) (by omega)
  · rw [k, k, r2 i hi (by omega), r2 j (by omega) hj]; exact le2 _ _ (by omega) (by omega) (by omega)
  · rw [k, k, r3 i hi (by omega), r3 j (by omega) hj]; exact le1 _ _ (by omega) (by omega) (by omega)
  · rw [k, k, r4 i hi, r4 j (by omega)]; exact le2 _ _ (by omega) (by omega) hj
  · rw [k, k]
    by_cases h1 : i < s
    · rw [r1 i h1]
      by_cases h2 : j < e
      · rw [r3 j hmj h2]; exact le1 _ _ hi (by omega) (by omega)
      · rw [r4 j (by omega)]; exact hcr i j hi h1 (by omega) hj
    · rw [r2 i (by omega) him]
      by_cases h2 : j < e
      · rw [r3 j hmj h2]; have := hinv (j - (e - m)) (i + (m - s)) (by omega) (by omega) (by omega) (by omega); omega
      · rw [r4 j (by omega)]; exact le2 _ _ (by omega) (by omega) hj
/-- Places a .. a + n and b .. b + n changed. -/
def swI (a b n i : Nat) : Nat := if a ≤ i ∧ i < a + n then i - a + b else if b ≤ i ∧ i < b + n then i - b + a else i
structure Swp (l l' : List ByteArray) (a b n : Nat) : Prop where
  perm : l'.Perm l
  at' : ∀ i, gv l' i = gv l (swI a b n i)
theorem Swp.zero (l : List ByteArray) (a b : Nat) : Swp l l a b 0 := ⟨List.Perm.refl _, fun i => by unfold swI; rw [if_neg (by omega), if_neg (by omega)]⟩
theorem gv_set {l : List ByteArray} {k : Nat} {x : ByteArray} (hk : k < l.length) (i : Nat) : gv (l.set k x) i = if i = k then x else gv l i := by
  unfold gv
  rw [List.getD_eq_getElem?_getD, List.getElem?_set, List.getD_eq_getElem?_getD]
  by_cases h : k = i
  · subst h; simp [hk]
  · rw [if_neg h, if_neg (Ne.symm h)]
theorem Swp.step {l l' : List ByteArray} {a b n : Nat} (h : Swp l l' a b n) (hab : a + n < b) (hb : b + n < l.length) : Swp l ((l'.set (a + n) (gv l' (b + n))).set (b + n) (gv l' (a + n))) a b (n + 1) where
  perm := by
    have hl := h.perm.length_eq
    rw [gv_eq (by omega), gv_eq (by omega)]
    exact (List.set_set_perm (by omega) (by omega)).trans h.perm
  at' i := by
    have hl := h.perm.length_eq
    rw [gv_set (by rw [List.length_set]; omega), gv_set (by omega), h.at', h.at', h.at']
    unfold swI
    by_cases h1 : i = b + n
    · subst h1
      rw [if_pos rfl]
      congr 1
      split <;> (try split) <;> (try split) <;> (try split) <;> omega
    · rw [if_neg h1]
      by_cases h2 : i = a + n
      · subst h2
        rw [if_pos rfl]
        congr 1
        split <;> (try split) <;> (try split) <;> (try split) <;> omega
      · rw [if_neg h2]
        congr 1
        split <;> (try split) <;> (try split) <;> (try split) <;> omega
/-- One step of the rotation: the longer side is on the left. -/
theorem rot_left {l l1 l2 : List ByteArray} {m i j : Nat} (hi : i ≤ m) (hij : j < i) (h : Swp l l1 (m - i) m j) (h2 : Rot l1 l2 (m - (i - j)) m (m + j)) : Rot l l2 (m - i) m (m + j) where
  perm := h2.perm.trans h.perm
  at' k := by
    rw [h2.at', h.at']
    congr 1
    unfold swI rotI
    (repeat' split) <;> omega
theorem rot_right {l l1 l2 : List ByteArray} {m i j : Nat} (hi : i ≤ m) (hij : i < j) (h : Swp l l1 (m - i) (m + j - i) i) (h2 : Rot l1 l2 (m - i) m (m + (j - i))) : Rot l l2 (m - i) m (m + j) where
  perm := h2.perm.trans h.perm
  at' k := by
    rw [h2.at', h.at']
    congr 1
    unfold swI rotI
    (repeat' split) <;> omega
theorem rot_even {l l2 : List ByteArray} {m i : Nat} (hi : i ≤ m) (h : Swp l l2 (m - i) m i) : Rot l l2 (m - i) m (m + i) where
  perm := h.perm
  at' k := by
    rw [h.at']
    congr 1
    unfold swI rotI
    (repeat' split) <;> omega
end Go.Mx
