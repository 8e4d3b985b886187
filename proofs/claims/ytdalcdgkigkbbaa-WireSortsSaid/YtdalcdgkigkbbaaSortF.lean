/- marref1.Sort, marref.Unique: texts put in one by one. -/
import Derived.Test.YtdalcdgkigkbbaaSortC
namespace Go.Mx
open Go Go.RowKit

/-- x[:k] of a row: the row itself, cut short. -/
theorem St.cutTo {P : Program} {t e : TypeId} {size bytes : Nat} (E : El P t e size bytes) {w0 w : World} {R : List Row} {Q : List Rd} {v : Value} {n : Nat} {xs : List Value} (h : St w0 w (⟨v, e, size, n, xs⟩ :: R) Q) (k : Nat) (hk : k ≤ n) :
    ∃ v1, (∀ w', (Instr.sliceAt t v none (some (.int .i64 (k : Int))) none).run P w' = .ok v1 w') ∧ ∀ w R Q, St w0 w (⟨v, e, size, n, xs⟩ :: R) Q → St w0 w (⟨v1, e, size, k, xs.take (k * size)⟩ :: R) Q := by
  have ho := h.own _ (List.mem_cons_self ..)
  rcases ho.2 with ⟨h1, h2⟩ | ⟨g, cap, cur, fr, hv, hb, hg, hfr, hn, hm, hs, htake⟩
  · simp only [] at h1 h2
    subst h1 h2
    obtain rfl : k = 0 := by omega
    refine ⟨.slice none 0 0, fun w' => ?_, fun w R Q h => ?_⟩
    · have := run_slice_sl E (w := w') (ao := none) (n := 0) (cap := 0) (Nat.le_refl _) none (some (.int .i64 ((0 : Nat) : Int))) 0 0 (.inl ⟨rfl, rfl⟩) (.inr ⟨.i64, rfl⟩) (Nat.le_refl _) (Nat.le_refl _)
      simpa using this
    · have hx := (h.own _ (List.mem_cons_self ..)).1
      simp only [Nat.zero_mul] at hx
      obtain rfl := List.eq_nil_of_length_eq_zero hx
      simpa using h
  · simp only [] at hv hn
    subst hv
    refine ⟨.slice (some ⟨g, 0, none⟩) k cap, fun w' => ?_, fun w R Q h => h.short k hk⟩
    have := run_slice_sl E (w := w') (ao := some ⟨g, 0, none⟩) (n := n) (cap := cap) hn none (some (.int .i64 (k : Int))) 0 k (.inl ⟨rfl, rfl⟩) (.inr ⟨.i64, rfl⟩) (Nat.zero_le _) hk
    simpa [Addr.add] using this
end Go.Mx
namespace Go.Proofs.Ytdalcdgkigkbbaa
open Go.RowKit Go.Mx

theorem Sorted.drop_gt {l : List ByteArray} {x : ByteArray} {j : Nat} (hj : j < l.length) (h : ∀ y ∈ l.drop (j + 1), lt x y = true) (hx : lt x l[j] = true) : ∀ y ∈ l.drop j, lt x y = true := by
  intro y hy
  rw [List.drop_eq_getElem_cons hj] at hy
  rcases List.mem_cons.1 hy with rfl | hy
  · exact hx
  · exact h y hy

theorem cells_ins (O : List ByteArray) (x : ByteArray) (i k : Nat) (h : O.length = i) : (ss O).take (k * 1) ++ ([Value.string x] ++ ((ss O).take (i * 1)).drop (k * 1)) = ss (O.take k ++ ([x] ++ O.drop k)) := by
  subst h
  have e : (ss O).take (O.length * 1) = ss O := by rw [Nat.mul_one]; exact List.take_of_length_le (by rw [ss_len]; exact Nat.le_refl _)
  rw [e]
  simp [ss, List.map_take, List.map_drop]

set_option maxHeartbeats 2000000 in
theorem refSort_any (v : Value) (l : List ByteArray) (w : World) (hv : Sl w 1 v l.length (ss l)) (hl : l.length ≤ 8796093022208) :
    Calls Try.prog 31 #[v] w fun e w' => ∃ v', e = .returned v' ∧ St w w' [⟨v', 9, 1, l.length, ss (sortL l)⟩] [] := by
  obtain ⟨ao, cap, blk, off, rfl, h1, h2, _, hc⟩ := hv.txt
  clear hv
  have HC := hid hc
  clear hc
  go_enter Try.func31, Try.ntmps31
  go_wp2_with fail
  go_loopw [3, 4] (fun y x wr => ∃ (i : Nat) (vo : Value), i ≤ l.length ∧ vo = y ∧ x = .int .i64 i ∧ St w wr [⟨vo, 9, 1, i, ss (sortL (l.take i))⟩] []) (fun _ x _ => l.length - (intOf x).toNat)
  case atStart => exact ⟨0, _, by omega, rfl, rfl, (St.nil w 9 1).cast rfl (by simp [sortL, ss])⟩
  case round =>
    obtain ⟨i, vo, hi, rfl, rfl, hs⟩ := hrel
    obtain ⟨wo, rfl⟩ : ∃ x : World, x = wr := ⟨_, rfl⟩
    by_cases hlt : i < l.length
    · obtain ⟨rfl, c0⟩ := HC.out i hlt
      have hii : (i : Int) < (l.length : Int) := by omega
      have hins := hid (sortL_ins l i hlt)
      have hsrt := hid (sortL_sorted (l.take i))
      have hOl : (sortL (l.take i)).length = i := by rw [sortL_len]; simp; omega
      generalize hO : sortL (l.take i) = O at *
      generalize hX : l[i] = x at *
      clear hX hO
      go_wp2_with ((with_reducible show wpList _ _ _ _ _ _); refine wpl_len rfl 40 9 _ rfl Try.underlying40 (by exact hs.sl0) ?_)
      go_loopw [5] (fun z ws => ∃ k : Nat, k ≤ i ∧ z = .int .i64 k ∧ Hid (∀ y ∈ O.drop k, lt x y = true) ∧ St w ws [⟨vo, 9, 1, i, ss O⟩] []) (fun z _ => (intOf z).toNat)
      case atStart => exact ⟨i, by omega, rfl, by rw [List.drop_of_length_le (by omega)]; simp [Hid], hs⟩
      case round =>
        obtain ⟨k, hk, rfl, Hd, hs⟩ := hrel
        have c1 := hs.keep c0
        match k with
        | 0 =>
          go_wp2_with fail
          go_quiet (fail)
          go_wp2_with fail
          replace hs := hs.drewN nq
          have H1 : ∀ y ∈ O.take 0, lt x y = false := by simp
          obtain ⟨v1, r1, t1⟩ := hs.cutTo Try.elStr (0) (by omega)
          obtain ⟨v2, r2, t2⟩ := hs.sl0.cutRun Try.elStr (some (.int .i64 (0))) none (0) i (.inr ⟨.i64, rfl⟩) (.inl ⟨rfl, rfl⟩) (by omega) (Nat.le_refl _)
          replace t1 := hid t1
          replace t2 := hid t2
          replace r1 : ∀ w', (Instr.sliceAt 40 vo none (some (.int .i64 (0))) none).run Try.prog w' = .ok v1 w' := r1
          go_region_held3 (fun W => W.cell? ⟨blk, off + i, none⟩ = some (.string x)) (first | exact hA2.keep c0 | exact hA1.keep c0 | go_keep) (first
            | (have := hA1; refine step_app rfl _ _ 40 rfl Try.elStr (t1.out _ _ _ hA1.swap) rfl (by exact hA1.sl0) (by intro u hu; rcases List.mem_append.1 hu with hu | hu; (simp at hu; subst hu; rfl); exact ss_one O u (List.mem_of_mem_take (List.mem_of_mem_drop hu))) (by omega) ?_; intro vb wb hA2 _)
            | (refine step_app rfl _ _ 40 rfl Try.elStr (hs.drew.made #[.string x] 9 1 1 rfl (by simp [maxLen])) rfl (by exact t2.out _ (hs.drew.made #[.string x] 9 1 1 rfl (by simp [maxLen])).tail.sl0) (by intro u hu; exact ss_one O u (List.mem_of_mem_take (List.mem_of_mem_drop hu))) (by omega) ?_; intro va wa hA1 _))
          go_wp2_with fail
          go_roundw
          case rel => exact ⟨i + 1, vb, by omega, rfl, by go_num, hA2.head.cast (by omega) (by rw [cells_ins O x i _ hOl, hins.out _ H1 fun y hy => lt_asymm (Hd.out y hy)])⟩
          case measure => simp [intOf]; omega
        | j + 1 =>
          have hjO : j < O.length := by omega
          obtain ⟨g, cp, hv, hg1, hg2, hg3, hg4⟩ := hs.form0 (by omega)
          have hs' := hs
          rw [hv] at hs'
          have c2 := hs'.cell (ss_get hjO)
          clear hs'
          have hjj : (j : Int) < (i : Int) := by omega
          have hj0 : decide (0 < (j : Int) + 1) = true := decide_eq_true (by omega)
          by_cases hx : lt x O[j] = true
          · have hb : Op.bytesLess O[j].toList x.toList = false := lt_asymm hx
            have hb' : (O[j].toList == x.toList) = false := tx_bne (by rintro rfl; rw [lt_irrefl] at hx; cases hx)
            have Hx := hid hx
            clear hx
            rw [hv]
            go_wp2_with fail
            go_quiet (fail)
            go_wp2_with fail
            rw [← hv]
            go_roundw
            case rel => exact ⟨j, by omega, rfl, Sorted.drop_gt hjO Hd.out Hx.out, hs.drewN _⟩
            case measure => simp [intOf]
          · have hx : lt x O[j] = false := by simpa using hx
            have hb : Op.bytesLess O[j].toList x.toList = true ∨ (Op.bytesLess O[j].toList x.toList = false ∧ (O[j].toList == x.toList) = true) := by
              cases hc : Op.bytesLess O[j].toList x.toList with
              | true => exact .inl rfl
              | false => exact .inr ⟨rfl, tx_beq (lt_total hc hx)⟩
            have H1 : Hid (∀ y ∈ O.take (j + 1), lt x y = false) := Sorted.take_le hsrt.out (by omega) (by omega) hx
            clear hx
            rcases hb with hb | ⟨hb, hb'⟩
            all_goals
              rw [hv]
              go_wp2_with fail
              go_quiet (fail)
              go_wp2_with fail
              rw [← hv]
              clear hv hb c2 hjj hj0 hg1 hg2 hg3 hg4
              try clear hb'
              replace hs := hs.drewN nq
              obtain ⟨v1, r1, t1⟩ := hs.cutTo Try.elStr (j + 1) (by omega)
              obtain ⟨v2, r2, t2⟩ := hs.sl0.cutRun Try.elStr (some (.int .i64 ((j : Int) + 1))) none (j + 1) i (.inr ⟨.i64, rfl⟩) (.inl ⟨rfl, rfl⟩) (by omega) (Nat.le_refl _)
              replace t1 := hid t1
              replace t2 := hid t2
              replace r1 : ∀ w', (Instr.sliceAt 40 vo none (some (.int .i64 ((j : Int) + 1))) none).run Try.prog w' = .ok v1 w' := r1
              go_region_held3 (fun W => W.cell? ⟨blk, off + i, none⟩ = some (.string x)) (first | exact hA2.keep c0 | exact hA1.keep c0 | go_keep) (first
                | (have := hA1; refine step_app rfl _ _ 40 rfl Try.elStr (t1.out _ _ _ hA1.swap) rfl (by exact hA1.sl0) (by intro u hu; rcases List.mem_append.1 hu with hu | hu; (simp at hu; subst hu; rfl); exact ss_one O u (List.mem_of_mem_take (List.mem_of_mem_drop hu))) (by omega) ?_; intro vb wb hA2 _)
                | (refine step_app rfl _ _ 40 rfl Try.elStr (hs.drew.made #[.string x] 9 1 1 rfl (by simp [maxLen])) rfl (by exact t2.out _ (hs.drew.made #[.string x] 9 1 1 rfl (by simp [maxLen])).tail.sl0) (by intro u hu; exact ss_one O u (List.mem_of_mem_take (List.mem_of_mem_drop hu))) (by omega) ?_; intro va wa hA1 _))
              go_wp2_with fail
              go_roundw
              case rel => exact ⟨i + 1, vb, by omega, rfl, by go_num, hA2.head.cast (by omega) (by rw [cells_ins O x i _ hOl, hins.out _ H1.out fun y hy => lt_asymm (Hd.out y hy)])⟩
              case measure => simp [intOf]; omega
    · go_wp2_with fail
      go_ret
      exact ⟨_, rfl, hs.cast (by omega) (by rw [List.take_of_length_le (by omega)])⟩
end Go.Proofs.Ytdalcdgkigkbbaa
