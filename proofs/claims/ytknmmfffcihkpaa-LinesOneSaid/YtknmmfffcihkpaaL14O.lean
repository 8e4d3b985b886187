/- marlaw14.LinesOne: it returns true and leaves what was there as it was. -/
import Derived.Test.YtknmmfffcihkpaaL14F
import Derived.Test.YtknmmfffcihkpaaHas
import Derived.Test.YtknmmfffcihkpaaOneP
namespace Go.Proofs.Ytknmmfffcihkpaa
open Go.RowKit Go.Mx

def nw (i : Nat) : ByteArray := (⟨#[110, 101, 119]⟩ : ByteArray) ++ str [UInt8.ofNat (97 + i), 10]
def news (n : Nat) : List ByteArray := (List.range n).map nw
theorem news_len (n : Nat) : (news n).length = n := by simp [news]
theorem news_succ (n : Nat) : news (n + 1) = news n ++ [nw n] := by simp [news, List.range_succ]

set_option maxRecDepth 400000 in
set_option maxHeartbeats 8000000 in
theorem linesOne_any (w : World) (va : Value) (a : List ByteArray) (ha : Sl w 1 va a.length (ss a)) (z y : Int) (hz : -9223372036854775808 ≤ z ∧ z ≤ 9223372036854775807) (hy : -9223372036854775808 ≤ y ∧ y ≤ 9223372036854775807) :
    Calls Try.prog 5 #[va, .int .i64 z, .int .i64 y] w fun e w' => e = .returned (.bool true) ∧ Below w.heap.size w w' := by
  have HA := Mx.hid ha
  clear ha
  go_enter Try.func5, Try.ntmps5
  go_wp2_with fail
  refine (first_any _).mono ?_
  rintro e w1 ⟨rfl, hs1⟩
  go_wp2_with fail
  refine (few_any _ a _ (hs1.old HA.out)).mono ?_
  rintro e w' ⟨⟨ba, rfl, fa⟩, rfl⟩
  cases ba with
  | false =>
    clear fa
    go_wp2_with (go_at_call 7; refine (first_any _).mono ?_; rintro e w2 ⟨rfl, hs2⟩)
    go_ret
    exact ⟨rfl, (hs1.call0 hs2).below⟩
  | true =>
    have hl220 := fa rfl
    clear fa
    have hla := hs1.old HA.out
    obtain ⟨ao, cap, blk, off, rfl, h1, h2, _, hc⟩ := hla.txt
    clear hc hla
    by_cases hg : 0 ≤ z ∧ z ≤ a.length ∧ 1 ≤ y ∧ y ≤ 20 ∧ (a.length : Int) + y ≤ 200
    · obtain ⟨k, rfl⟩ := Int.eq_ofNat_of_zero_le hg.1
      obtain ⟨m, rfl⟩ := Int.eq_ofNat_of_zero_le (show 0 ≤ y by omega)
      have gk : k ≤ a.length := by omega
      have gm1 : 1 ≤ m := by omega
      have gm2 : m ≤ 20 := by omega
      have gl : a.length + m ≤ 200 := by omega
      clear hz hy hg
      have d1 : decide ((k : Int) < 0) = false := decide_eq_false (by omega)
      have d2 : decide (a.length < k) = false := decide_eq_false (by omega)
      have d3 : decide ((m : Int) < 1) = false := decide_eq_false (by omega)
      have d4 : decide (20 < (m : Int)) = false := decide_eq_false (by omega)
      have d5 : IntKind.i64.wrap ((a.length : Int) + (m : Int)) = (a.length : Int) + (m : Int) := IntWalk.i64_in _ (by omega)
      have d6 : decide (200 < (a.length : Int) + (m : Int)) = false := decide_eq_false (by omega)
      go_wp2_with fail
      clear d1 d2 d3 d4 d5 d6
      go_loopw [7, 8] (fun x y wr => ∃ (i : Nat) (v : Value), i ≤ m ∧ y = .int .i64 i ∧ x = v ∧ St w1 wr [⟨v, 9, 1, i, ss (news i)⟩] [] ∧ ∀ j, j < i → nw j ∉ a) (fun _ y _ => m - (intOf y).toNat)
      case atStart => exact ⟨0, _, by omega, rfl, rfl, St.nil _ _ _, by omega⟩
      case round =>
        obtain ⟨i, v, hi, rfl, rfl, hs, hno⟩ := hrel
        by_cases hlt : i < m
        · have hii : (i : Int) < (m : Int) := by omega
          obtain ⟨x, hx⟩ : ∃ x, x = UInt8.ofNat (97 + i) := ⟨_, rfl⟩
          have Hx : Hid ((⟨#[110, 101, 119]⟩ : ByteArray) ++ str [x, 10] = nw i) := by rw [hx]; rfl
          have hq : Sl (wr.alloc (.cells #[.int .u8 (97 + (i : Int)), .int .u8 10] 5)) 1 (.slice (some ⟨wr.heap.size, 0, none⟩) 2 2) 2 (bs [x, 10]) := by
            rw [hx]
            have hu : (97 + (i : Int)) = ((UInt8.ofNat (97 + i)).toNat : Int) := by rw [u8_nat (by omega)]; omega
            have := ((St.refl wr).made #[.int .u8 (97 + (i : Int)), .int .u8 10] 5 1 2 rfl (by simp [maxLen])).sl0
            rw [hu] at this ⊢
            exact this
          clear hx
          go_wp2_with ((with_reducible show wpList _ _ _ _ _ _); refine wpl_b2s rfl 46 9 5 _ rfl Try.underlying46 Try.underlying5 Try.underlying9 (by exact hq) ?_)
          rw [Hx.out]
          have hs' := hs.alloc (.cells #[.int .u8 (97 + (i : Int)), .int .u8 10] 5)
          refine (has_any _ a _ (hs'.old (hs1.old HA.out)) (nw i)).mono ?_
          rintro e w' ⟨rfl, rfl⟩
          clear hq
          generalize wr.alloc (Obj.cells #[.int .u8 (97 + (i : Int)), .int .u8 10] 5) = W at *
          cases hb : hasT a (nw i) with
          | true =>
            clear hb
            go_wp2_with (go_at_call 7; refine (first_any _).mono ?_; rintro e w2 ⟨rfl, hs2⟩)
            go_ret
            exact ⟨rfl, (hs1.call0 (hs'.bare.call0 hs2)).below⟩
          | false =>
            have HN := Mx.hid (hasT_not.1 hb)
            clear hb
            go_wp2_with (at_builtin; refine wpl_app rfl _ _ 22 rfl Try.elStr (hs'.alloc _) rfl (by exact Sl.one _ _ _) (by intro u hu; simp at hu; subst hu; rfl) (by omega) ?_; intro v2 w2 hs2 _)
            go_roundw
            case rel => exact ⟨i + 1, _, by omega, by go_num, rfl, hs2.cast rfl (by rw [news_succ, ss_app]; rfl), fun j hj => by
              rcases Nat.lt_succ_iff_lt_or_eq.1 hj with h | rfl
              · exact hno j h
              · exact HN.out⟩
            case measure => simp [intOf]; omega
        · obtain rfl : i = m := by omega
          clear hlt
          have HF := Mx.hid hs.freeze
          have HN := Mx.hid hno
          have HN1 := Mx.hid (news_len i)
          clear hs hno
          obtain ⟨v3, q1, c3⟩ := (hs1.old HA.out).cutRun Try.elStr none (some (.int .i64 (k : Int))) 0 k (.inl ⟨rfl, rfl⟩) (.inr ⟨.i64, rfl⟩) (by omega) gk
          obtain ⟨v4, q2, c4⟩ := (hs1.old HA.out).cutRun Try.elStr (some (.int .i64 (k : Int))) none k a.length (.inr ⟨.i64, rfl⟩) (.inl ⟨rfl, rfl⟩) gk (Nat.le_refl _)
          have C3 : Hid (∀ w', Sl w' 1 (.slice ao a.length cap) a.length (ss a) → Sl w' 1 v3 (a.take k).length (ss (a.take k))) := fun w' h => by simpa using Sl.cutS (c3 w' h) gk (Nat.zero_le _)
          have C4 : Hid (∀ w', Sl w' 1 (.slice ao a.length cap) a.length (ss a) → Sl w' 1 v4 (a.drop k).length (ss (a.drop k))) := fun w' h => by
            have := Sl.cutS (c4 w' h) (Nat.le_refl _) gk
            rwa [List.take_of_length_le (Nat.le_refl _)] at this
          clear c3 c4
          obtain ⟨b, hb⟩ : ∃ b, b = a.take k ++ news i ++ a.drop k := ⟨_, rfl⟩
          have HB := Mx.hid hb
          have HBL : Hid (b.length = a.length + i) := by
            show _ = _
            rw [hb, List.length_append, List.length_append, HN1.out, List.length_take, List.length_drop]; omega
          have L1 : Hid ((a.take k).length + (a.drop k).length = a.length) := by
            show _ = _
            rw [List.length_take, List.length_drop]; omega
          clear hb
          go_wp2_with fail
          go_region_held3 (fun _ => True) (trivial) (first
            | (have := hB1; refine step_app rfl _ _ 22 rfl Try.elStr (by exact hB1) rfl (by exact C4.out _ (hB1.old (hs1.old HA.out))) (ss_one _) (by have := L1.out; omega) ?_; intro vc wC hC1 _)
            | (have := hA1; refine step_app rfl _ _ 22 rfl Try.elStr (by exact hA1) rfl (by exact hA1.q0) (ss_one _) (by have := L1.out; omega) ?_; intro vb wB hB1 _)
            | (refine step_app rfl _ _ 22 rfl Try.elStr (by exact HF.out.drew.madeAt #[] 9 1 0 _ rfl (by simp) (by first | rfl | exact (heap_size_alloc _ _).symm)) rfl (by exact C3.out _ (St.old (HF.out.drew.alloc _) (hs1.old HA.out))) (ss_one _) (by have := L1.out; omega) ?_; intro va wA hA1 _))
          have hs2 : St w1 wC [⟨vc, 9, 1, b.length, ss b⟩] [⟨_, 1, i, ss (news i)⟩] := hC1.cast (by have := L1.out; have := HBL.out; omega) (by rw [HB.out, ss_app, ss_app]; simp)
          have E1 : Hid (mE a b = 0) := if_neg (by have := HBL.out; omega)
          have E2 : Hid (mE b a = 0) := if_neg (by have := HBL.out; omega)
          have hbk : b.take (k + i) = a.take k ++ news i := by
            rw [HB.out, List.take_append_of_le_length (by rw [List.length_append, HN1.out, List.length_take]; omega), List.take_of_length_le (by rw [List.length_append, HN1.out, List.length_take]; omega)]
          have hbd : b.drop (k + i) = a.drop k := by
            rw [HB.out, List.drop_append_of_le_length (by rw [List.length_append, HN1.out, List.length_take]; omega), List.drop_eq_nil_of_le (by rw [List.length_append, HN1.out, List.length_take]; omega)]; rfl
          have hbm : (b.take (k + i)).drop k = news i := by
            rw [hbk, List.drop_append_of_le_length (by rw [List.length_take]; omega), List.drop_eq_nil_of_le (by rw [List.length_take]; omega)]; rfl
          have hpre : ∀ r, r < k → ∀ (h1 : r < a.length) (h2 : r < b.length), a[r] = b[r] := by
            intro r hr h1 h2
            have e1 : b[r]? = a[r]? := by
              have := congrArg (fun l => l[r]?) hbk
              simp only [List.getElem?_take, if_pos (show r < k + i by omega)] at this
              rw [this, List.getElem?_append_left (by rw [List.length_take]; omega), List.getElem?_take, if_pos hr]
            rw [List.getElem?_eq_getElem h1, List.getElem?_eq_getElem h2] at e1
            exact (Option.some.inj e1).symm
          have hno : ∀ r, k ≤ r → r < k + i → ∀ (hr : r < b.length), b[r] ∉ a := by
            intro r hr1 hr2 hr
            have e1 : b[r]? = some (nw (r - k)) := by
              have := congrArg (fun l => l[r - k]?) hbm
              simp only [List.getElem?_drop, List.getElem?_take, if_pos (show k + (r - k) < k + i by omega)] at this
              rw [show k + (r - k) = r by omega] at this
              rw [this]
              unfold news
              rw [List.getElem?_map, List.getElem?_range (by omega)]; rfl
            rw [List.getElem?_eq_getElem hr] at e1
            rw [Option.some.inj e1]
            exact HN.out _ (by omega)
          have D1 : Hid (dE a b = [((k : Int), 0, news i)]) := by
            show _ = _
            unfold dE
            rw [if_neg (by have := HBL.out; omega), eds_put gk (by omega) HBL.out hpre hbd.symm hno, hbm]
          have D2 : Hid (dE b a = [((k : Int), (i : Int), [])]) := by
            show _ = _
            unfold dE
            rw [if_neg (by have := HBL.out; omega), eds_cut gk (by omega) HBL.out (fun r hr h1 h2 => (hpre r hr h2 h1).symm) hbd.symm hno]
          clear hbk hbd hbm hpre hno hC1
          go_wp2_with fail
          refine (diff_any _ _ a b _ (hs2.old (hs1.old HA.out)) hs2.sl0).mono ?_
          rintro e w3 ⟨v5, he, hs3, ed3⟩
          rw [E1.out] at he
          rw [D1.out] at ed3
          subst he
          replace hs3 := hs2.call0 hs3
          go_wp2_with fail
          refine (diff_any _ _ b a _ hs3.sl0 (hs3.old (hs1.old HA.out))).mono ?_
          rintro e w4 ⟨v6, he, hs4, ed4⟩
          rw [E2.out] at he
          rw [D2.out] at ed4
          subst he
          replace ed3 := ed3.old hs4
          replace hs4 := hs3.call0 hs4
          clear hs3
          obtain ⟨ao', cap', blk', off', us, rfl, g1, g2, hc, hd⟩ := ed3.at
          obtain ⟨ao2, cap2, blk2, off2, us2, rfl, g3, g4, hc2, hd2⟩ := ed4.at
          go_wp2_with fail
          refine (first_any _).mono ?_
          rintro e w5 ⟨rfl, hs5⟩
          obtain ⟨rfl, c1, c2, c3⟩ := hc 0 (by simp)
          have c4 : Sl w4 1 (us 0) (news i).length (ss (news i)) := hd 0 (by simp)
          obtain ⟨rfl, c5, c6, c7⟩ := hc2 0 (by simp)
          have c8 : Sl w4 1 (us2 0) 0 (ss []) := hd2 0 (by simp)
          generalize us 0 = u0 at *
          generalize us2 0 = u1 at *
          have c1 : w5.cell? ⟨blk', off', none⟩ = some (.int .i64 (k : Int)) := hs5.keep c1
          have c2 : w5.cell? ⟨blk', off' + 1, none⟩ = some (.int .i64 0) := hs5.keep c2
          have c3 : w5.cell? ⟨blk', off' + 2, none⟩ = some u0 := hs5.keep c3
          have c5 : w5.cell? ⟨blk2, off2, none⟩ = some (.int .i64 (k : Int)) := hs5.keep c5
          have c6 : w5.cell? ⟨blk2, off2 + 1, none⟩ = some (.int .i64 (i : Int)) := hs5.keep c6
          have c7 : w5.cell? ⟨blk2, off2 + 2, none⟩ = some u1 := hs5.keep c7
          replace c4 := hs5.old c4
          replace c8 := hs5.old c8
          have hs6 := hs4.call0 hs5
          have conv : ∀ v, Sl w5 1 v i (ss (news i)) → Sl w5 1 v (news i).length (ss (news i)) := fun v h => by rw [HN1.out]; exact h
          have c9 := conv _ hs6.q0
          clear conv
          clear hc hd hc2 hd2 ed3 ed4 q1 q2
          have e1 : ((k : Int) == (k : Int)) = true := by simp
          have e2 : ((i : Int) == (i : Int)) = true := by simp
          go_wp2_with (first | ((with_reducible show wpList _ _ _ _ _ _); refine wpl_want rfl ?_))
          refine (texts_same _ _ (news i) (news i) _ c4 c9 rfl).mono ?_
          rintro e w6 ⟨rfl, hs7⟩
          replace c5 := hs7.keep c5
          replace c6 := hs7.keep c6
          replace c7 := hs7.keep c7
          replace c8 := hs7.old c8
          go_wp2_with (first | ((with_reducible show wpList _ _ _ _ _ _); refine wpl_want rfl ?_) | ((with_reducible show wpList _ _ _ _ _ _); refine wpl_len rfl 22 9 _ rfl Try.underlying22 (by exact c8) ?_))
          go_ret
          exact ⟨rfl, (hs1.call0 (hs6.bare.noQ.call0 hs7)).below⟩
    · have hw : decide (z < 0) = true ∨ (decide (z < 0) = false ∧ decide ((a.length : Int) < z) = true) ∨ (decide (z < 0) = false ∧ decide ((a.length : Int) < z) = false ∧ decide (y < 1) = true) ∨ (decide (z < 0) = false ∧ decide ((a.length : Int) < z) = false ∧ decide (y < 1) = false ∧ decide (20 < y) = true) ∨
          (decide (z < 0) = false ∧ decide ((a.length : Int) < z) = false ∧ decide (y < 1) = false ∧ decide (20 < y) = false ∧ 1 ≤ y ∧ y ≤ 20 ∧ 200 < (a.length : Int) + y) := by
        simp only [decide_eq_true_eq, decide_eq_false_iff_not]; omega
      clear hg HA
      rcases hw with g1 | ⟨g1, g2⟩ | ⟨g1, g2, g3⟩ | ⟨g1, g2, g3, g4⟩ | ⟨g1, g2, g3, g4, g5, g6, g7⟩
      case inr.inr.inr.inr =>
        have d5 : IntKind.i64.wrap ((a.length : Int) + y) = (a.length : Int) + y := IntWalk.i64_in _ (by omega)
        have d6 : decide (200 < (a.length : Int) + y) = true := decide_eq_true (by omega)
        go_wp2_with (go_at_call 7; refine (first_any _).mono ?_; rintro e w2 ⟨rfl, hs2⟩)
        go_ret
        exact ⟨rfl, (hs1.call0 hs2).below⟩
      all_goals
        go_wp2_with (go_at_call 7; refine (first_any _).mono ?_; rintro e w2 ⟨rfl, hs2⟩)
        go_ret
        exact ⟨rfl, (hs1.call0 hs2).below⟩

theorem linesOneRow (va : Value) (a : List ByteArray) {w : World} (ha : Sl w 1 va a.length (ss a)) (_la : ∀ s ∈ a, s.size ≤ maxLen) (z : Int) (hz : (Lit.int .i64 z).wf) (y : Int) (hy : (Lit.int .i64 y).wf) (_w : World) :
    Calls Try.prog 5 #[va, .int .i64 z, .int .i64 y] w fun e w' => e = .returned (.bool true) ∧ Below w.heap.size w w' :=
  linesOne_any w va a ha z y (by simpa [Lit.wf, IntKind.min, IntKind.max, IntKind.signed, IntKind.bits] using hz) (by simpa [Lit.wf, IntKind.min, IntKind.max, IntKind.signed, IntKind.bits] using hy)
end Go.Proofs.Ytknmmfffcihkpaa
