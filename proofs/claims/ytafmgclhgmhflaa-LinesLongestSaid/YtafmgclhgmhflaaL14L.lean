/- marlaw14.LinesLongest: it returns true and leaves what was there as it was. -/
import Derived.Test.YtafmgclhgmhflaaL14F
import Derived.Test.YtafmgclhgmhflaaLongP
namespace Go.Proofs.Ytafmgclhgmhflaa
open Go.RowKit Go.Mx

theorem is_get {l : List Int} {k : Nat} (h : k < l.length) : (is l)[k]? = some (.int .i64 l[k]) := by simp [is, h]
/-- A slice of ints, by its cells. -/
theorem sl_ints {w : World} {v : Value} {n : Nat} {l : List Int} (h : Sl w 1 v n (is l)) : ∃ ao cap blk off, v = .slice ao n cap ∧ n ≤ cap ∧ cap ≤ 9223372036854775807 ∧ n = l.length ∧
    (∀ k (hk : k < l.length), ao = some ⟨blk, off, none⟩ ∧ w.cell? ⟨blk, off + k, none⟩ = some (.int .i64 l[k])) := by
  obtain ⟨ao, cap, rfl, h1, h2, h3, _, hc⟩ := h.form
  unfold maxLen at h2
  rw [is, List.length_map] at h3
  by_cases hnil : l = []
  · subst hnil; exact ⟨ao, cap, 0, 0, rfl, h1, by omega, by simpa using h3.symm, fun k hk => by simp at hk⟩
  · obtain ⟨blk, off, rfl, hh⟩ := hc (by simpa [is] using hnil)
    exact ⟨_, cap, blk, off, rfl, h1, by omega, by omega, fun k hk => ⟨rfl, hh k _ (is_get hk)⟩⟩

def Com (a b : List ByteArray) (n k j : Nat) : Prop := ∃ s : List ByteArray, s.length = n ∧ s.Sublist (a.take k) ∧ s.Sublist (b.take j)

set_option maxRecDepth 400000 in
set_option maxHeartbeats 60000000 in
theorem linesLongest_any (w : World) (va vb vt : Value) (a b : List ByteArray) (ats : List Int) (ha : Sl w 1 va a.length (ss a)) (hb : Sl w 1 vb b.length (ss b)) (ht : Sl w 1 vt ats.length (is ats)) (hats : ∀ x ∈ ats, -9223372036854775808 ≤ x ∧ x ≤ 9223372036854775807) :
    Calls Try.prog 3 #[va, vb, vt] w fun e w' => e = .returned (.bool true) ∧ Below w.heap.size w w' := by
  obtain ⟨ao, cap, blk, off, rfl, h1, h2, _, hc⟩ := ha.txt
  obtain ⟨ao', cap', blk', off', rfl, h1', h2', _, hc'⟩ := hb.txt
  obtain ⟨at', capt, blkt, offt, rfl, t1, t2, _, hct⟩ := sl_ints ht
  have HA := Mx.hid hc
  have HB := Mx.hid hc'
  have HT := Mx.hid hct
  have HSA := Mx.hid ha
  have HSB := Mx.hid hb
  have HW := Mx.hid hats
  clear hc hc' hct ha hb ht hats
  go_enter Try.func3, Try.ntmps3
  go_wp2_with fail
  refine (first_any _).mono ?_
  rintro e w1 ⟨rfl, hs1⟩
  go_wp2_with fail
  refine (few_any _ a _ (hs1.old HSA.out)).mono ?_
  rintro e w' ⟨⟨ba, rfl, fa⟩, rfl⟩
  cases ba with
  | false =>
    clear fa
    go_wp2_with (go_at_call 9; refine (first_any _).mono ?_; rintro e w2 ⟨rfl, hs2⟩)
    go_ret
    exact ⟨rfl, (hs1.call0 hs2).below⟩
  | true =>
    clear fa
    go_wp2_with (first | ((with_reducible show wpList _ _ _ _ _ _); refine wpl_want rfl ?_))
    refine (few_any _ b _ (hs1.old HSB.out)).mono ?_
    rintro e w' ⟨⟨bb, rfl, fb⟩, rfl⟩
    cases bb with
    | false =>
      clear fb
      go_wp2_with (go_at_call 9; refine (first_any _).mono ?_; rintro e w2 ⟨rfl, hs2⟩)
      go_ret
      exact ⟨rfl, (hs1.call0 hs2).below⟩
    | true =>
      clear fb
      by_cases hbig : 60 < a.length ∨ 60 < b.length ∨ 60 < ats.length
      · have hw : decide (60 < (a.length : Int)) = true ∨ (decide (60 < (a.length : Int)) = false ∧ decide (60 < (b.length : Int)) = true) ∨ (decide (60 < (a.length : Int)) = false ∧ decide (60 < (b.length : Int)) = false ∧ decide (60 < (ats.length : Int)) = true) := by
          simp only [decide_eq_true_eq, decide_eq_false_iff_not]; omega
        clear hbig
        rcases hw with g1 | ⟨g1, g2⟩ | ⟨g1, g2, g3⟩
        all_goals
          go_wp2_with (go_at_call 9; refine (first_any _).mono ?_; rintro e w2 ⟨rfl, hs2⟩)
          go_ret
          exact ⟨rfl, (hs1.call0 hs2).below⟩
      · have d1 : decide (60 < (a.length : Int)) = false := decide_eq_false (by omega)
        have d2 : decide (60 < (b.length : Int)) = false := decide_eq_false (by omega)
        have d3 : decide (60 < (ats.length : Int)) = false := decide_eq_false (by omega)
        have ga : a.length ≤ 60 := by omega
        have gb : b.length ≤ 60 := by omega
        have gt : ats.length ≤ 60 := by omega
        clear hbig
        go_wp2_with fail
        refine (match_any _ _ a b _ (hs1.old HSA.out) (hs1.old HSB.out)).mono ?_
        rintro e w2 ⟨vp, he, hs2⟩
        rw [show mE a b = 0 from if_neg (by omega)] at he
        rw [show mP a b = mpairs a b 0 0 from if_neg (by omega)] at hs2
        subst he
        obtain ⟨bo, bcap, g, o, rfl, p1, p2, hcp⟩ := sl_pairs hs2.sl0
        have HP := Mx.hid hcp
        have HS2 := Mx.hid (hs1.call0 hs2.bare)
        have HPM := Mx.hid (mpairs_mem a b 0 0)
        have HPR := Mx.hid (mpairs_rise a b 0 0)
        have HPL := Mx.hid (fun n k j (h : Com a b n k j) => by obtain ⟨s, rfl, h1, h2⟩ := h; exact sub_len h1 h2 : ∀ n k j, Com a b n k j → n ≤ (mpairs a b 0 0).length)
        have HPC := Mx.hid (mpairs_len_comm a b)
        have hpl := mpairs_len a b 0 0
        generalize mpairs a b 0 0 = ps at *
        clear hcp hs1 hs2 d1 d2 d3
        go_wp2_with fail
        go_loopw [9] (fun y wr => ∃ k : Nat, k ≤ ps.length ∧ y = .int .i64 k ∧ St w2 wr [] []) (fun y _ => ps.length - (intOf y).toNat)
        case atStart => exact ⟨0, by omega, rfl, St.refl _⟩
        case round =>
          obtain ⟨k, hk, rfl, hs⟩ := hrel
          by_cases hlt : k < ps.length
          · obtain ⟨rfl, c1, c2⟩ := HP.out k hlt
            obtain ⟨_, _, hp1, hp2, hpe⟩ := HPM.out ps[k] (List.getElem_mem _)
            have hrise : ∀ k', k = k' + 1 → ∀ (h : k' < ps.length), ps[k'].1 < ps[k].1 ∧ ps[k'].2 < ps[k].2 := fun k' hk' h => List.pairwise_iff_getElem.1 HPR.out k' k h hlt (by omega)
            have HRI := Mx.hid hrise
            clear hrise
            generalize hpk : ps[k] = p at *
            obtain ⟨px, py⟩ := p
            simp only [] at c1 c2 hp1 hp2 hpe
            obtain ⟨rfl, s1⟩ := HA.out px hp1
            obtain ⟨rfl, s2⟩ := HB.out py hp2
            replace s1 := hs.keep (HS2.out.keep s1)
            replace s2 := hs.keep (HS2.out.keep s2)
            replace c1 := hs.keep c1
            replace c2 := hs.keep c2
            have hb := tx_beq hpe
            have Hpk := Mx.hid hpk
            have hkk : (k : Int) < (ps.length : Int) := by omega
            have i1 : (px : Int) < (a.length : Int) := by omega
            have i2 : (py : Int) < (b.length : Int) := by omega
            clear hpe hpk
            have hsz : (px : Int).toNat = px := by omega
            have hsz' : (py : Int).toNat = py := by omega
            have b1 : decide ((px : Int) < 0) = false := decide_eq_false (by omega)
            have b2 : decide (a.length ≤ px) = false := decide_eq_false (by omega)
            have b3 : decide ((py : Int) < 0) = false := decide_eq_false (by omega)
            have b4 : decide (b.length ≤ py) = false := decide_eq_false (by omega)
            rcases Nat.eq_zero_or_pos k with hk0 | hk0
            · as_aux_lemma =>
              have g0 : decide (0 < k) = false := decide_eq_false (by omega)
              have g0' : decide ((0 : Int) < (k : Int)) = false := decide_eq_false (by omega)
              have Hk0 := Mx.hid hk0
              clear hk0
              go_wp2_with fail
              go_quiet (fail)
              go_wp2_with fail
              go_roundw
              case rel => exact ⟨k + 1, by omega, by go_num, hs.drewN _⟩
              case measure => simp [intOf]; omega
            · as_aux_lemma =>
              obtain ⟨_, c3, c4⟩ := HP.out (k - 1) (by omega)
              obtain ⟨r1, r2⟩ := HRI.out (k - 1) (by omega) (by omega)
              replace c3 := hs.keep c3
              replace c4 := hs.keep c4
              generalize ps[k - 1] = q at *
              obtain ⟨qx, qy⟩ := q
              simp only [] at c3 c4 r1 r2
              have w1' : IntKind.i64.wrap ((k : Int) - 1) = (k : Int) - 1 := IntWalk.i64_in _ (by omega)
              have n1 : ((k : Int) - 1).toNat = k - 1 := by omega
              have n2 : (0 : Int) ≤ (k : Int) - 1 := by omega
              have n3 : (1 : Int) ≤ (k : Int) := by omega
              have n4 : (k : Int) - 1 < (ps.length : Int) := by omega
              have n5 : decide (0 < k) = true := decide_eq_true hk0
              have b5 : decide (px ≤ qx) = false := decide_eq_false (by omega)
              have b6 : decide (py ≤ qy) = false := decide_eq_false (by omega)
              go_wp2_with fail
              go_quiet (fail)
              go_wp2_with fail
              go_roundw
              case rel => exact ⟨k + 1, by omega, by go_num, hs.drewN _⟩
              case measure => simp [intOf]; omega
          · as_aux_lemma =>
            have hk2 : ¬ ((k : Int) < (ps.length : Int)) := by omega
            have hkk : k = ps.length := by omega
            subst hkk
            clear hpl HPM HPR HP hk2 hlt
            go_wp2_with fail
            go_loopw [10, 11, 12, 13] (fun x y z v wr => ∃ n k j i : Nat, i ≤ ats.length ∧ k ≤ a.length ∧ j ≤ b.length ∧ n ≤ i ∧ x = .int .i64 n ∧ y = .int .i64 k ∧ z = .int .i64 j ∧ v = .int .i64 i ∧ Hid (Com a b n k j) ∧ St w2 wr [] []) (fun _ _ _ v _ => ats.length - (intOf v).toNat)
            case atStart => exact ⟨0, 0, 0, 0, by omega, by omega, by omega, by omega, rfl, rfl, rfl, rfl, ⟨[], rfl, List.nil_sublist _, List.nil_sublist _⟩, hs⟩
            case round =>
              clear hs
              obtain ⟨n, k, j, i, hi, hka, hjb, hni, rfl, rfl, rfl, rfl, HCom, hs⟩ := hrel
              by_cases hlt : i < ats.length
              · obtain ⟨rfl, c1⟩ := HT.out i hlt
                replace c1 := hs.keep (HS2.out.keep c1)
                have hii : (i : Int) < (ats.length : Int) := by omega
                have hzr := HW.out ats[i] (List.getElem_mem _)
                generalize ats[i] = z at *
                by_cases hz : (k : Int) ≤ z ∧ z < (a.length : Int)
                · obtain ⟨q, rfl⟩ := Int.eq_ofNat_of_zero_le (show 0 ≤ z by omega)
                  have hq1 : k ≤ q := by omega
                  have hq2 : q < a.length := by omega
                  obtain ⟨rfl, c2⟩ := HA.out q hq2
                  replace c2 := hs.keep (HS2.out.keep c2)
                  clear hz hzr
                  have e1 : decide (q < k) = false := decide_eq_false (by omega)
                  have e2 : decide (a.length ≤ q) = false := decide_eq_false (by omega)
                  go_wp2_with fail
                  clear e1 e2
                  have HSO := Mx.hid hs
                  go_loopw [14] (fun x wx => ∃ m : Nat, j ≤ m ∧ m ≤ b.length ∧ x = .int .i64 m ∧ St wr wx [] []) (fun x _ => b.length - (intOf x).toNat)
                  case atStart => exact ⟨j, by omega, by omega, rfl, St.refl _⟩
                  case round =>
                    clear hs
                    obtain ⟨m, hm1, hm2, rfl, hs⟩ := hrel
                    by_cases hmlt : m < b.length
                    · have hmm : (m : Int) < (b.length : Int) := by omega
                      obtain ⟨rfl, c3⟩ := HB.out m hmlt
                      replace c3 := hs.keep (HSO.out.keep (HS2.out.keep c3))
                      have c4 := hs.keep c2
                      have c5 := hs.keep c1
                      by_cases hx : b[m] = a[q]
                      · have hb := tx_beq hx
                        have HC2 : Hid (Com a b (n + 1) (q + 1) (m + 1)) := by
                          obtain ⟨s, h1, h2, h3⟩ := HCom.out
                          exact ⟨s ++ [a[q]], by simp [h1], sub_snoc h2 hq1 hq2, by rw [← hx]; exact sub_snoc h3 hm1 hmlt⟩
                        clear hx
                        go_wp2_with fail
                        go_quiet (fail)
                        go_wp2_with fail
                        have o1 : IntKind.i64.wrap ((n : Int) + 1) = (n : Int) + 1 := IntWalk.i64_in _ (by omega)
                        have o2 : IntKind.i64.wrap ((q : Int) + 1) = (q : Int) + 1 := IntWalk.i64_in _ (by omega)
                        have o3 : IntKind.i64.wrap ((m : Int) + 1) = (m : Int) + 1 := IntWalk.i64_in _ (by omega)
                        go_quiet (fail)
                        clear o1 o2 o3
                        go_wp2_with fail
                        go_roundw
                        case rel => exact ⟨n + 1, q + 1, m + 1, i + 1, by omega, by omega, by omega, by omega, by go_num, by go_num, by go_num, by go_num, HC2, (HSO.out.call0 hs).drewN _⟩
                        case measure => simp [intOf]; omega
                      · have hb := tx_bne hx
                        clear hx
                        go_wp2_with fail
                        go_quiet (fail)
                        go_wp2_with fail
                        go_roundw
                        case rel => exact ⟨m + 1, by omega, by omega, by go_num, hs.drewN _⟩
                        case measure => simp [intOf]; omega
                    · have hmm : ¬ ((m : Int) < (b.length : Int)) := by omega
                      go_wp2_with fail
                      go_quiet (fail)
                      go_wp2_with fail
                      go_roundw
                      case rel => exact ⟨n, k, j, i + 1, by omega, by omega, by omega, by omega, rfl, rfl, rfl, by go_num, HCom, (HSO.out.call0 hs).drewN _⟩
                      case measure => simp [intOf]; omega
                · rcases (show z < (k : Int) ∨ ((k : Int) ≤ z ∧ (a.length : Int) ≤ z) by omega) with g1 | ⟨g1, g2⟩
                  · have e1 : decide (z < (k : Int)) = true := decide_eq_true g1
                    clear hz g1
                    go_wp2_with fail
                    go_roundw
                    case rel => exact ⟨n, k, j, i + 1, by omega, by omega, by omega, by omega, rfl, rfl, rfl, by go_num, HCom, hs⟩
                    case measure => simp [intOf]; omega
                  · have e1 : decide (z < (k : Int)) = false := decide_eq_false (by omega)
                    have e2 : decide ((a.length : Int) ≤ z) = true := decide_eq_true g2
                    clear hz g1 g2
                    go_wp2_with fail
                    go_roundw
                    case rel => exact ⟨n, k, j, i + 1, by omega, by omega, by omega, by omega, rfl, rfl, rfl, by go_num, HCom, hs⟩
                    case measure => simp [intOf]; omega
              · go_wp2_with fail
                refine (match_any _ _ b a _ (hs.old (HS2.out.old HSB.out)) (hs.old (HS2.out.old HSA.out))).mono ?_
                rintro e w3 ⟨vq, he, hs3⟩
                rw [show mE b a = 0 from if_neg (by omega)] at he
                rw [show mP b a = mpairs b a 0 0 from if_neg (by omega)] at hs3
                subst he
                have HQL := HPC
                have hql := hs3.sl0
                have hnp : n ≤ ps.length := HPL.out n k j HCom.out
                clear HCom HPL
                generalize mpairs b a 0 0 = qs at *
                go_wp2_with fail
                refine (first_any _).mono ?_
                rintro e w4 ⟨rfl, hs4⟩
                replace hql := hs4.old hql
                rw [HPC.out] at hql
                have e3 : decide ((n : Int) ≤ (ps.length : Int)) = true := decide_eq_true (by omega)
                have e4 : ((ps.length : Int) == (ps.length : Int)) = true := by simp
                go_wp2_with (first | ((with_reducible show wpList _ _ _ _ _ _); refine wpl_want rfl ?_) | ((with_reducible show wpList _ _ _ _ _ _); refine wpl_len rfl 26 31 _ rfl Try.underlying26 (by exact hql) ?_))
                go_ret
                exact ⟨rfl, (((HS2.out.call0 hs).call0 hs3.bare).call0 hs4).below⟩

theorem linesLongestRow (va : Value) (a : List ByteArray) {w : World} (ha : Sl w 1 va a.length (ss a)) (_la : ∀ s ∈ a, s.size ≤ maxLen) (vb : Value) (b : List ByteArray) (hb : Sl w 1 vb b.length (ss b)) (_lb : ∀ s ∈ b, s.size ≤ maxLen) (vt : Value) (ats : List Int) (ht : Sl w 1 vt ats.length (is ats)) (hats : ∀ x ∈ ats, (Lit.int .i64 x).wf = true) (_w : World) :
    Calls Try.prog 3 #[va, vb, vt] w fun e w' => e = .returned (.bool true) ∧ Below w.heap.size w w' :=
  linesLongest_any w va vb vt a b ats ha hb ht fun x hx => by have := hats x hx; simpa [Lit.wf, IntKind.min, IntKind.max, IntKind.signed, IntKind.bits] using this
end Go.Proofs.Ytafmgclhgmhflaa
