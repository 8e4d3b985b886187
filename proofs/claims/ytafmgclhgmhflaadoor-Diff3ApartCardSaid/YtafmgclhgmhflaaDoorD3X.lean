/- Walk of diff3.Chunks. -/
import Derived.Test.YtafmgclhgmhflaaDoorD3N
import Derived.Test.YtafmgclhgmhflaaDoorD3S
import Derived.Test.YtafmgclhgmhflaaDoorD3X0
import Derived.Deep.DeepCutAuto
import Derived.Deep.CutBlock
namespace Go.Proofs.YtafmgclhgmhflaaDoor
open Go.RowKit Go.Mx

/-- Where the walker stands: the chunks that are done, and the stable lines that stand open. -/
def Opn (w0 w : World) (g : Nat) (vo va vb : Value) (i j k : Nat) (cs : List Ck) (run : List ByteArray) : Bool → Prop
  | false => run = [] ∧ ∃ (v : Value) (vs : List V3), vs.length = cs.length ∧ St w0 w [wkr g vo va vb i j k v, ckr v vs cs] (rdc vs cs)
  | true => run ≠ [] ∧ ∃ (v : Value) (vs : List V3) (xO xA xB : Value), vs.length = cs.length ∧ St w0 w [wkr g vo va vb i j k v, ckr v (vs ++ [⟨xO, xA, xB⟩]) (cs ++ [⟨1, run, run, run⟩]), txr xO run, txr xA run, txr xB run] (rdc vs cs)
theorem Opn.close {w0 w : World} {g : Nat} {vo va vb : Value} {i j k : Nat} {cs : List Ck} {run : List ByteArray} : ∀ {gr : Bool}, Opn w0 w g vo va vb i j k cs run gr →
    ∃ (v : Value) (vs : List V3), vs.length = (cs ++ flu run).length ∧ St w0 w [wkr g vo va vb i j k v, ckr v vs (cs ++ flu run)] (rdc vs (cs ++ flu run))
  | false, ⟨hr, v, vs, h1, h2⟩ => by
    subst hr
    rw [show flu [] = [] from rfl, List.append_nil]
    exact ⟨v, vs, h1, h2⟩
  | true, ⟨hr, v, vs, xO, xA, xB, h1, h2⟩ => by
    rw [show flu run = [⟨1, run, run, run⟩] from if_neg hr]
    refine ⟨v, vs ++ [⟨xO, xA, xB⟩], by simp [h1], ?_⟩
    have h3 := (h2.rot.rot).freeze.freeze.freeze
    refine h3.sub (List.Sublist.refl _) fun q hq => ?_
    rw [rdc_snoc _ _ _ _ h1] at hq
    simp only [List.mem_append, List.mem_cons, List.not_mem_nil, or_false] at hq ⊢
    rcases hq with hq | hq | hq | hq <;> simp [hq]
theorem Opn.size {w0 w : World} {g : Nat} {vo va vb : Value} {i j k : Nat} {cs : List Ck} {run : List ByteArray} {gr : Bool} (h : Opn w0 w g vo va vb i j k cs run gr) : St w0 w [] [] := by
  obtain ⟨v, vs, _, h2⟩ := h.close
  exact h2.bare.noQ

set_option maxRecDepth 100000 in
set_option maxHeartbeats 8000000 in
theorem chunks_any (vo va vb : Value) (o a b : List ByteArray) (w : World) (ho : Sl w 1 vo o.length (ss o)) (ha : Sl w 1 va a.length (ss a)) (hb : Sl w 1 vb b.length (ss b)) :
    Calls Tryd.prog 12 #[vo, va, vb] w (ChPost o a b w) := by
  have HM := Mx.hid (match_any vo va o a w ho ha)
  by_cases hbig : 200 < o.length ∨ 200 < a.length
  · have HP := Mx.hid (fun w' hs => ChPost.bad (o := o) (a := a) (b := b) (w := w) (w' := w') (by omega) hs)
    have HB := Mx.hid hbig
    clear hbig
    go_enter Tryd.func12, Tryd.ntmps12
    go_wp2_with fail
    refine HM.out.mono ?_
    rintro e w1 ⟨v, he, hs⟩
    have hE : mE o a = 14 := by unfold mE; rw [if_pos HB.out]
    rw [hE] at he
    subst he
    clear hE
    go_wp2_with fail
    go_ret2
    exact HP.out _ hs.bare
  · have HB := Mx.hid hbig
    have lo : o.length ≤ 200 := by omega
    have la : a.length ≤ 200 := by omega
    clear hbig
    by_cases hbig : 200 < b.length
    · have HP := Mx.hid (fun w' hs => ChPost.bad (o := o) (a := a) (b := b) (w := w) (w' := w') (by omega) hs)
      have HB2 := Mx.hid hbig
      clear hbig
      go_enter Tryd.func12, Tryd.ntmps12
      go_wp2_with fail
      refine HM.out.mono ?_
      rintro e w1 ⟨v, he, hs⟩
      have hE : mE o a = 0 := by unfold mE; rw [if_neg HB.out]
      rw [hE] at he
      subst he
      clear hE
      go_wp2_with fail
      refine (match_any vo vb o b _ (hs.old ho) (hs.old hb)).mono ?_
      rintro e w2 ⟨v2, he, hs2⟩
      have hE : mE o b = 14 := by unfold mE; rw [if_pos (.inr HB2.out)]
      rw [hE] at he
      subst he
      clear hE
      go_wp2_with fail
      go_ret2
      exact HP.out _ (hs.call hs2).bare
    · have lb : b.length ≤ 200 := by omega
      have HB2 : Hid (¬ (200 < o.length ∨ 200 < a.length ∨ 200 < b.length)) := by show ¬ _; omega
      clear hbig
      have HP1 : Hid (∀ p ∈ mpairs o a 0 0, p.1 < o.length) := fun p hp => (mpairs_mem o a 0 0 p hp).2.2.1
      have HP2 : Hid (∀ p ∈ mpairs o b 0 0, p.1 < o.length) := fun p hp => (mpairs_mem o b 0 0 p hp).2.2.1
      obtain ⟨o1, o2, _, _, rfl, _⟩ := ho.txt
      obtain ⟨a1, a2, _, _, rfl, _⟩ := ha.txt
      obtain ⟨b1, b2, _, _, rfl, _⟩ := hb.txt
      go_enter Tryd.func12, Tryd.ntmps12
      go_wp2_with fail
      refine HM.out.mono ?_
      rintro e w1 ⟨v1, he, hs1⟩
      have hE : mE o a = 0 := by unfold mE; rw [if_neg HB.out]
      have hP : mP o a = mpairs o a 0 0 := by unfold mP; rw [if_neg HB.out]
      rw [hE] at he
      rw [hP] at hs1
      subst he
      clear hE hP HM
      go_wp2_with fail
      refine (match_any _ _ o b _ (hs1.old ho) (hs1.old hb)).mono ?_
      rintro e w2 ⟨v2, he, hs2⟩
      have hE : mE o b = 0 := by unfold mE; rw [if_neg (by omega)]
      have hP : mP o b = mpairs o b 0 0 := by unfold mP; rw [if_neg (by omega)]
      rw [hE] at he
      rw [hP] at hs2
      subst he
      clear hE hP
      replace hs2 := hs1.call1 hs2
      clear hs1
      go_wp2_with ((with_reducible show wpList _ _ _ _ _ _); refine wpl_len rfl 22 9 _ rfl Tryd.underlying22 (by exact hs2.old ho) ?_)
      refine (places_any v1 o.length (mpairs o a 0 0) _ hs2.sl1 lo HP1.out).mono ?_
      rintro e w3 ⟨vX, rfl, hs3⟩
      replace hs3 := hs2.call1 hs3
      clear hs2
      go_wp2_with ((with_reducible show wpList _ _ _ _ _ _); refine wpl_len rfl 22 9 _ rfl Tryd.underlying22 (by exact hs3.old ho) ?_)
      refine (places_any v2 o.length (mpairs o b 0 0) _ hs3.sl1 lo HP2.out).mono ?_
      rintro e w4 ⟨vY, rfl, hs4⟩
      replace hs4 := hs3.call1 hs4
      clear hs3 HP1 HP2
      have HCK : Hid (chk o a b = cks o a b (pla o.length (mpairs o a 0 0)) (pla o.length (mpairs o b 0 0)) 0 0 0 0 []) := rfl
      have HFIT := Mx.hid (Fit.start o a b)
      obtain ⟨aX, cX, bX, oX, rfl, g1, g2, g3, hX⟩ := sl_ints' hs4.sl1
      obtain ⟨aY, cY, bY, oY, rfl, g4, g5, g6, hY⟩ := sl_ints' hs4.sl0
      rw [pla_len] at hX hY
      have HX := Mx.hid hX
      have HY := Mx.hid hY
      have HO := Mx.hid (hs4.old ho)
      have HA := Mx.hid (hs4.old ha)
      have HBB := Mx.hid (hs4.old hb)
      have HS4 := Mx.hid hs4.bare
      clear hX hY ho ha hb hs4 HB g3 g6
      generalize pla o.length (mpairs o a 0 0) = X at *
      generalize pla o.length (mpairs o b 0 0) = Y at *
      have hs5 := ((St.refl w4).addNil 42 4).madeAt #[.slice o1 o.length o2, .slice a1 a.length a2, .slice b1 b.length b2, .int .i64 0, .int .i64 0, .int .i64 0, .slice none 0 0] 54 7 1 w4.heap.size rfl (by simp [maxLen]) rfl
      go_wp2_with ((with_reducible show wpList _ _ _ _ _ _); refine wpl_len rfl 22 9 _ rfl Tryd.underlying22 (by exact hs5.old HO.out) ?_)
      have hop : Opn w4 (w4.alloc (.cells #[.slice o1 o.length o2, .slice a1 a.length a2, .slice b1 b.length b2, .int .i64 0, .int .i64 0, .int .i64 0, .slice none 0 0] 54)) w4.heap.size (.slice o1 o.length o2) (.slice a1 a.length a2) (.slice b1 b.length b2) 0 0 0 [] [] false := ⟨rfl, _, [], rfl, hs5⟩
      have HOP := Mx.hid hop
      clear hop hs5
      generalize w4.alloc (.cells #[.slice o1 o.length o2, .slice a1 a.length a2, .slice b1 b.length b2, .int .i64 0, .int .i64 0, .int .i64 0, .slice none 0 0] 54) = W5 at *
      generalize w4.heap.size = g at *
      go_loopw [14, 49] (fun x y wr => ∃ (t i j k : Nat) (cs : List Ck) (run : List ByteArray) (gr : Bool), t ≤ o.length ∧ cs.length ≤ 2 * t ∧ run.length ≤ t ∧ x = .bool gr ∧ y = .int .i64 t ∧ Hid (cs ++ cks o a b X Y t i j k run = chk o a b) ∧ Hid (Fit o a b X Y t i j k) ∧ Hid (Opn w4 wr g (.slice o1 o.length o2) (.slice a1 a.length a2) (.slice b1 b.length b2) i j k cs run gr)) (fun _ y _ => o.length - (intOf y).toNat)
      case atStart => exact ⟨0, 0, 0, 0, [], [], false, by omega, by simp, by simp, rfl, rfl, HCK.out.symm, HFIT.out, HOP.out⟩
      case round =>
        obtain ⟨t, i, j, k, cs, run, gr, ht, hcl, hrl, rfl, rfl, HE, HF, HP⟩ := hrel
        by_cases hlt : t < o.length
        · obtain ⟨rfl, cx⟩ := HX.out t hlt
          obtain ⟨rfl, cy⟩ := HY.out t hlt
          have CX := Mx.hid cx
          have CY := Mx.hid cy
          have hsz := HP.out.size
          replace cx := hsz.keep cx
          replace cy := hsz.keep cy
          clear hsz
          have htt : (t : Int) < (o.length : Int) := by omega
          by_cases hs : X.getD t 0 < 0 ∨ Y.getD t 0 < 0
          · have HE2 : Hid (cs ++ cks o a b X Y (t + 1) i j k run = chk o a b) := by have := HE.out; rw [cks_skip hlt hs] at this; exact this
            have HF2 := Mx.hid (HF.out.skip hlt)
            generalize X.getD t 0 = zx at *
            generalize Y.getD t 0 = zy at *
            have hs' : zx < 0 ∨ (0 ≤ zx ∧ zy < 0) := by omega
            clear hs
            rcases hs' with hs | ⟨hs, hs2⟩
            all_goals
              go_wp2_with (first | ((with_reducible show wpList _ _ _ _ _ _); refine wpl_want rfl ?_))
              go_roundw
              case rel => exact ⟨t + 1, i, j, k, cs, run, gr, hlt, by omega, by omega, rfl, by go_num, HE2.out, HF2.out, HP.out⟩
              case measure => simp [intOf]; omega
          · obtain ⟨x, y, ex, ey, hjx, hky, hxa, hyb⟩ := HF.out.at hlt (by omega) (by omega)
            have EX := Mx.hid ex
            have EY := Mx.hid ey
            rw [ex] at cx CX
            rw [ey] at cy CY
            have hit := HF.out.it
            clear hs ex ey
            by_cases hg : i < t ∨ j < x ∨ k < y
            · have HE2 : Hid (((cs ++ flu run) ++ gap (seg o i t) (seg a j x) (seg b k y)) ++ cks o a b X Y (t + 1) (t + 1) (x + 1) (y + 1) [o[t]] = chk o a b) := by
                show _ = _
                have := HE.out; rw [cks_gap hlt EX.out EY.out hg] at this; rw [← this]; simp
              have HF2 := Mx.hid (HF.out.take hlt EX.out EY.out)
              have hg' : decide (i < t) = true ∨ (decide (i < t) = false ∧ decide (j < x) = true) ∨ (decide (i < t) = false ∧ decide (j < x) = false ∧ decide (k < y) = true) := by
                rcases Nat.lt_or_ge i t with h | h
                · exact .inl (decide_eq_true h)
                · rcases Nat.lt_or_ge j x with h2 | h2
                  · exact .inr (.inl ⟨decide_eq_false (by omega), decide_eq_true h2⟩)
                  · exact .inr (.inr ⟨decide_eq_false (by omega), decide_eq_false (by omega), decide_eq_true (by omega)⟩)
              obtain ⟨v, vs, hvs, hst⟩ := HP.out.close
              have HVS := Mx.hid hvs
              have c3 : wr.cell? ⟨g, 3, none⟩ = some (.int .i64 (i : Int)) := hst.rcell (List.mem_cons_self ..) rfl
              have c4 : wr.cell? ⟨g, 4, none⟩ = some (.int .i64 (j : Int)) := hst.rcell (List.mem_cons_self ..) rfl
              have c5 : wr.cell? ⟨g, 5, none⟩ = some (.int .i64 (k : Int)) := hst.rcell (List.mem_cons_self ..) rfl
              have HLC : Hid ((cs ++ flu run).length ≤ 2 * t + 1) := by show _ ≤ _; rw [List.length_append]; have := flu_len run; omega
              have HIT := Mx.hid hit
              have HJX := Mx.hid hjx
              have HKY := Mx.hid hky
              clear hg hvs hit hjx hky
              rcases hg' with hg | ⟨hg, hg2⟩ | ⟨hg, hg2, hg3⟩
              all_goals
                go_wp2_with (first | ((with_reducible show wpList _ _ _ _ _ _); refine wpl_want rfl ?_))
                go_quiet (fail)
                go_wp2_with fail
                have cx2 := (hst.drewN nq).keep CX.out
                have cy2 := (hst.drewN nq).keep CY.out
                have hst2 := hst.drewN nq
                clear cx cy c3 c4 c5 hst
                generalize wr.drewN nq = wq at cx2 cy2 hst2 ⊢
                go_still_tail 10, (by kernel_rfl)
                change wpList _ _ _ _ _ wq.drew
                replace hst2 := hst2.drew
                generalize wq.drew = wp at hst2 ⊢
                go_wp2_with fail
                refine (to_any w4 _ g _ _ _ v o a b i j k t x y vs (cs ++ flu run) (hst2) HVS.out HO.out HA.out HBB.out HIT.out HJX.out HKY.out (Nat.le_of_lt hlt) (Nat.le_of_lt hxa) (Nat.le_of_lt hyb) lo la lb (by have := HLC.out; omega)).mono ?_
                rintro e w6 ⟨v6, vs6, rfl, hvs6, hst6⟩
                have HVS6 := Mx.hid hvs6
                have HLC6 : Hid (((cs ++ flu run) ++ gap (seg o i t) (seg a j x) (seg b k y)).length ≤ 2 * t + 2) := by show _ ≤ _; rw [List.length_append]; have := HLC.out; have := gap_len (seg o i t) (seg a j x) (seg b k y); omega
                clear hvs6 hst2 cx2 cy2
                generalize (cs ++ flu run) ++ gap (seg o i t) (seg a j x) (seg b k y) = cs6 at hst6 HVS6 HLC6 HE2
                go_wp2_with fail
                refine (stable_new w4 _ g _ _ _ v6 o t x y vs6 cs6 hst6 HVS6.out HO.out hlt lo (by omega) (by omega) (by have := HLC6.out; omega)).mono ?_
                rintro e w7 ⟨v7, vs7, xO, xA, xB, rfl, hvs7, hst7⟩
                go_wp2_with fail
                go_roundw
                case rel => exact ⟨t + 1, t + 1, x + 1, y + 1, cs6, [o[t]], true, hlt, by have := HLC6.out; omega, by simp, rfl, by go_num, HE2.out, HF2.out, by simp, v7, vs7, xO, xA, xB, hvs7, hst7⟩
                case measure => simp [intOf]; omega
            · have HE2 : Hid (cs ++ cks o a b X Y (t + 1) (i + 1) (j + 1) (k + 1) (run ++ [o[t]]) = chk o a b) := by
                have := HE.out; rw [cks_run hlt EX.out EY.out hg] at this; exact this
              have HF2 := Mx.hid (HF.out.take hlt EX.out EY.out)
              obtain rfl : t = i := by omega
              obtain rfl : x = j := by omega
              obtain rfl : y = k := by omega
              clear hg
              cases gr with
              | false =>
                obtain ⟨hr, v, vs, hvs, hst⟩ := HP.out
                subst hr
                have HVS := Mx.hid hvs
                have c3 : wr.cell? ⟨g, 3, none⟩ = some (.int .i64 (t : Int)) := hst.rcell (List.mem_cons_self ..) rfl
                have c4 : wr.cell? ⟨g, 4, none⟩ = some (.int .i64 (x : Int)) := hst.rcell (List.mem_cons_self ..) rfl
                have c5 : wr.cell? ⟨g, 5, none⟩ = some (.int .i64 (y : Int)) := hst.rcell (List.mem_cons_self ..) rfl
                clear hvs
                go_wp2_with (first | ((with_reducible show wpList _ _ _ _ _ _); refine wpl_want rfl ?_))
                go_quiet (fail)
                go_wp2_with fail
                refine (stable_new w4 _ g _ _ _ v o t x y vs cs (hst.drewN nq) HVS.out HO.out hlt lo (by omega) (by omega) (by omega)).mono ?_
                rintro e w7 ⟨v7, vs7, xO, xA, xB, rfl, hvs7, hst7⟩
                go_wp2_with fail
                go_roundw
                case rel => exact ⟨t + 1, t + 1, x + 1, y + 1, cs, [o[t]], true, hlt, by omega, by simp, rfl, by go_num, HE2.out, HF2.out, by simp, v7, vs7, xO, xA, xB, hvs7, hst7⟩
                case measure => simp [intOf]; omega
              | true =>
                obtain ⟨hr, v, vs, xO, xA, xB, hvs, hst⟩ := HP.out
                have HVS := Mx.hid hvs
                have c3 : wr.cell? ⟨g, 3, none⟩ = some (.int .i64 (t : Int)) := hst.rcell (List.mem_cons_self ..) rfl
                have c4 : wr.cell? ⟨g, 4, none⟩ = some (.int .i64 (x : Int)) := hst.rcell (List.mem_cons_self ..) rfl
                have c5 : wr.cell? ⟨g, 5, none⟩ = some (.int .i64 (y : Int)) := hst.rcell (List.mem_cons_self ..) rfl
                clear hvs hr
                go_wp2_with (first | ((with_reducible show wpList _ _ _ _ _ _); refine wpl_want rfl ?_))
                go_quiet (fail)
                go_wp2_with fail
                refine (stable_grow w4 _ g _ _ _ v o t x y vs cs run xO xA xB (hst.drewN nq) HVS.out HO.out hlt lo (by omega) (by omega) (by omega) (by omega)).mono ?_
                rintro e w7 ⟨v7, vs7, yO, yA, yB, rfl, hvs7, hst7⟩
                go_wp2_with fail
                go_roundw
                case rel => exact ⟨t + 1, t + 1, x + 1, y + 1, cs, run ++ [o[t]], true, hlt, by omega, by simp; omega, rfl, by go_num, HE2.out, HF2.out, by simp, v7, vs7, yO, yA, yB, hvs7, hst7⟩
                case measure => simp [intOf]; omega
        · have hteq : t = o.length := by omega
          subst hteq
          have hfit := HF.out
          have i1 := hfit.it
          have i2 := hfit.ja
          have i3 := hfit.kb
          have HE2 : Hid ((cs ++ flu run) ++ gap (seg o i o.length) (seg a j a.length) (seg b k b.length) = chk o a b) := by
            show _ = _
            have := HE.out; rw [cks_end (Nat.le_refl _)] at this; rw [← this]; simp
          obtain ⟨v, vs, hvs, hst⟩ := HP.out.close
          have HVS := Mx.hid hvs
          have HLC : Hid ((cs ++ flu run).length ≤ 2 * o.length + 1) := by show _ ≤ _; rw [List.length_append]; have := flu_len run; omega
          clear hvs hfit
          go_wp2_with (first | ((with_reducible show wpList _ _ _ _ _ _); refine wpl_len rfl 22 9 _ rfl Tryd.underlying22 (by exact hst.old HO.out) ?_) | ((with_reducible show wpList _ _ _ _ _ _); refine wpl_len rfl 22 9 _ rfl Tryd.underlying22 (by exact hst.old HA.out) ?_) | ((with_reducible show wpList _ _ _ _ _ _); refine wpl_len rfl 22 9 _ rfl Tryd.underlying22 (by exact hst.old HBB.out) ?_))
          refine (to_any w4 _ g _ _ _ v o a b i j k o.length a.length b.length vs (cs ++ flu run) hst HVS.out HO.out HA.out HBB.out i1 i2 i3 (Nat.le_refl _) (Nat.le_refl _) (Nat.le_refl _) lo la lb (by have := HLC.out; omega)).mono ?_
          rintro e w6 ⟨v6, vs6, rfl, hvs6, hst6⟩
          rw [HE2.out] at hvs6 hst6
          have c6 : w6.cell? ⟨g, 6, none⟩ = some v6 := hst6.rcell (List.mem_cons_self ..) rfl
          have HPG := Mx.hid (ChPost.good HB2.out HS4.out hst6.bare.noQ (CK.ofSt hst6.swap (fun q h => h) hvs6))
          clear hvs6 hst6 hst
          go_wp2_with fail
          go_ret2
          exact HPG.out
end Go.Proofs.YtafmgclhgmhflaaDoor
