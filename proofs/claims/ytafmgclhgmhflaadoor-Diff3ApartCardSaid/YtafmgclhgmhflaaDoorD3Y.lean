/- Walk of the document's Chunks. -/
import Derived.Test.YtafmgclhgmhflaaDoorD3X0
import Derived.Deep.DeepCutAuto
import Derived.Deep.CutBlock
namespace Go.Mx
open Go Go.RowKit
theorem cks_doneY (o a b : Tx) (X Y : List Int) : cks o a b X Y o.length o.length a.length b.length [] = [] := by
  have h : ∀ l : Tx, seg l l.length l.length = [] := fun l => by simp [seg]
  rw [cks_end (Nat.le_refl _), h, h, h]; rfl
/-- The document's last step: what is left of all three. -/
theorem cks_step3Y {o a b : Tx} {X Y : List Int} {i j k : Nat} (hf : Fit o a b X Y i i j k) (hs : ∀ r, i ≤ r → r < o.length → X.getD r 0 < 0 ∨ Y.getD r 0 < 0) (hg : i < o.length ∨ j < a.length ∨ k < b.length) :
    cks o a b X Y i i j k [] = ⟨kin (seg o i o.length) (seg a j a.length) (seg b k b.length), seg o i o.length, seg a j a.length, seg b k b.length⟩ :: cks o a b X Y o.length o.length a.length b.length [] ∧ Fit o a b X Y o.length o.length a.length b.length := by
  have h1 := hf.to
  have h2 := hf.ja
  have h3 := hf.kb
  refine ⟨?_, ⟨hf.xl, hf.yl, hf.xu, hf.yu, Nat.le_refl _, Nat.le_refl _, Nat.le_refl _, Nat.le_refl _, fun r v hr hv _ => ?_, fun r v hr hv _ => ?_⟩⟩
  · rw [cks_skips [] i j k o.length (o.length - i) i (by omega) (Nat.le_refl _) hs, cks_doneY, cks_end (Nat.le_refl _), gap, if_neg (by rw [seg_len' (Nat.le_refl _), seg_len' (Nat.le_refl _), seg_len' (Nat.le_refl _)]; omega)]
    rfl
  · have := (List.getElem?_eq_some_iff.1 hv).1; rw [hf.xl] at this; omega
  · have := (List.getElem?_eq_some_iff.1 hv).1; rw [hf.yl] at this; omega
end Go.Mx
namespace Go.Proofs.YtafmgclhgmhflaaDoor
open Go.RowKit Go.Mx

theorem Tryd.elRChunk : El Tryd.prog 30 61 4 80 := El.mk' Tryd.underlying30 (z := .agg #[.int .i64 0, .slice none 0 0, .slice none 0 0, .slice none 0 0]) (by kernel_rfl) rfl (by omega)
theorem Tryd.aRChunk : Ag Tryd.prog 61 4 := ⟨⟨_, Tryd.underlying61, rfl⟩, by kernel_rfl⟩
abbrev rkr (v : Value) (vs : List V3) (cs : List Ck) : Row := ⟨v, 61, 4, cs.length, ckc vs cs⟩

set_option maxRecDepth 100000 in
set_option maxHeartbeats 8000000 in
theorem refChunks_any (vo va vb : Value) (o a b : List ByteArray) (w : World) (ho : Sl w 1 vo o.length (ss o)) (ha : Sl w 1 va a.length (ss a)) (hb : Sl w 1 vb b.length (ss b)) :
    Calls Tryd.prog 13 #[vo, va, vb] w (ChPost o a b w) := by
  have HM := Mx.hid (refMatch_any vo va o a w ho ha)
  by_cases hbig : 200 < o.length ∨ 200 < a.length
  · have HP := Mx.hid (fun w' hs => ChPost.bad (o := o) (a := a) (b := b) (w := w) (w' := w') (by omega) hs)
    have HB := Mx.hid hbig
    clear hbig
    go_enter Tryd.func13, Tryd.ntmps13
    go_wp2_with fail
    refine HM.out.mono ?_
    rintro e w1 ⟨v, he, hs⟩
    have hE : mE o a = 14 := by unfold mE; rw [if_pos HB.out]
    rw [hE] at he
    subst he
    clear hE
    go_wp2_with fail
    go_ret2
    exact HP.out _ hs.bare
  · have HB := Mx.hid hbig
    have lo : o.length ≤ 200 := by omega
    have la : a.length ≤ 200 := by omega
    clear hbig
    by_cases hbig : 200 < b.length
    · have HP := Mx.hid (fun w' hs => ChPost.bad (o := o) (a := a) (b := b) (w := w) (w' := w') (by omega) hs)
      have HB2 := Mx.hid hbig
      clear hbig
      go_enter Tryd.func13, Tryd.ntmps13
      go_wp2_with fail
      refine HM.out.mono ?_
      rintro e w1 ⟨v, he, hs⟩
      have hE : mE o a = 0 := by unfold mE; rw [if_neg HB.out]
      rw [hE] at he
      subst he
      clear hE
      go_wp2_with fail
      refine (refMatch_any vo vb o b _ (hs.old ho) (hs.old hb)).mono ?_
      rintro e w2 ⟨v2, he, hs2⟩
      have hE : mE o b = 14 := by unfold mE; rw [if_pos (.inr HB2.out)]
      rw [hE] at he
      subst he
      clear hE
      go_wp2_with fail
      go_ret2
      exact HP.out _ (hs.call hs2).bare
    · have lb : b.length ≤ 200 := by omega
      have HB2 : Hid (¬ (200 < o.length ∨ 200 < a.length ∨ 200 < b.length)) := by show ¬ _; omega
      clear hbig
      have HP1 : Hid (∀ p ∈ mpairs o a 0 0, p.1 < o.length) := fun p hp => (mpairs_mem o a 0 0 p hp).2.2.1
      have HP2 : Hid (∀ p ∈ mpairs o b 0 0, p.1 < o.length) := fun p hp => (mpairs_mem o b 0 0 p hp).2.2.1
      obtain ⟨o1, o2, _, _, rfl, _⟩ := ho.txt
      obtain ⟨a1, a2, _, _, rfl, _⟩ := ha.txt
      obtain ⟨b1, b2, _, _, rfl, _⟩ := hb.txt
      go_enter Tryd.func13, Tryd.ntmps13
      go_wp2_with fail
      refine HM.out.mono ?_
      rintro e w1 ⟨v1, he, hs1⟩
      have hE : mE o a = 0 := by unfold mE; rw [if_neg HB.out]
      have hP : mP o a = mpairs o a 0 0 := by unfold mP; rw [if_neg HB.out]
      rw [hE] at he
      rw [hP] at hs1
      subst he
      clear hE hP HM
      go_wp2_with fail
      refine (refMatch_any _ _ o b _ (hs1.old ho) (hs1.old hb)).mono ?_
      rintro e w2 ⟨v2, he, hs2⟩
      have hE : mE o b = 0 := by unfold mE; rw [if_neg (by omega)]
      have hP : mP o b = mpairs o b 0 0 := by unfold mP; rw [if_neg (by omega)]
      rw [hE] at he
      rw [hP] at hs2
      subst he
      clear hE hP
      replace hs2 := hs1.call1 hs2
      clear hs1
      go_wp2_with ((with_reducible show wpList _ _ _ _ _ _); refine wpl_len rfl 22 9 _ rfl Tryd.underlying22 (by exact hs2.old ho) ?_)
      refine (refTo_any v1 o.length (mpairs o a 0 0) _ hs2.sl1 lo HP1.out).mono ?_
      rintro e w3 ⟨vX, rfl, hs3⟩
      replace hs3 := hs2.call1 hs3
      clear hs2
      go_wp2_with ((with_reducible show wpList _ _ _ _ _ _); refine wpl_len rfl 22 9 _ rfl Tryd.underlying22 (by exact hs3.old ho) ?_)
      refine (refTo_any v2 o.length (mpairs o b 0 0) _ hs3.sl1 lo HP2.out).mono ?_
      rintro e w4 ⟨vY, rfl, hs4⟩
      replace hs4 := hs3.call1 hs4
      clear hs3 HP1 HP2
      have HCK : Hid (chk o a b = cks o a b (pla o.length (mpairs o a 0 0)) (pla o.length (mpairs o b 0 0)) 0 0 0 0 []) := rfl
      have HFIT := Mx.hid (Fit.start o a b)
      obtain ⟨aX, cX, bX, oX, rfl, g1, g2, g3, hX⟩ := sl_ints' hs4.sl1
      obtain ⟨aY, cY, bY, oY, rfl, g4, g5, g6, hY⟩ := sl_ints' hs4.sl0
      rw [pla_len] at hX hY
      have HX := Mx.hid hX
      have HY := Mx.hid hY
      have HO := Mx.hid (hs4.old ho)
      have HA := Mx.hid (hs4.old ha)
      have HBB := Mx.hid (hs4.old hb)
      have HS4 := Mx.hid hs4.bare
      clear hX hY ho ha hb hs4 HB g3 g6
      generalize pla o.length (mpairs o a 0 0) = X at *
      generalize pla o.length (mpairs o b 0 0) = Y at *
      have hs5 : St w4 w4 [rkr (.slice none 0 0) [] []] [] := (St.refl w4).addNil _ 4
      go_wp2_with fail
      go_loopw [13, 14, 15, 16] (fun x13 x14 x15 x16 wr => ∃ (i j k : Nat) (cs : List Ck) (vs : List V3), x14 = .int .i64 i ∧ x15 = .int .i64 j ∧ x16 = .int .i64 k ∧ i ≤ o.length ∧ j ≤ a.length ∧ k ≤ b.length ∧ cs.length ≤ i + j + k ∧ Hid (cs ++ cks o a b X Y i i j k [] = chk o a b) ∧ Hid (Fit o a b X Y i i j k) ∧ Hid (vs.length = cs.length) ∧ St w4 wr [rkr x13 vs cs] (rdc vs cs)) (fun _ i j k _ => o.length + a.length + b.length - ((intOf i).toNat + (intOf j).toNat + (intOf k).toNat))
      case atStart => exact ⟨0, 0, 0, [], [], rfl, rfl, rfl, by omega, by omega, by omega, by simp, HCK.out.symm, HFIT.out, rfl, hs5⟩
      case round =>
        clear hs5
        obtain ⟨i, j, k, cs, vs, rfl, rfl, rfl, hi, hj, hk, hcl, HE, HF, HVS, hst⟩ := hrel
        obtain ⟨wq, rfl⟩ : ∃ wq : World, wq = wr := ⟨_, rfl⟩
        go_upto_region 10 with fail
        go_cut [64] (fun c wx => c = .bool (decide (i < o.length ∨ j < a.length ∨ k < b.length)) ∧ wx = wq)
        case first =>
          as_aux_lemma =>
            by_cases h1 : i < o.length
            · go_wp2_with (first | ((with_reducible show wpList _ _ _ _ _ _); refine wpl_want rfl ?_))
              go_meet
              exact ⟨congrArg Value.bool (decide_eq_true (.inl h1)).symm, rfl⟩
            · by_cases h2 : j < a.length
              · go_wp2_with (first | ((with_reducible show wpList _ _ _ _ _ _); refine wpl_want rfl ?_))
                go_meet
                exact ⟨congrArg Value.bool (decide_eq_true (.inr (.inl h2))).symm, rfl⟩
              · by_cases h3 : k < b.length
                · go_wp2_with (first | ((with_reducible show wpList _ _ _ _ _ _); refine wpl_want rfl ?_))
                  go_meet
                  exact ⟨congrArg Value.bool (decide_eq_true (.inr (.inr h3))).symm, rfl⟩
                · go_wp2_with (first | ((with_reducible show wpList _ _ _ _ _ _); refine wpl_want rfl ?_))
                  go_meet
                  exact ⟨congrArg Value.bool (decide_eq_false (by omega)).symm, rfl⟩
        case rest =>
          obtain ⟨rfl, rfl⟩ := hcut
          by_cases hgo : i < o.length ∨ j < a.length ∨ k < b.length
          · have hgd : decide (i < o.length ∨ j < a.length ∨ k < b.length) = true := decide_eq_true hgo
            rw [hgd]
            have HGO := Mx.hid hgo
            clear hgo hgd
            go_upto_block 2 with fail
            go_cut [17] (fun c wx => ∃ n : Nat, c = .int .i64 n ∧ i + n ≤ o.length ∧ Hid (∀ r, r < n → X.getD (i + r) 0 = ((j + r : Nat) : Int) ∧ Y.getD (i + r) 0 = ((k + r : Nat) : Int)) ∧ Hid (i + n < o.length → ¬ (X.getD (i + n) 0 = ((j + n : Nat) : Int) ∧ Y.getD (i + n) 0 = ((k + n : Nat) : Int))) ∧ wx = wc)
            case first =>
              as_aux_lemma =>
                go_wp2_with fail
                go_loop [17] (fun c => ∃ n : Nat, c = .int .i64 n ∧ i + n ≤ o.length ∧ Hid (∀ r, r < n → X.getD (i + r) 0 = ((j + r : Nat) : Int) ∧ Y.getD (i + r) 0 = ((k + r : Nat) : Int))) (fun c => o.length - (intOf c).toNat)
                case atStart => exact ⟨0, rfl, by omega, fun r hr => absurd hr (by omega)⟩
                case round =>
                  obtain ⟨n, rfl, hn, HN⟩ := hrel
                  by_cases h1 : i + n < o.length
                  · obtain ⟨rfl, cx⟩ := HX.out (i + n) h1
                    obtain ⟨rfl, cy⟩ := HY.out (i + n) h1
                    replace cx := hst.keep cx
                    replace cy := hst.keep cy
                    have HXD : Hid (X.getD (i + n) 0 = X.getD (i + n) 0) := rfl
                    obtain ⟨zx, hzx⟩ : ∃ z, z = X.getD (i + n) 0 := ⟨_, rfl⟩
                    obtain ⟨zy, hzy⟩ : ∃ z, z = Y.getD (i + n) 0 := ⟨_, rfl⟩
                    rw [← hzx] at cx
                    rw [← hzy] at cy
                    have HZX := Mx.hid hzx
                    have HZY := Mx.hid hzy
                    clear hzx hzy HXD
                    by_cases h2 : zx = ((j + n : Nat) : Int)
                    · by_cases h3 : zy = ((k + n : Nat) : Int)
                      · have t2 : (zx == (j : Int) + (n : Int)) = true := by rw [beq_iff_eq]; omega
                        have t3 : (zy == (k : Int) + (n : Int)) = true := by rw [beq_iff_eq]; omega
                        have HN2 : Hid (∀ r, r < n + 1 → X.getD (i + r) 0 = ((j + r : Nat) : Int) ∧ Y.getD (i + r) 0 = ((k + r : Nat) : Int)) := fun r hr => by
                          rcases Nat.lt_or_ge r n with h | h
                          · exact HN.out r h
                          · obtain rfl : r = n := by omega
                            exact ⟨by rw [← HZX.out]; exact h2, by rw [← HZY.out]; exact h3⟩
                        clear h2 h3
                        go_wp2_with (first | ((with_reducible show wpList _ _ _ _ _ _); refine wpl_want rfl ?_))
                        go_round
                        case rel => exact ⟨n + 1, by go_num, by omega, HN2.out⟩
                        case measure => simp [intOf]; omega
                      · have t2 : (zx == (j : Int) + (n : Int)) = true := by rw [beq_iff_eq]; omega
                        have t3 : (zy == (k : Int) + (n : Int)) = false := by rw [beq_eq_false_iff_ne]; omega
                        have HS : Hid (i + n < o.length → ¬ (X.getD (i + n) 0 = ((j + n : Nat) : Int) ∧ Y.getD (i + n) 0 = ((k + n : Nat) : Int))) := fun _ h => h3 (by rw [HZY.out]; exact h.2)
                        clear h2 h3
                        go_wp2_with (first | ((with_reducible show wpList _ _ _ _ _ _); refine wpl_want rfl ?_))
                        go_meet
                        exact ⟨n, rfl, hn, HN.out, HS.out, rfl⟩
                    · have t2 : (zx == (j : Int) + (n : Int)) = false := by rw [beq_eq_false_iff_ne]; omega
                      have HS : Hid (i + n < o.length → ¬ (X.getD (i + n) 0 = ((j + n : Nat) : Int) ∧ Y.getD (i + n) 0 = ((k + n : Nat) : Int))) := fun _ h => h2 (by rw [HZX.out]; exact h.1)
                      clear h2
                      go_wp2_with (first | ((with_reducible show wpList _ _ _ _ _ _); refine wpl_want rfl ?_))
                      go_meet
                      exact ⟨n, rfl, hn, HN.out, HS.out, rfl⟩
                  · have HS : Hid (i + n < o.length → ¬ (X.getD (i + n) 0 = ((j + n : Nat) : Int) ∧ Y.getD (i + n) 0 = ((k + n : Nat) : Int))) := fun h => absurd h h1
                    go_wp2_with (first | ((with_reducible show wpList _ _ _ _ _ _); refine wpl_want rfl ?_))
                    go_meet
                    exact ⟨n, rfl, hn, HN.out, HS.out, rfl⟩
            case rest =>
              obtain ⟨n, rfl, hn, HN, HS, rfl⟩ := hcut
              obtain ⟨wz, rfl⟩ : ∃ wz : World, wz = wc := ⟨_, rfl⟩
              by_cases hn0 : 0 < n
              · obtain ⟨g7, g8⟩ := cks_step1 HF.out hn0 hn HN.out HS.out
                have HE2 : Hid ((cs ++ [⟨1, seg o i (i + n), seg o i (i + n), seg o i (i + n)⟩]) ++ cks o a b X Y (i + n) (i + n) (j + n) (k + n) [] = chk o a b) := by show _ = _; rw [← HE.out, g7]; simp
                have HF2 := Mx.hid g8
                have hja := g8.ja
                have hkb := g8.kb
                obtain ⟨xS, p1, q1⟩ := HO.out.cutRun Tryd.elStr (some (.int .i64 (i : Int))) (some (.int .i64 ((i + n : Nat) : Int))) i (i + n) (.inr ⟨.i64, rfl⟩) (.inr ⟨.i64, rfl⟩) (by omega) hn
                simp only [Int.natCast_add] at p1
                have HS3 : Hid (Sl w4 1 xS (seg o i (i + n)).length (ss (seg o i (i + n)))) := Sl.cutS (q1 _ HO.out) hn (by omega)
                have hls : (seg o i (i + n)).length ≤ 200 := by rw [seg_len' hn]; omega
                clear g7 g8 q1 HN HS
                generalize seg o i (i + n) = LS at HE2 HS3 hls
                go_wp2_with fail
                refine (copyTexts_any xS LS _ (hst.old HS3.out) (by omega)).mono ?_
                rintro e wA ⟨v, rfl, hA⟩
                obtain ⟨sO, cO, rfl, _⟩ := hA.sl0
                have h6 := (hst.call1 hA).freeze
                go_wp2_with fail
                refine (copyTexts_any xS LS _ (h6.old HS3.out) (by omega)).mono ?_
                rintro e wB ⟨v, rfl, hB⟩
                obtain ⟨sA, cA, rfl, _⟩ := hB.sl0
                have h7 := (h6.call1 hB).freeze
                go_wp2_with fail
                refine (copyTexts_any xS LS _ (h7.old HS3.out) (by omega)).mono ?_
                rintro e wC ⟨v, rfl, hC⟩
                obtain ⟨sB, cB, rfl, _⟩ := hC.sl0
                have h8 := (h7.call1 hC).freeze
                clear hA hB hC h6 h7
                go_wp2_with (at_builtin; refine wpl_app rfl _ _ 30 rfl Tryd.elRChunk (h8.alloc _) rfl (by exact ((St.refl _).made #[.int .i64 1, .slice sO LS.length cO, .slice sA LS.length cA, .slice sB LS.length cB] 61 4 1 rfl (by simp [maxLen])).sl0) (by intro u hu; simp at hu; rcases hu with rfl | rfl | rfl | rfl <;> rfl) (by omega) ?_; intro v9 w9 hs9 _)
                obtain ⟨hq, hq'⟩ := St.pushC ⟨1, LS, LS, LS⟩ hs9 (fun q h => h) HVS.out
                go_roundw
                case rel => exact ⟨i + n, j + n, k + n, _, _, by go_num, by go_num, by go_num, hn, hja, hkb, by simp; omega, HE2.out, HF2.out, hq', hq⟩
                case measure => simp [intOf]; omega
              · obtain rfl : n = 0 := by omega
                have HS0 := HS.out
                simp only [Nat.add_zero] at HS0
                have HSS := Mx.hid HS0
                clear HN HS hn0 HS0
                go_upto_block 4 with fail
                go_cut [19] (fun c wx => ∃ m : Nat, c = .int .i64 m ∧ i ≤ m ∧ m ≤ o.length ∧ Hid (∀ r, i ≤ r → r < m → X.getD r 0 < 0 ∨ Y.getD r 0 < 0) ∧ Hid (m < o.length → 0 ≤ X.getD m 0 ∧ 0 ≤ Y.getD m 0) ∧ wx = wz)
                case first =>
                  as_aux_lemma =>
                    go_wp2_with fail
                    go_loop [19] (fun c => ∃ m : Nat, c = .int .i64 m ∧ i ≤ m ∧ m ≤ o.length ∧ Hid (∀ r, i ≤ r → r < m → X.getD r 0 < 0 ∨ Y.getD r 0 < 0)) (fun c => o.length - (intOf c).toNat)
                    case atStart => exact ⟨i, rfl, by omega, by omega, fun r h1 h2 => absurd h1 (by omega)⟩
                    case round =>
                      obtain ⟨m, rfl, him, hmo, HM⟩ := hrel
                      by_cases h1 : m < o.length
                      · obtain ⟨rfl, cx⟩ := HX.out m h1
                        obtain ⟨rfl, cy⟩ := HY.out m h1
                        replace cx := hst.keep cx
                        replace cy := hst.keep cy
                        obtain ⟨zx, hzx⟩ : ∃ z, z = X.getD m 0 := ⟨_, rfl⟩
                        obtain ⟨zy, hzy⟩ : ∃ z, z = Y.getD m 0 := ⟨_, rfl⟩
                        rw [← hzx] at cx
                        rw [← hzy] at cy
                        by_cases h2 : zx < 0 ∨ zy < 0
                        · have HM2 : Hid (∀ r, i ≤ r → r < m + 1 → X.getD r 0 < 0 ∨ Y.getD r 0 < 0) := fun r h3 h4 => by
                            rcases Nat.lt_or_ge r m with h | h
                            · exact HM.out r h3 h
                            · obtain rfl : r = m := by omega
                              rw [← hzx, ← hzy]; exact h2
                          have h2' : zx < 0 ∨ (0 ≤ zx ∧ zy < 0) := by omega
                          clear h2 hzx hzy
                          rcases h2' with h2 | ⟨h2, h3⟩
                          all_goals
                            go_wp2_with (first | ((with_reducible show wpList _ _ _ _ _ _); refine wpl_want rfl ?_))
                            go_round
                            case rel => exact ⟨m + 1, by go_num, by omega, by omega, HM2.out⟩
                            case measure => simp [intOf]; omega
                        · have h3 : 0 ≤ zx := by omega
                          have h4 : 0 ≤ zy := by omega
                          have HS2 : Hid (m < o.length → 0 ≤ X.getD m 0 ∧ 0 ≤ Y.getD m 0) := fun _ => by rw [← hzx, ← hzy]; exact ⟨h3, h4⟩
                          clear h2 hzx hzy
                          go_wp2_with (first | ((with_reducible show wpList _ _ _ _ _ _); refine wpl_want rfl ?_))
                          go_meet
                          exact ⟨m, rfl, him, hmo, HM.out, HS2.out, rfl⟩
                      · have HS2 : Hid (m < o.length → 0 ≤ X.getD m 0 ∧ 0 ≤ Y.getD m 0) := fun h => absurd h h1
                        go_wp2_with (first | ((with_reducible show wpList _ _ _ _ _ _); refine wpl_want rfl ?_))
                        go_meet
                        exact ⟨m, rfl, him, hmo, HM.out, HS2.out, rfl⟩
                case rest =>
                  obtain ⟨m, rfl, him, hmo, HM, HS2, rfl⟩ := hcut
                  obtain ⟨wz, rfl⟩ : ∃ wz : World, wz = wc := ⟨_, rfl⟩
                  go_upto_if 152 with fail
                  go_cut [20, 21] (fun u v wx => ∃ x y : Nat, u = .int .i64 x ∧ v = .int .i64 y ∧ j ≤ x ∧ k ≤ y ∧ x ≤ a.length ∧ y ≤ b.length ∧ Hid (i + j + k < m + x + y) ∧ Hid ((cs ++ [⟨kin (seg o i m) (seg a j x) (seg b k y), seg o i m, seg a j x, seg b k y⟩]) ++ cks o a b X Y m m x y [] = chk o a b) ∧ Hid (Fit o a b X Y m m x y) ∧ ∃ nq, wx = wz.drewN nq)
                  case first =>
                    as_aux_lemma =>
                      by_cases hm : m < o.length
                      · obtain ⟨s1, s2⟩ := HS2.out hm
                        have e1 := getD_some (X := X) (t := m) (by rw [HF.out.xl]; exact hm)
                        have e2 := getD_some (X := Y) (t := m) (by rw [HF.out.yl]; exact hm)
                        have ex : X.getD m 0 = ((X.getD m 0).toNat : Int) := by omega
                        have ey : Y.getD m 0 = ((Y.getD m 0).toNat : Int) := by omega
                        have jx := HF.out.xj m _ him e1 s1
                        have ky := HF.out.yk m _ him e2 s2
                        have hg : i < m ∨ j < (X.getD m 0).toNat ∨ k < (Y.getD m 0).toNat := by
                          rcases Nat.lt_or_ge i m with h | h
                          · exact .inl h
                          · have him' : i = m := by omega
                            have h5 := HSS.out (by omega)
                            rw [him'] at h5
                            omega
                        obtain ⟨g7, g8⟩ := cks_step2 HF.out him hm HM.out ex ey hg
                        obtain ⟨rfl, cx⟩ := HX.out m hm
                        obtain ⟨rfl, cy⟩ := HY.out m hm
                        replace cx := hst.keep cx
                        replace cy := hst.keep cy
                        rw [ex] at cx
                        rw [ey] at cy
                        have hjx : j ≤ (X.getD m 0).toNat := by omega
                        have hky : k ≤ (Y.getD m 0).toNat := by omega
                        clear e1 e2 ex ey jx ky s1 s2
                        generalize (X.getD m 0).toNat = x at cx hjx hg g7 g8
                        generalize (Y.getD m 0).toNat = y at cy hky hg g7 g8
                        have HE2 : Hid ((cs ++ [⟨kin (seg o i m) (seg a j x) (seg b k y), seg o i m, seg a j x, seg b k y⟩]) ++ cks o a b X Y m m x y [] = chk o a b) := by show _ = _; rw [← HE.out, g7]; simp
                        have HF2 := Mx.hid g8
                        have hxa := g8.ja
                        have hyb := g8.kb
                        have HLN : Hid (i + j + k < m + x + y) := by show _ < _; omega
                        clear g7 g8 hg
                        go_wp2_with fail
                        go_quiet (fail)
                        go_wp2_with fail
                        go_meet
                        exact ⟨x, y, rfl, rfl, hjx, hky, hxa, hyb, HLN.out, HE2.out, HF2.out, nq, rfl⟩
                      · have hmm : m = o.length := by omega
                        subst hmm
                        obtain ⟨g7, g8⟩   := cks_step3Y HF.out HM.out HGO.out
                        have HE2 : Hid ((cs ++ [⟨kin (seg o i o.length) (seg a j a.length) (seg b k b.length), seg o i o.length, seg a j a.length, seg b k b.length⟩]) ++ cks o a b X Y o.length o.length a.length b.length [] = chk o a b) := by show _ = _; rw [← HE.out, g7]; simp
                        have HF2 := Mx.hid g8
                        have hjx := hj
                        have hky := hk
                        have hxa := g8.ja
                        have hyb := g8.kb
                        have HLN : Hid (i + j + k < o.length + a.length + b.length) := by show _ < _; have := HGO.out; omega
                        clear g7 g8
                        go_wp2_with fail
                        go_meet
                        exact ⟨a.length, b.length, rfl, rfl, hjx, hky, hxa, hyb, HLN.out, HE2.out, HF2.out, 0, rfl⟩
                  case rest =>
                    obtain ⟨x, y, rfl, rfl, hjx, hky, hxa, hyb, HLN, HE2, HF2, nq, rfl⟩ := hcut
                    replace hst := hst.drewN nq
                    generalize wz.drewN nq = wy at hst ⊢
                    obtain ⟨xO, p1, q1⟩ := HO.out.cutRun Tryd.elStr (some (.int .i64 (i : Int))) (some (.int .i64 (m : Int))) i m (.inr ⟨.i64, rfl⟩) (.inr ⟨.i64, rfl⟩) him hmo
                    obtain ⟨xA, p2, q2⟩ := HA.out.cutRun Tryd.elStr (some (.int .i64 (j : Int))) (some (.int .i64 (x : Int))) j x (.inr ⟨.i64, rfl⟩) (.inr ⟨.i64, rfl⟩) hjx hxa
                    obtain ⟨xB, p3, q3⟩ := HBB.out.cutRun Tryd.elStr (some (.int .i64 (k : Int))) (some (.int .i64 (y : Int))) k y (.inr ⟨.i64, rfl⟩) (.inr ⟨.i64, rfl⟩) hky hyb
                    have HO3 : Hid (Sl w4 1 xO (seg o i m).length (ss (seg o i m))) := Sl.cutS (q1 _ HO.out) hmo him
                    have HA3 : Hid (Sl w4 1 xA (seg a j x).length (ss (seg a j x))) := Sl.cutS (q2 _ HA.out) hxa hjx
                    have HB3 : Hid (Sl w4 1 xB (seg b k y).length (ss (seg b k y))) := Sl.cutS (q3 _ HBB.out) hyb hky
                    have l1 : (seg o i m).length ≤ 200 := by rw [seg_len' hmo]; omega
                    have l2 : (seg a j x).length ≤ 200 := by rw [seg_len' hxa]; omega
                    have l3 : (seg b k y).length ≤ 200 := by rw [seg_len' hyb]; omega
                    clear q1 q2 q3
                    generalize seg o i m = LO at HE2 HO3 l1
                    generalize seg a j x = LA at HE2 HA3 l2
                    generalize seg b k y = LB at HE2 HB3 l3
                    clear HE HF HX HY HM HS2 HSS HGO HCK HFIT
                    go_upto_region 24 with fail
                    go_cut [13, 22] (fun x13 c wx => ∃ (gv : Nat) (sO sA sB : Option Addr) (cO cA cB : Nat), c = .pointer (some ⟨gv, 0, none⟩) ∧ St w4 wx [⟨.slice (some ⟨gv, 0, none⟩) 1 1, 61, 4, 1, [.int .i64 (kin LO LA LB : Int), .slice sO LO.length cO, .slice sA LA.length cA, .slice sB LB.length cB]⟩, rkr x13 vs cs] (⟨.slice sB LB.length cB, 1, LB.length, ss LB⟩ :: ⟨.slice sA LA.length cA, 1, LA.length, ss LA⟩ :: ⟨.slice sO LO.length cO, 1, LO.length, ss LO⟩ :: rdc vs cs))
                    case first =>
                      as_aux_lemma =>
                        have hc := hst.drew
                        clear hst
                        (refine wp_region_S (30) (fun _ => True) (by kernel_rfl) ?_ (fun hHeld => ?_); (focus ((try dsimp only); try trivial)))
                        (refine wpAnyS_takeW (i := 0) (v := ?_) rfl (by kernel_rfl) (by kernel_rfl) (by kernel_rfl) (by kernel_rfl) (fun _ _ _ h => h) (Or.inl ⟨by rfl, ?_⟩) hHeld ?_; rotate_left 1; (focus (intro w' hSw; go_simp; (try with_reducible rfl))); (try simp only [Act.put, List.setIfInBounds_toArray, List.set_cons_zero, List.set_cons_succ]))
                        (refine wpAnyS_takeW (i := 1) (v := ?_) rfl (by kernel_rfl) (by kernel_rfl) (by kernel_rfl) (by kernel_rfl) (fun _ _ _ h => h) (Or.inl ⟨by rfl, ?_⟩) hHeld ?_; rotate_left 1; (focus (intro w' hSw; go_simp; (try with_reducible rfl))); (try simp only [Act.put, List.setIfInBounds_toArray, List.set_cons_zero, List.set_cons_succ]))
                        (refine wpAnyS_takeW (i := 2) (v := ?_) rfl (by kernel_rfl) (by kernel_rfl) (by kernel_rfl) (by kernel_rfl) (fun _ _ _ h => h) (Or.inl ⟨by rfl, ?_⟩) hHeld ?_; rotate_left 1; (focus (intro w' hSw; go_simp; (try with_reducible rfl))); (try simp only [Act.put, List.setIfInBounds_toArray, List.set_cons_zero, List.set_cons_succ]))
                        (refine wpAnyS_takeW (i := 3) (v := ?_) rfl (by kernel_rfl) (by kernel_rfl) (by kernel_rfl) (by kernel_rfl) (fun _ _ _ h => h) (Or.inl ⟨by rfl, ?_⟩) hHeld ?_; rotate_left 1; (focus (intro w' hSw; go_simp; (try with_reducible rfl))); (try simp only [Act.put, List.setIfInBounds_toArray, List.set_cons_zero, List.set_cons_succ]))
                        (refine wpAnyS_takeW (i := 4) (v := ?_) rfl (by kernel_rfl) (by kernel_rfl) (by kernel_rfl) (by kernel_rfl) (fun _ _ _ h => h) (Or.inl ⟨by rfl, ?_⟩) hHeld ?_; rotate_left 1; (focus (intro w' hSw; go_simp; (try with_reducible rfl))); (try simp only [Act.put, List.setIfInBounds_toArray, List.set_cons_zero, List.set_cons_succ]))
                        (refine wpAnyS_takeW (i := 5) (v := ?_) rfl (by kernel_rfl) (by kernel_rfl) (by kernel_rfl) (by kernel_rfl) (fun _ _ _ h => h) (Or.inl ⟨by rfl, ?_⟩) hHeld ?_; rotate_left 1; (focus (intro w' hSw; go_simp; (try with_reducible rfl))); (try simp only [Act.put, List.setIfInBounds_toArray, List.set_cons_zero, List.set_cons_succ]))
                        (refine wpAnyS_takeW (i := 6) (v := ?_) rfl (by kernel_rfl) (by kernel_rfl) (by kernel_rfl) (by kernel_rfl) (fun _ _ _ h => h) (Or.inl ⟨by rfl, ?_⟩) hHeld ?_; rotate_left 1; (focus (intro w' hSw; go_simp; (try with_reducible rfl))); (try simp only [Act.put, List.setIfInBounds_toArray, List.set_cons_zero, List.set_cons_succ]))
                        (refine wpAnyS_takeW (i := 7) (v := ?_) rfl (by kernel_rfl) (by kernel_rfl) (by kernel_rfl) (by kernel_rfl) (fun _ _ _ h => h) (Or.inl ⟨by rfl, ?_⟩) hHeld ?_; rotate_left 1; (focus (intro w' hSw; go_simp; (try with_reducible rfl))); (try simp only [Act.put, List.setIfInBounds_toArray, List.set_cons_zero, List.set_cons_succ]))
                        (refine wpAnyS_takeW (i := 8) (v := ?_) rfl (by kernel_rfl) (by kernel_rfl) (by kernel_rfl) (by kernel_rfl) (fun _ _ _ h => h) (Or.inl ⟨by rfl, ?_⟩) hHeld ?_; rotate_left 1; (focus (intro w' hSw; go_simp; (try with_reducible rfl))); (try simp only [Act.put, List.setIfInBounds_toArray, List.set_cons_zero, List.set_cons_succ]))
                        (refine wpAnyS_takeW (i := 9) (v := ?_) rfl (by kernel_rfl) (by kernel_rfl) (by kernel_rfl) (by kernel_rfl) (fun _ _ _ h => h) (Or.inl ⟨by rfl, ?_⟩) hHeld ?_; rotate_left 1; (focus (intro w' hSw; go_simp; (try with_reducible rfl))); (try simp only [Act.put, List.setIfInBounds_toArray, List.set_cons_zero, List.set_cons_succ]))
                        (refine wpAnyS_takeW (i := 10) (v := ?_) rfl (by kernel_rfl) (by kernel_rfl) (by kernel_rfl) (by kernel_rfl) (fun _ _ _ h => h) (Or.inl ⟨by rfl, ?_⟩) hHeld ?_; rotate_left 1; (focus (intro w' hSw; go_simp; (try with_reducible rfl))); (try simp only [Act.put, List.setIfInBounds_toArray, List.set_cons_zero, List.set_cons_succ]))
                        (refine wpAnyS_takeW (i := 11) (v := ?_) rfl (by kernel_rfl) (by kernel_rfl) (by kernel_rfl) (by kernel_rfl) (fun _ _ _ h => h) (Or.inl ⟨by rfl, ?_⟩) hHeld ?_; rotate_left 1; (focus (intro w' hSw; go_simp; (try with_reducible rfl))); (try simp only [Act.put, List.setIfInBounds_toArray, List.set_cons_zero, List.set_cons_succ]))
                        (refine wpAnyS_takeW (i := 13) (v := ?_) rfl (by kernel_rfl) (by kernel_rfl) (by kernel_rfl) (by kernel_rfl) (fun _ _ _ h => h) (Or.inl ⟨by rfl, ?_⟩) hHeld ?_; rotate_left 1; (focus (intro w' hSw; go_simp; (try with_reducible rfl))); (try simp only [Act.put, List.setIfInBounds_toArray, List.set_cons_zero, List.set_cons_succ]))
                        (refine wpAnyS_takeW (i := 14) (v := ?_) rfl (by kernel_rfl) (by kernel_rfl) (by kernel_rfl) (by kernel_rfl) (fun _ _ _ h => h) (Or.inl ⟨by rfl, ?_⟩) hHeld ?_; rotate_left 1; (focus (intro w' hSw; go_simp; (try with_reducible rfl))); (try simp only [Act.put, List.setIfInBounds_toArray, List.set_cons_zero, List.set_cons_succ]))
                        (refine wpAnyS_takeW (i := 15) (v := ?_) rfl (by kernel_rfl) (by kernel_rfl) (by kernel_rfl) (by kernel_rfl) (fun _ _ _ h => h) (Or.inl ⟨by rfl, ?_⟩) hHeld ?_; rotate_left 1; (focus (intro w' hSw; go_simp; (try with_reducible rfl))); (try simp only [Act.put, List.setIfInBounds_toArray, List.set_cons_zero, List.set_cons_succ]))
                        (refine wpAnyS_takeW (i := 16) (v := ?_) rfl (by kernel_rfl) (by kernel_rfl) (by kernel_rfl) (by kernel_rfl) (fun _ _ _ h => h) (Or.inl ⟨by rfl, ?_⟩) hHeld ?_; rotate_left 1; (focus (intro w' hSw; go_simp; (try with_reducible rfl))); (try simp only [Act.put, List.setIfInBounds_toArray, List.set_cons_zero, List.set_cons_succ]))
                        (refine wpAnyS_takeW (i := 18) (v := ?_) rfl (by kernel_rfl) (by kernel_rfl) (by kernel_rfl) (by kernel_rfl) (fun _ _ _ h => h) (Or.inl ⟨by rfl, ?_⟩) hHeld ?_; rotate_left 1; (focus (intro w' hSw; go_simp; (try with_reducible rfl))); (try simp only [Act.put, List.setIfInBounds_toArray, List.set_cons_zero, List.set_cons_succ]))
                        (refine wpAnyS_takeW (i := 19) (v := ?_) rfl (by kernel_rfl) (by kernel_rfl) (by kernel_rfl) (by kernel_rfl) (fun _ _ _ h => h) (Or.inl ⟨by rfl, ?_⟩) hHeld ?_; rotate_left 1; (focus (intro w' hSw; go_simp; (try with_reducible rfl))); (try simp only [Act.put, List.setIfInBounds_toArray, List.set_cons_zero, List.set_cons_succ]))
                        (refine wpAnyS_takeW (i := 20) (v := ?_) rfl (by kernel_rfl) (by kernel_rfl) (by kernel_rfl) (by kernel_rfl) (fun _ _ _ h => h) (Or.inl ⟨by rfl, ?_⟩) hHeld ?_; rotate_left 1; (focus (intro w' hSw; go_simp; (try with_reducible rfl))); (try simp only [Act.put, List.setIfInBounds_toArray, List.set_cons_zero, List.set_cons_succ]))
                        (refine wpAnyS_takeW (i := 21) (v := ?_) rfl (by kernel_rfl) (by kernel_rfl) (by kernel_rfl) (by kernel_rfl) (fun _ _ _ h => h) (Or.inl ⟨by rfl, ?_⟩) hHeld ?_; rotate_left 1; (focus (intro w' hSw; go_simp; (try with_reducible rfl))); (try simp only [Act.put, List.setIfInBounds_toArray, List.set_cons_zero, List.set_cons_succ]))
                        (refine wpAnyS_takeW (i := 23) (v := ?_) rfl (by kernel_rfl) (by kernel_rfl) (by kernel_rfl) (by kernel_rfl) (fun _ _ _ h => h) (Or.inl ⟨by rfl, ?_⟩) hHeld ?_; rotate_left 1; (focus (intro w' hSw; go_simp; (try with_reducible rfl))); (try simp only [Act.put, List.setIfInBounds_toArray, List.set_cons_zero, List.set_cons_succ]))
                        (refine wpAnyS_takeW (i := 24) (v := ?_) rfl (by kernel_rfl) (by kernel_rfl) (by kernel_rfl) (by kernel_rfl) (fun _ _ _ h => h) (Or.inl ⟨by rfl, ?_⟩) hHeld ?_; rotate_left 1; (focus (intro w' hSw; go_simp; (try with_reducible rfl))); (try simp only [Act.put, List.setIfInBounds_toArray, List.set_cons_zero, List.set_cons_succ]))
                        (refine wpAnyS_takeW (i := 25) (v := ?_) rfl (by kernel_rfl) (by kernel_rfl) (by kernel_rfl) (by kernel_rfl) (fun _ _ _ h => h) (Or.inl ⟨by rfl, ?_⟩) hHeld ?_; rotate_left 1; (focus (intro w' hSw; go_simp; (try with_reducible rfl))); (try simp only [Act.put, List.setIfInBounds_toArray, List.set_cons_zero, List.set_cons_succ]))
                        (refine wpAnyS_takeW (i := 26) (v := ?_) rfl (by kernel_rfl) (by kernel_rfl) (by kernel_rfl) (by kernel_rfl) (fun _ _ _ h => h) (Or.inl ⟨by rfl, ?_⟩) hHeld ?_; rotate_left 1; (focus (intro w' hSw; go_simp; (try with_reducible rfl))); (try simp only [Act.put, List.setIfInBounds_toArray, List.set_cons_zero, List.set_cons_succ]))
                        generalize wy.drew = W at hc ⊢
                        refine wpAnyS_ready (rs := [12, 29]) (by kernel_rfl) (by simp) ?_
                        refine AllS.consL rfl (fun K hK => ?_) ?_
                        · go_simp
                          go_at_call 27; refine (refKind_any xO xA xB LO LA LB _ (hc.old HO3.out) (hc.old HA3.out) (hc.old HB3.out)).mono ?_; rintro e W1 ⟨rfl, hk⟩; go_wp2_with fail
                          replace hc := hc.call0 hk
                          clear hk
                          (refine hK.out _ _ ?_ (fun hHeld => ?_); (focus ((try dsimp only); try trivial)); clear hK K; (try simp only [Act.put, List.setIfInBounds_toArray, List.set_cons_zero, List.set_cons_succ]))
                          obtain ⟨W, rfl⟩ : ∃ W : World, W = W1 := ⟨_, rfl⟩
                          refine wpAnyS_ready (rs := [17, 29]) (by kernel_rfl) (by simp) ?_
                          refine AllS.consL rfl (fun K hK => ?_) ?_
                          · go_simp
                            go_at_call 11; refine (copyTexts_any xO LO _ (hc.old HO3.out) (by omega)).mono ?_; rintro e W1 ⟨v, rfl, hk⟩; go_wp2_with fail
                            obtain ⟨sO, cO, rfl, _⟩ := hk.sl0
                            replace hc := (hc.call1 hk).freeze
                            clear hk
                            (refine hK.out _ _ ?_ (fun hHeld => ?_); (focus ((try dsimp only); try trivial)); clear hK K; (try simp only [Act.put, List.setIfInBounds_toArray, List.set_cons_zero, List.set_cons_succ]))
                            obtain ⟨W, rfl⟩ : ∃ W : World, W = W1 := ⟨_, rfl⟩
                            refine wpAnyS_ready (rs := [22, 29]) (by kernel_rfl) (by simp) ?_
                            refine AllS.consL rfl (fun K hK => ?_) ?_
                            · go_simp
                              go_at_call 11; refine (copyTexts_any xA LA _ (hc.old HA3.out) (by omega)).mono ?_; rintro e W1 ⟨v, rfl, hk⟩; go_wp2_with fail
                              obtain ⟨sA, cA, rfl, _⟩ := hk.sl0
                              replace hc := (hc.call1 hk).freeze
                              clear hk
                              (refine hK.out _ _ ?_ (fun hHeld => ?_); (focus ((try dsimp only); try trivial)); clear hK K; (try simp only [Act.put, List.setIfInBounds_toArray, List.set_cons_zero, List.set_cons_succ]))
                              obtain ⟨W, rfl⟩ : ∃ W : World, W = W1 := ⟨_, rfl⟩
                              refine wpAnyS_ready (rs := [27, 29]) (by kernel_rfl) (by simp) ?_
                              refine AllS.consL rfl (fun K hK => ?_) ?_
                              · go_simp
                                go_at_call 11; refine (copyTexts_any xB LB _ (hc.old HB3.out) (by omega)).mono ?_; rintro e W1 ⟨v, rfl, hk⟩; go_wp2_with fail
                                obtain ⟨sB, cB, rfl, _⟩ := hk.sl0
                                replace hc := (hc.call1 hk).freeze
                                clear hk
                                (refine hK.out _ _ ?_ (fun hHeld => ?_); (focus ((try dsimp only); try trivial)); clear hK K; (try simp only [Act.put, List.setIfInBounds_toArray, List.set_cons_zero, List.set_cons_succ]))
                                obtain ⟨W, rfl⟩ : ∃ W : World, W = W1 := ⟨_, rfl⟩
                                (refine wpAnyS_takeW (i := 28) (v := ?_) rfl (by kernel_rfl) (by kernel_rfl) (by kernel_rfl) (by kernel_rfl) (fun _ _ _ h => h) (Or.inl ⟨by rfl, ?_⟩) hHeld ?_; rotate_left 1; (focus (intro w' hSw; go_simp; (try with_reducible rfl))); (try simp only [Act.put, List.setIfInBounds_toArray, List.set_cons_zero, List.set_cons_succ]))
                                refine wpAnyS_ready (rs := [29]) (by kernel_rfl) (by simp) ?_
                                refine AllS.consL rfl (fun K hK => ?_) ?_
                                · go_simp
                                  replace hc := hc.madeAt #[.int .i64 0, .slice none 0 0, .slice none 0 0, .slice none 0 0] 61 4 1 W.heap.size rfl (by simp [maxLen]) rfl
                                  generalize W.alloc (Obj.cells #[Value.int IntKind.i64 0, Value.slice none 0 0, Value.slice none 0 0, Value.slice none 0 0] 61) = W1 at hc ⊢
                                  generalize W.heap.size = gv at hc ⊢
                                  (refine hK.out _ _ ?_ (fun hHeld => ?_); (focus ((try dsimp only); try trivial)); clear hK K; (try simp only [Act.put, List.setIfInBounds_toArray, List.set_cons_zero, List.set_cons_succ]))
                                  obtain ⟨W, rfl⟩ : ∃ W : World, W = W1 := ⟨_, rfl⟩
                                  ((refine wpAnyS_seq (by rfl) (by kernel_rfl) ?_; simp only [List.drop_succ_cons, List.drop_zero]); go_wp2_with ((with_reducible show wpList _ _ _ _ _ _); refine wpl_storeA rfl 61 _ _ rfl Tryd.aRChunk hc (0) rfl ([.int .i64 (kin LO LA LB : Int), .slice sO LO.length cO, .slice sA LA.length cA, .slice sB LB.length cB]) rfl rfl (by simp) (by intro u hu; simp at hu; rcases hu with rfl | rfl | rfl | rfl <;> rfl) ?_; intro W5 h5); go_meet; exact ⟨gv, sO, sA, sB, cO, cA, cB, rfl, h5⟩)
                                exact AllS.nil
                              refine AllS.consL rfl (fun K hK => ?_) ?_
                              · go_simp
                                replace hc := hc.madeAt #[.int .i64 0, .slice none 0 0, .slice none 0 0, .slice none 0 0] 61 4 1 W.heap.size rfl (by simp [maxLen]) rfl
                                generalize W.alloc (Obj.cells #[Value.int IntKind.i64 0, Value.slice none 0 0, Value.slice none 0 0, Value.slice none 0 0] 61) = W1 at hc ⊢
                                generalize W.heap.size = gv at hc ⊢
                                (refine hK.out _ _ ?_ (fun hHeld => ?_); (focus ((try dsimp only); try trivial)); clear hK K; (try simp only [Act.put, List.setIfInBounds_toArray, List.set_cons_zero, List.set_cons_succ]))
                                obtain ⟨W, rfl⟩ : ∃ W : World, W = W1 := ⟨_, rfl⟩
                                refine wpAnyS_ready (rs := [27]) (by kernel_rfl) (by simp) ?_
                                refine AllS.consL rfl (fun K hK => ?_) ?_
                                · go_simp
                                  go_at_call 11; refine (copyTexts_any xB LB _ (hc.old HB3.out) (by omega)).mono ?_; rintro e W1 ⟨v, rfl, hk⟩; go_wp2_with fail
                                  obtain ⟨sB, cB, rfl, _⟩ := hk.sl0
                                  replace hc := (hc.call1 hk).freeze
                                  clear hk
                                  (refine hK.out _ _ ?_ (fun hHeld => ?_); (focus ((try dsimp only); try trivial)); clear hK K; (try simp only [Act.put, List.setIfInBounds_toArray, List.set_cons_zero, List.set_cons_succ]))
                                  obtain ⟨W, rfl⟩ : ∃ W : World, W = W1 := ⟨_, rfl⟩
                                  (refine wpAnyS_takeW (i := 28) (v := ?_) rfl (by kernel_rfl) (by kernel_rfl) (by kernel_rfl) (by kernel_rfl) (fun _ _ _ h => h) (Or.inl ⟨by rfl, ?_⟩) hHeld ?_; rotate_left 1; (focus (intro w' hSw; go_simp; (try with_reducible rfl))); (try simp only [Act.put, List.setIfInBounds_toArray, List.set_cons_zero, List.set_cons_succ]))
                                  ((refine wpAnyS_seq (by rfl) (by kernel_rfl) ?_; simp only [List.drop_succ_cons, List.drop_zero]); go_wp2_with ((with_reducible show wpList _ _ _ _ _ _); refine wpl_storeA rfl 61 _ _ rfl Tryd.aRChunk hc (0) rfl ([.int .i64 (kin LO LA LB : Int), .slice sO LO.length cO, .slice sA LA.length cA, .slice sB LB.length cB]) rfl rfl (by simp) (by intro u hu; simp at hu; rcases hu with rfl | rfl | rfl | rfl <;> rfl) ?_; intro W5 h5); go_meet; exact ⟨gv, sO, sA, sB, cO, cA, cB, rfl, h5⟩)
                                exact AllS.nil
                              exact AllS.nil
                            refine AllS.consL rfl (fun K hK => ?_) ?_
                            · go_simp
                              replace hc := hc.madeAt #[.int .i64 0, .slice none 0 0, .slice none 0 0, .slice none 0 0] 61 4 1 W.heap.size rfl (by simp [maxLen]) rfl
                              generalize W.alloc (Obj.cells #[Value.int IntKind.i64 0, Value.slice none 0 0, Value.slice none 0 0, Value.slice none 0 0] 61) = W1 at hc ⊢
                              generalize W.heap.size = gv at hc ⊢
                              (refine hK.out _ _ ?_ (fun hHeld => ?_); (focus ((try dsimp only); try trivial)); clear hK K; (try simp only [Act.put, List.setIfInBounds_toArray, List.set_cons_zero, List.set_cons_succ]))
                              obtain ⟨W, rfl⟩ : ∃ W : World, W = W1 := ⟨_, rfl⟩
                              refine wpAnyS_ready (rs := [22]) (by kernel_rfl) (by simp) ?_
                              refine AllS.consL rfl (fun K hK => ?_) ?_
                              · go_simp
                                go_at_call 11; refine (copyTexts_any xA LA _ (hc.old HA3.out) (by omega)).mono ?_; rintro e W1 ⟨v, rfl, hk⟩; go_wp2_with fail
                                obtain ⟨sA, cA, rfl, _⟩ := hk.sl0
                                replace hc := (hc.call1 hk).freeze
                                clear hk
                                (refine hK.out _ _ ?_ (fun hHeld => ?_); (focus ((try dsimp only); try trivial)); clear hK K; (try simp only [Act.put, List.setIfInBounds_toArray, List.set_cons_zero, List.set_cons_succ]))
                                obtain ⟨W, rfl⟩ : ∃ W : World, W = W1 := ⟨_, rfl⟩
                                refine wpAnyS_ready (rs := [27]) (by kernel_rfl) (by simp) ?_
                                refine AllS.consL rfl (fun K hK => ?_) ?_
                                · go_simp
                                  go_at_call 11; refine (copyTexts_any xB LB _ (hc.old HB3.out) (by omega)).mono ?_; rintro e W1 ⟨v, rfl, hk⟩; go_wp2_with fail
                                  obtain ⟨sB, cB, rfl, _⟩ := hk.sl0
                                  replace hc := (hc.call1 hk).freeze
                                  clear hk
                                  (refine hK.out _ _ ?_ (fun hHeld => ?_); (focus ((try dsimp only); try trivial)); clear hK K; (try simp only [Act.put, List.setIfInBounds_toArray, List.set_cons_zero, List.set_cons_succ]))
                                  obtain ⟨W, rfl⟩ : ∃ W : World, W = W1 := ⟨_, rfl⟩
                                  (refine wpAnyS_takeW (i := 28) (v := ?_) rfl (by kernel_rfl) (by kernel_rfl) (by kernel_rfl) (by kernel_rfl) (fun _ _ _ h => h) (Or.inl ⟨by rfl, ?_⟩) hHeld ?_; rotate_left 1; (focus (intro w' hSw; go_simp; (try with_reducible rfl))); (try simp only [Act.put, List.setIfInBounds_toArray, List.set_cons_zero, List.set_cons_succ]))
                                  ((refine wpAnyS_seq (by rfl) (by kernel_rfl) ?_; simp only [List.drop_succ_cons, List.drop_zero]); go_wp2_with ((with_reducible show wpList _ _ _ _ _ _); refine wpl_storeA rfl 61 _ _ rfl Tryd.aRChunk hc (0) rfl ([.int .i64 (kin LO LA LB : Int), .slice sO LO.length cO, .slice sA LA.length cA, .slice sB LB.length cB]) rfl rfl (by simp) (by intro u hu; simp at hu; rcases hu with rfl | rfl | rfl | rfl <;> rfl) ?_; intro W5 h5); go_meet; exact ⟨gv, sO, sA, sB, cO, cA, cB, rfl, h5⟩)
                                exact AllS.nil
                              exact AllS.nil
                            exact AllS.nil
                          refine AllS.consL rfl (fun K hK => ?_) ?_
                          · go_simp
                            replace hc := hc.madeAt #[.int .i64 0, .slice none 0 0, .slice none 0 0, .slice none 0 0] 61 4 1 W.heap.size rfl (by simp [maxLen]) rfl
                            generalize W.alloc (Obj.cells #[Value.int IntKind.i64 0, Value.slice none 0 0, Value.slice none 0 0, Value.slice none 0 0] 61) = W1 at hc ⊢
                            generalize W.heap.size = gv at hc ⊢
                            (refine hK.out _ _ ?_ (fun hHeld => ?_); (focus ((try dsimp only); try trivial)); clear hK K; (try simp only [Act.put, List.setIfInBounds_toArray, List.set_cons_zero, List.set_cons_succ]))
                            obtain ⟨W, rfl⟩ : ∃ W : World, W = W1 := ⟨_, rfl⟩
                            refine wpAnyS_ready (rs := [17]) (by kernel_rfl) (by simp) ?_
                            refine AllS.consL rfl (fun K hK => ?_) ?_
                            · go_simp
                              go_at_call 11; refine (copyTexts_any xO LO _ (hc.old HO3.out) (by omega)).mono ?_; rintro e W1 ⟨v, rfl, hk⟩; go_wp2_with fail
                              obtain ⟨sO, cO, rfl, _⟩ := hk.sl0
                              replace hc := (hc.call1 hk).freeze
                              clear hk
                              (refine hK.out _ _ ?_ (fun hHeld => ?_); (focus ((try dsimp only); try trivial)); clear hK K; (try simp only [Act.put, List.setIfInBounds_toArray, List.set_cons_zero, List.set_cons_succ]))
                              obtain ⟨W, rfl⟩ : ∃ W : World, W = W1 := ⟨_, rfl⟩
                              refine wpAnyS_ready (rs := [22]) (by kernel_rfl) (by simp) ?_
                              refine AllS.consL rfl (fun K hK => ?_) ?_
                              · go_simp
                                go_at_call 11; refine (copyTexts_any xA LA _ (hc.old HA3.out) (by omega)).mono ?_; rintro e W1 ⟨v, rfl, hk⟩; go_wp2_with fail
                                obtain ⟨sA, cA, rfl, _⟩ := hk.sl0
                                replace hc := (hc.call1 hk).freeze
                                clear hk
                                (refine hK.out _ _ ?_ (fun hHeld => ?_); (focus ((try dsimp only); try trivial)); clear hK K; (try simp only [Act.put, List.setIfInBounds_toArray, List.set_cons_zero, List.set_cons_succ]))
                                obtain ⟨W, rfl⟩ : ∃ W : World, W = W1 := ⟨_, rfl⟩
                                refine wpAnyS_ready (rs := [27]) (by kernel_rfl) (by simp) ?_
                                refine AllS.consL rfl (fun K hK => ?_) ?_
                                · go_simp
                                  go_at_call 11; refine (copyTexts_any xB LB _ (hc.old HB3.out) (by omega)).mono ?_; rintro e W1 ⟨v, rfl, hk⟩; go_wp2_with fail
                                  obtain ⟨sB, cB, rfl, _⟩ := hk.sl0
                                  replace hc := (hc.call1 hk).freeze
                                  clear hk
                                  (refine hK.out _ _ ?_ (fun hHeld => ?_); (focus ((try dsimp only); try trivial)); clear hK K; (try simp only [Act.put, List.setIfInBounds_toArray, List.set_cons_zero, List.set_cons_succ]))
                                  obtain ⟨W, rfl⟩ : ∃ W : World, W = W1 := ⟨_, rfl⟩
                                  (refine wpAnyS_takeW (i := 28) (v := ?_) rfl (by kernel_rfl) (by kernel_rfl) (by kernel_rfl) (by kernel_rfl) (fun _ _ _ h => h) (Or.inl ⟨by rfl, ?_⟩) hHeld ?_; rotate_left 1; (focus (intro w' hSw; go_simp; (try with_reducible rfl))); (try simp only [Act.put, List.setIfInBounds_toArray, List.set_cons_zero, List.set_cons_succ]))
                                  ((refine wpAnyS_seq (by rfl) (by kernel_rfl) ?_; simp only [List.drop_succ_cons, List.drop_zero]); go_wp2_with ((with_reducible show wpList _ _ _ _ _ _); refine wpl_storeA rfl 61 _ _ rfl Tryd.aRChunk hc (0) rfl ([.int .i64 (kin LO LA LB : Int), .slice sO LO.length cO, .slice sA LA.length cA, .slice sB LB.length cB]) rfl rfl (by simp) (by intro u hu; simp at hu; rcases hu with rfl | rfl | rfl | rfl <;> rfl) ?_; intro W5 h5); go_meet; exact ⟨gv, sO, sA, sB, cO, cA, cB, rfl, h5⟩)
                                exact AllS.nil
                              exact AllS.nil
                            exact AllS.nil
                          exact AllS.nil
                        refine AllS.consL rfl (fun K hK => ?_) ?_
                        · go_simp
                          replace hc := hc.madeAt #[.int .i64 0, .slice none 0 0, .slice none 0 0, .slice none 0 0] 61 4 1 W.heap.size rfl (by simp [maxLen]) rfl
                          generalize W.alloc (Obj.cells #[Value.int IntKind.i64 0, Value.slice none 0 0, Value.slice none 0 0, Value.slice none 0 0] 61) = W1 at hc ⊢
                          generalize W.heap.size = gv at hc ⊢
                          (refine hK.out _ _ ?_ (fun hHeld => ?_); (focus ((try dsimp only); try trivial)); clear hK K; (try simp only [Act.put, List.setIfInBounds_toArray, List.set_cons_zero, List.set_cons_succ]))
                          obtain ⟨W, rfl⟩ : ∃ W : World, W = W1 := ⟨_, rfl⟩
                          refine wpAnyS_ready (rs := [12]) (by kernel_rfl) (by simp) ?_
                          refine AllS.consL rfl (fun K hK => ?_) ?_
                          · go_simp
                            go_at_call 27; refine (refKind_any xO xA xB LO LA LB _ (hc.old HO3.out) (hc.old HA3.out) (hc.old HB3.out)).mono ?_; rintro e W1 ⟨rfl, hk⟩; go_wp2_with fail
                            replace hc := hc.call0 hk
                            clear hk
                            (refine hK.out _ _ ?_ (fun hHeld => ?_); (focus ((try dsimp only); try trivial)); clear hK K; (try simp only [Act.put, List.setIfInBounds_toArray, List.set_cons_zero, List.set_cons_succ]))
                            obtain ⟨W, rfl⟩ : ∃ W : World, W = W1 := ⟨_, rfl⟩
                            refine wpAnyS_ready (rs := [17]) (by kernel_rfl) (by simp) ?_
                            refine AllS.consL rfl (fun K hK => ?_) ?_
                            · go_simp
                              go_at_call 11; refine (copyTexts_any xO LO _ (hc.old HO3.out) (by omega)).mono ?_; rintro e W1 ⟨v, rfl, hk⟩; go_wp2_with fail
                              obtain ⟨sO, cO, rfl, _⟩ := hk.sl0
                              replace hc := (hc.call1 hk).freeze
                              clear hk
                              (refine hK.out _ _ ?_ (fun hHeld => ?_); (focus ((try dsimp only); try trivial)); clear hK K; (try simp only [Act.put, List.setIfInBounds_toArray, List.set_cons_zero, List.set_cons_succ]))
                              obtain ⟨W, rfl⟩ : ∃ W : World, W = W1 := ⟨_, rfl⟩
                              refine wpAnyS_ready (rs := [22]) (by kernel_rfl) (by simp) ?_
                              refine AllS.consL rfl (fun K hK => ?_) ?_
                              · go_simp
                                go_at_call 11; refine (copyTexts_any xA LA _ (hc.old HA3.out) (by omega)).mono ?_; rintro e W1 ⟨v, rfl, hk⟩; go_wp2_with fail
                                obtain ⟨sA, cA, rfl, _⟩ := hk.sl0
                                replace hc := (hc.call1 hk).freeze
                                clear hk
                                (refine hK.out _ _ ?_ (fun hHeld => ?_); (focus ((try dsimp only); try trivial)); clear hK K; (try simp only [Act.put, List.setIfInBounds_toArray, List.set_cons_zero, List.set_cons_succ]))
                                obtain ⟨W, rfl⟩ : ∃ W : World, W = W1 := ⟨_, rfl⟩
                                refine wpAnyS_ready (rs := [27]) (by kernel_rfl) (by simp) ?_
                                refine AllS.consL rfl (fun K hK => ?_) ?_
                                · go_simp
                                  go_at_call 11; refine (copyTexts_any xB LB _ (hc.old HB3.out) (by omega)).mono ?_; rintro e W1 ⟨v, rfl, hk⟩; go_wp2_with fail
                                  obtain ⟨sB, cB, rfl, _⟩ := hk.sl0
                                  replace hc := (hc.call1 hk).freeze
                                  clear hk
                                  (refine hK.out _ _ ?_ (fun hHeld => ?_); (focus ((try dsimp only); try trivial)); clear hK K; (try simp only [Act.put, List.setIfInBounds_toArray, List.set_cons_zero, List.set_cons_succ]))
                                  obtain ⟨W, rfl⟩ : ∃ W : World, W = W1 := ⟨_, rfl⟩
                                  (refine wpAnyS_takeW (i := 28) (v := ?_) rfl (by kernel_rfl) (by kernel_rfl) (by kernel_rfl) (by kernel_rfl) (fun _ _ _ h => h) (Or.inl ⟨by rfl, ?_⟩) hHeld ?_; rotate_left 1; (focus (intro w' hSw; go_simp; (try with_reducible rfl))); (try simp only [Act.put, List.setIfInBounds_toArray, List.set_cons_zero, List.set_cons_succ]))
                                  ((refine wpAnyS_seq (by rfl) (by kernel_rfl) ?_; simp only [List.drop_succ_cons, List.drop_zero]); go_wp2_with ((with_reducible show wpList _ _ _ _ _ _); refine wpl_storeA rfl 61 _ _ rfl Tryd.aRChunk hc (0) rfl ([.int .i64 (kin LO LA LB : Int), .slice sO LO.length cO, .slice sA LA.length cA, .slice sB LB.length cB]) rfl rfl (by simp) (by intro u hu; simp at hu; rcases hu with rfl | rfl | rfl | rfl <;> rfl) ?_; intro W5 h5); go_meet; exact ⟨gv, sO, sA, sB, cO, cA, cB, rfl, h5⟩)
                                exact AllS.nil
                              exact AllS.nil
                            exact AllS.nil
                          exact AllS.nil
                        exact AllS.nil
                    case rest =>
                      obtain ⟨gv, sO, sA, sB, cO, cA, cB, rfl, h5⟩ := hcut
                      go_wp2_with (first | ((with_reducible show wpList _ _ _ _ _ _); refine wpl_loadA rfl 61 _ rfl Tryd.aRChunk (gv) (0) rfl ([.int .i64 (kin LO LA LB : Int), .slice sO LO.length cO, .slice sA LA.length cA, .slice sB LB.length cB]) rfl (fun i u h => by rw [Nat.zero_add]; exact h5.rcell (List.mem_cons_self ..) h) ?_) | (at_builtin; refine wpl_app rfl _ _ 30 rfl Tryd.elRChunk (h5.tail.alloc _) rfl (by exact ((St.refl _).made #[.int .i64 (kin LO LA LB : Int), .slice sO LO.length cO, .slice sA LA.length cA, .slice sB LB.length cB] 61 4 1 rfl (by simp [maxLen])).sl0) (by intro u hu; simp at hu; rcases hu with rfl | rfl | rfl | rfl <;> rfl) (by omega) ?_; intro v9 w9 hs9 _))
                      obtain ⟨hq, hq'⟩ := St.pushC ⟨kin LO LA LB, LO, LA, LB⟩ hs9 (fun q h => h) HVS.out
                      go_roundw
                      case rel => exact ⟨m, x, y, _, _, rfl, rfl, rfl, hmo, hxa, hyb, by have := HLN.out; simp; omega, HE2.out, HF2.out, hq', hq⟩
                      case measure => simp [intOf]; have := HLN.out; omega
          · have hgd : decide (i < o.length ∨ j < a.length ∨ k < b.length) = false := decide_eq_false hgo
            rw [hgd]
            clear hgd
            have e1 : i = o.length := by omega
            have e2 : j = a.length := by omega
            have e3 : k = b.length := by omega
            have HCS : Hid (cs = chk o a b) := by show _ = _; have := HE.out; rw [e1, e2, e3, cks_doneY, List.append_nil] at this; exact this
            have hck := CK.ofSt hst (fun q h => h) HVS.out
            rw [HCS.out] at hck
            have HPG := Mx.hid (ChPost.good HB2.out HS4.out hst.bare.noQ hck)
            clear hck e1 e2 e3 hst
            go_wp2_with fail
            go_ret2
            exact HPG.out
end Go.Proofs.YtafmgclhgmhflaaDoor
