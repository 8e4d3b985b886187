/- The walk of ReachClosed. -/
import Derived.Test.YtlfdnlomlbbicaaRcH
import Derived.Test.YtlfdnlomlbbicaaHas
import Derived.Test.YtlfdnlomlbbicaaR6F
import Derived.Test.YtlfdnlomlbbicaaRegC
namespace Go.Proofs.Ytlfdnlomlbbicaa
open Go.RowKit Go.Mx
set_option maxRecDepth 200000 in
set_option maxHeartbeats 4000000 in
theorem reachClosedRow (vl : Value) (l : List (List UInt8)) {w : World} (hl : LL w vl l) (hz : ∀ x ∈ l, x.length ≤ reachBytes) (va : Value) (a : List ByteArray) (ha : Sl w 1 va a.length (ss a)) (_ha : ∀ x ∈ a, x.size ≤ maxLen) (_w : World) :
    Calls Try.prog 5 #[vl, va] w fun e w' => e = .returned (.bool true) ∧ Below w.heap.size w w' := by
  have HL := Mx.hid hl
  have HZ := Mx.hid hz
  have HA := Mx.hid ha
  obtain ⟨ao, ac, rfl, _⟩ := ha.form
  obtain ⟨vs, hvl, hls, _⟩ := hl
  obtain ⟨lo, lc, rfl, _⟩ := hls.form
  clear hz ha hvl hls _ha
  go_enter Try.func5, Try.ntmps5
  go_wp2_with fail
  refine (first12_any _).mono ?_
  rintro e w1 ⟨rfl, hk⟩
  go_wp2_with (first | ((with_reducible show wpList _ _ _ _ _ _); refine wpl_want rfl ?_))
  refine (few10_any _ l _ (LL.old hk HL.out) (fun x hx => by have := HZ.out x hx; unfold reachBytes at this; omega)).mono ?_
  rintro e w2 ⟨b1, rfl, hk2, hb1⟩
  replace hk := hk.call0 hk2
  clear hk2
  cases b1 with
  | false =>
    go_wp2_with (first | ((with_reducible show wpList _ _ _ _ _ _); refine wpl_want rfl ?_) | (go_at_call 23; refine (first12_any _).mono ?_; rintro e wf ⟨rfl, hkf⟩; replace hk := hk.call0 hkf))
    go_ret
    exact ⟨rfl, hk.below⟩
  | true =>
  obtain ⟨hl40, hl15, hl60⟩ := hb1 rfl
  go_wp2_with (first | ((with_reducible show wpList _ _ _ _ _ _); refine wpl_want rfl ?_))
  refine (few12_any _ a _ (hk.old HA.out)).mono ?_
  rintro e w3 ⟨⟨b2, rfl, hb2⟩, rfl⟩
  cases b2 with
  | false =>
    go_wp2_with (first | ((with_reducible show wpList _ _ _ _ _ _); refine wpl_want rfl ?_) | (go_at_call 23; refine (first12_any _).mono ?_; rintro e wf ⟨rfl, hkf⟩; replace hk := hk.call0 hkf))
    go_ret
    exact ⟨rfl, hk.below⟩
  | true =>
  have ha20 := hb2 rfl
  clear hb1 hb2
  have HCL := Mx.hid (fun wx g2 g3 g5 v ids (h : SM wx g2 g3 g5 l false) (hv : Sl wx 1 v ids.length (ss ids)) (hil : ids.length ≤ 1000) => clo2000 g2 g3 g5 l false v ids wx h hl15 hl40 hl60 hv hil)
  have HWH := Mx.hid (fun wx g2 g3 g5 va a (h : SM wx g2 g3 g5 l false) (ha : Sl wx 1 va a.length (ss a)) (h1 : a.length ≤ 20) => whole2000 g2 g3 g5 l false va a wx h hl15 hl40 hl60 ha h1)
  have HSU := Mx.hid (fun wx g2 g3 g5 id (h : SM wx g2 g3 g5 l false) => src_uni g2 g3 g5 l false id wx h hl15 hl40)
  go_wp2_with (first | ((with_reducible show wpList _ _ _ _ _ _); refine wpl_want rfl ?_))
  refine (source_any _ l false _ (LL.old hk HL.out) (fun x hx => by have := hl15 x hx; omega) (by omega)).mono ?_
  rintro e w4 ⟨g2, g3, g5, rfl, hk4, hm4⟩
  replace hk := hk.call0 hk4
  clear hk4 HL HZ hl15 hl40 hl60
  generalize srcF l false = f at *
  go_wp2_with fail
  refine (HCL.out _ _ _ _ _ a hm4 (hk.old HA.out) (by omega)).mono ?_
  rintro e w5 ⟨vx, vy, M, rfl, h5, hcM, hnM, hlM⟩
  obtain ⟨xo, xc, rfl, _⟩ := id h5.sl0
  obtain ⟨yo, yc, rfl, _⟩ := id h5.sl1
  have hk5 := hk.call0 h5.bare
  have hm5 := hm4.keep h5.bare
  have LM := told_len f M
  have LY := lack_len f M
  have SX : Sl w5 1 (.slice xo (toldL f M).length xc) (sortL (toldL f M)).length (ss (sortL (toldL f M))) := by rw [sortL_len]; exact h5.sl0
  have SY : Sl w5 1 (.slice yo (lackL f M).length yc) (sortL (lackL f M)).length (ss (sortL (lackL f M))) := by rw [sortL_len]; exact h5.sl1
  have HWL := Mx.hid (fun wx (hs : St w5 wx [] []) => HWH.out wx g2 g3 g5 _ a (hm5.keep hs) (hs.old (hk5.old HA.out)) ha20)
  have HSR := Mx.hid (fun wx id (hs : St w5 wx [] []) => HSU.out wx g2 g3 g5 id (hm5.keep hs))
  have HCM := Mx.hid (And.intro hcM hnM)
  have HA5 := Mx.hid (hk5.old HA.out)
  have HK5 := Mx.hid hk5
  clear HCL HWH HSU hm4 hm5 hk hk5 h5 HA hcM hnM
  simp only [← sortL_len (toldL f M), ← sortL_len (lackL f M)] at *
  have HRX := Mx.hid (strict_rises (strict_sort (told_nodup (f := f) HCM.out.2)))
  have HRY := Mx.hid (strict_rises (strict_sort (lack_nodup (f := f) HCM.out.2)))
  have HUN := Mx.hid (uniq_len (both_nodup (f := f) HCM.out.2))
  have HMX := Mx.hid (fun x => (show x ∈ sortL (toldL f M) ↔ x ∈ M ∧ tellB f x = true from (sortL_perm _).mem_iff.trans mem_told))
  have HMA := Mx.hid (fun x => both_mem (f := f) (M := M) (x := x))
  have HYL := Mx.hid (fun M2 (h2 : CloN (nbF f) a M2) (n2 : M2.Nodup) => (show (lackL f M2).length = (sortL (lackL f M)).length by rw [← sortL_len (lackL f M2), clo_lack h2 n2 HCM.out.1 HCM.out.2]))
  generalize sortL (toldL f M) = X at *
  generalize sortL (lackL f M) = Y at *
  go_wp2_with (first | ((with_reducible show wpList _ _ _ _ _ _); refine wpl_want rfl ?_))
  refine (copyTexts_any _ X _ SX (by omega)).mono ?_
  rintro e w6 ⟨vc, rfl, h6⟩
  go_wp2_with (first | ((with_reducible show wpList _ _ _ _ _ _); refine wpl_want rfl ?_) | (at_builtin; refine wpl_app rfl _ _ 24 rfl Try.elStr h6 rfl (by exact h6.old SY) (ss_one _) (by omega) ?_; intro v7 w7 h7 _))
  replace h7 := h7.cast (show _ = (X ++ Y).length by simp) (show _ = ss (X ++ Y) by rw [ss_app])
  obtain ⟨tp, tc, rfl, _⟩ := id h7.sl0
  have k7 := h7.bare
  have SA := h7.sl0
  have hAL : (X ++ Y).length ≤ 600 := by rw [List.length_append]; omega
  have hk := St.refl w7
  have HXX := Mx.hid (k7.old SX)
  have HYY := Mx.hid (k7.old SY)
  have HAA := Mx.hid SA
  clear h6 h7 SX SY SA
  generalize X ++ Y = A at *
  go_wp2_with (first | ((with_reducible show wpList _ _ _ _ _ _); refine wpl_want rfl ?_) | (go_at_call 30; (with_reducible show Calls _ _ #[Value.slice xo _ _] _ _); refine (rises_any _ X _ (hk.old HXX.out)).mono ?_; rintro e wf ⟨he, hkf⟩; rw [HRX.out] at he; subst he; replace hk := hk.call0 hkf; clear hkf) | (go_at_call 30; (with_reducible show Calls _ _ #[Value.slice yo _ _] _ _); refine (rises_any _ Y _ (hk.old HYY.out)).mono ?_; rintro e wf ⟨he, hkf⟩; rw [HRY.out] at he; subst he; replace hk := hk.call0 hkf; clear hkf) | (go_at_call 29; refine (refUnique_any _ A _ (hk.old HAA.out) (by omega)).mono ?_; rintro e wf ⟨vu, rfl, hkf⟩; rw [HUN.out] at hkf; obtain ⟨uo, uc, rfl, _⟩ := id hkf.sl0; replace hk := hk.call0 hkf.bare; clear hkf))
  have HWK := Mx.hid (fun wx (hs : St w7 wx [] []) => HWL.out wx (k7.call0 hs))
  have HSK := Mx.hid (fun wx id (hs : St w7 wx [] []) => HSR.out wx id (k7.call0 hs))
  have HKK := Mx.hid (HK5.out.call0 k7)
  have HHX := Mx.hid (fun x wx (hs : St w7 wx [] []) => has_any _ X wx (hs.old HXX.out) x)
  have HHA := Mx.hid (fun x wx (hs : St w7 wx [] []) => has_any _ A wx (hs.old HAA.out) x)
  obtain ⟨_, _, blk, off, hvv, _, _, _, hcc⟩ := (k7.old HA5.out).txt
  have HCA := Mx.hid hcc
  cases hvv
  clear hcc
  obtain ⟨_, _, blk2, off2, hvv, _, _, _, hcc⟩ := HAA.out.txt
  have HCL := Mx.hid hcc
  cases hvv
  clear hcc HWL HSR HK5 HA5 k7 HXX HYY HAA HRX HRY HUN
  go_loopw [10] (fun y wr => ∃ i : Nat, y = .int .i64 i ∧ i ≤ a.length ∧ St w7 wr [] []) (fun y _ => a.length - (intOf y).toNat)
  case atStart => exact ⟨0, rfl, by omega, hk⟩
  case round =>
    clear hk
    obtain ⟨i, rfl, hi, hq⟩ := hrel
    by_cases hlt : i < a.length
    · obtain ⟨rfl, c1⟩ := HCA.out i hlt
      have HA1 := Mx.hid (HHA.out a[i] _ hq)
      rw [hasT_iff.2 ((HMA.out _).2 (HCM.out.1.ids _ (List.getElem_mem hlt)))] at HA1
      replace c1 := hq.keep c1
      generalize a[i] = x at *
      go_wp2_with (go_at_call 31; refine HA1.out.mono ?_; rintro e w9 ⟨rfl, rfl⟩)
      exact ⟨⟨i + 1, by go_num, by omega, hq⟩, by simp [intOf]; omega⟩
    · go_wp2_with fail
      go_loopw [11] (fun y wr => ∃ i : Nat, y = .int .i64 i ∧ i ≤ A.length ∧ St w7 wr [] []) (fun y _ => A.length - (intOf y).toNat)
      case atStart => exact ⟨0, rfl, by omega, hq⟩
      case round =>
        clear hq hlt hi
        obtain ⟨i, rfl, hi, hq⟩ := hrel
        by_cases hlt : i < A.length
        · obtain ⟨rfl, c1⟩ := HCL.out i hlt
          have HC1 := Mx.hid c1
          have HMX1 := Mx.hid (HMX.out A[i])
          have HM1 := Mx.hid ((HMA.out A[i]).1 (List.getElem_mem hlt))
          have HNX := Mx.hid (fun p (hp : p ∈ nbF f A[i]) => (HMA.out p).2 (HCM.out.1.next HM1.out hp))
          have HT1 := Mx.hid (fun wx (hs : St w7 wx [] []) => HHX.out A[i] wx hs)
          have HS1 := Mx.hid (HSK.out _ A[i] hq)
          replace c1 := hq.keep c1
          generalize A[i] = x at *
          go_wp2_with fail
          refine HS1.out.mono ?_
          rintro e w20 ⟨vb, b, ok, rfl, hb, h20, hbl, hcase⟩
          obtain ⟨bo, bc, rfl, _⟩ := hb.form
          replace hq := hq.call0 h20
          clear h20 HS1 c1
          go_wp2_with fail
          refine (rdecode_any _ b _ hb (by omega)).mono ?_
          clear hb
          unfold RDecPost
          rintro e w21 ⟨dv, iv, pv, rfl, h21⟩
          generalize (decO b).1 = o at *
          generalize (decO b).2 = er at *
          obtain ⟨kq, dq, iq, tq, pq, sq, aq, mq⟩ := o
          obtain ⟨qd1, qd2, rfl, _⟩ := id (show Sl w21 1 dv dq.length (bs dq) from h21.sl0)
          obtain ⟨qi1, qi2, rfl, _⟩ := id (show Sl w21 3 iv iq.length (itms iq) from h21.sl1)
          obtain ⟨qp1, qp2, rfl, _⟩ := id (show Sl w21 1 pv pq.length (ss pq) from h21.sl2)
          simp only [OV, obR6] at h21 ⊢
          rcases hcase with ⟨rfl, rfl, ht, hnb, hmay⟩ | ⟨ht, ho, hw⟩
          · have hfew := may_few hmay
            have HRE := Mx.hid (fun p (hp : p ∈ refsL ⟨kq, dq, iq, tq, pq, sq, aq, mq⟩) => HNX.out p (by rw [hnb]; exact hp))
            rw [hasT_iff.2 (HMX1.out.2 ⟨HM1.out, ht⟩)] at HT1
            clear ht hnb hmay
            go_wp2_with (first | (((with_reducible show wpList _ _ _ _ _ _); refine wpl_storeA rfl 35 _ _ rfl Try.aObj6 (h21.madeAt ([.int .i64 (0), .slice none 0 0, .slice none 0 0, .string (str []), .slice none 0 0, .int .i64 (0), .int .i64 (0), .string (str [])]).toArray 35 8 1 _ rfl (by simp [maxLen]) rfl) (0) rfl ([.int .i64 kq, .slice qd1 dq.length qd2, .slice qi1 iq.length qi2, .string tq, .slice qp1 pq.length qp2, .int .i64 sq, .int .i64 aq, .string mq]) rfl (by rfl) (by simp) (by intro u hu; simp at hu; rcases hu with rfl | rfl | rfl | rfl | rfl | rfl | rfl | rfl <;> rfl) ?_; intro w22 hs22); have hq2 := hq.call0 hs22.bare; have a1 := hq2.keep HC1.out; have HT2 := Mx.hid (HT1.out _ hq2)) | (go_at_call 31; refine HT2.out.mono ?_; rintro e w9 ⟨rfl, rfl⟩) | ((with_reducible show wpList _ _ _ _ _ _); refine wpl_loadA rfl 35 _ rfl Try.aObj6 (w21.heap.size) (0) rfl ([.int .i64 kq, .slice qd1 dq.length qd2, .slice qi1 iq.length qi2, .string tq, .slice qp1 pq.length qp2, .int .i64 sq, .int .i64 aq, .string mq]) rfl (fun i u h => by rw [Nat.zero_add]; exact hs22.rcell (List.mem_cons_self ..) h) ?_) | (go_at_call 22; refine (rrefs_any _ _ _ ⟨kq, dq, iq, tq, pq, sq, aq, mq⟩ _ ⟨hs22.sl1, hs22.sl2, hs22.tail.sl2⟩ hfew.1 hfew.2).mono ?_; rintro e w23 ⟨vr, rfl, h23⟩; obtain ⟨ro, rc, rfl, _⟩ := id h23.sl0; replace hq2 := hq2.call0 h23.bare))
            obtain ⟨_, _, blk3, off3, hvv, _, _, _, hcc⟩ := h23.sl0.txt
            have HRC := Mx.hid hcc
            cases hvv
            have HW9 := Mx.hid hq2
            clear hcc h23 hs22 h21 hq
            generalize refsL ⟨kq, dq, iq, tq, pq, sq, aq, mq⟩ = RL at *
            go_loopw [17] (fun y wr => ∃ k : Nat, y = .int .i64 k ∧ k ≤ RL.length ∧ w23 = wr) (fun y _ => RL.length - (intOf y).toNat)
            case atStart => exact ⟨0, rfl, by omega, rfl⟩
            case round =>
              obtain ⟨k, rfl, hk9, rfl⟩ := hrel
              by_cases hlt2 : k < RL.length
              · obtain ⟨rfl, r1⟩ := HRC.out k hlt2
                have HA2 := Mx.hid (HHA.out RL[k] _ HW9.out)
                rw [hasT_iff.2 (HRE.out _ (List.getElem_mem hlt2))] at HA2
                replace a1 := HW9.out.keep HC1.out
                have HT3 := Mx.hid (HT1.out _ HW9.out)
                generalize RL[k] = p at *
                go_wp2_with (first | (go_at_call 31; (with_reducible show Calls _ _ #[Value.slice xo _ _, _] _ _); refine HT3.out.mono ?_; rintro e w9 ⟨rfl, rfl⟩) | (go_at_call 31; refine HA2.out.mono ?_; rintro e w9 ⟨rfl, rfl⟩))
                exact ⟨⟨k + 1, by go_num, by omega, by trivial⟩, by simp [intOf]; omega⟩
              · go_wp2_with fail
                exact ⟨⟨i + 1, by go_num, by omega, HW9.out⟩, by simp [intOf]; omega⟩
          · have hfew : iq.length ≤ 4294967296 ∧ pq.length ≤ 4294967296 := by
              unfold noOb at ho
              simp only [Ob.mk.injEq] at ho
              rw [ho.2.2.1, ho.2.2.2.2.1]
              simp
            have HRE := Mx.hid (show refsL ⟨kq, dq, iq, tq, pq, sq, aq, mq⟩ = [] by rw [ho]; exact noOb_refs)
            rw [hasT_not.2 (fun h => by have := (HMX1.out.1 h).2; rw [ht] at this; cases this)] at HT1
            clear ht ho
            rcases hw with ⟨rfl, rfl⟩ | rfl
            · go_wp2_with (first | (((with_reducible show wpList _ _ _ _ _ _); refine wpl_storeA rfl 35 _ _ rfl Try.aObj6 (h21.madeAt ([.int .i64 (0), .slice none 0 0, .slice none 0 0, .string (str []), .slice none 0 0, .int .i64 (0), .int .i64 (0), .string (str [])]).toArray 35 8 1 _ rfl (by simp [maxLen]) rfl) (0) rfl ([.int .i64 kq, .slice qd1 dq.length qd2, .slice qi1 iq.length qi2, .string tq, .slice qp1 pq.length qp2, .int .i64 sq, .int .i64 aq, .string mq]) rfl (by rfl) (by simp) (by intro u hu; simp at hu; rcases hu with rfl | rfl | rfl | rfl | rfl | rfl | rfl | rfl <;> rfl) ?_; intro w22 hs22); have hq2 := hq.call0 hs22.bare; have a1 := hq2.keep HC1.out; have HT2 := Mx.hid (HT1.out _ hq2)) | (go_at_call 31; refine HT2.out.mono ?_; rintro e w9 ⟨rfl, rfl⟩) | ((with_reducible show wpList _ _ _ _ _ _); refine wpl_loadA rfl 35 _ rfl Try.aObj6 (w21.heap.size) (0) rfl ([.int .i64 kq, .slice qd1 dq.length qd2, .slice qi1 iq.length qi2, .string tq, .slice qp1 pq.length qp2, .int .i64 sq, .int .i64 aq, .string mq]) rfl (fun i u h => by rw [Nat.zero_add]; exact hs22.rcell (List.mem_cons_self ..) h) ?_) | (go_at_call 22; refine (rrefs_any _ _ _ ⟨kq, dq, iq, tq, pq, sq, aq, mq⟩ _ ⟨hs22.sl1, hs22.sl2, hs22.tail.sl2⟩ hfew.1 hfew.2).mono ?_; rintro e w23 ⟨vr, rfl, h23⟩; obtain ⟨ro, rc, rfl, _⟩ := id h23.sl0; replace hq2 := hq2.call0 h23.bare))
              obtain ⟨_, _, blk3, off3, hvv, _, _, _, hcc⟩ := h23.sl0.txt
              have HRC := Mx.hid hcc
              cases hvv
              have HW9 := Mx.hid hq2
              clear hcc h23 hs22 h21 hq
              generalize refsL ⟨kq, dq, iq, tq, pq, sq, aq, mq⟩ = RL at *
              go_loopw [17] (fun y wr => ∃ k : Nat, y = .int .i64 k ∧ k ≤ RL.length ∧ w23 = wr) (fun y _ => RL.length - (intOf y).toNat)
              case atStart => exact ⟨0, rfl, by omega, rfl⟩
              case round =>
                obtain ⟨k, rfl, hk9, rfl⟩ := hrel
                by_cases hlt2 : k < RL.length
                · exact absurd hlt2 (by rw [HRE.out]; simp)
                · go_wp2_with fail
                  exact ⟨⟨i + 1, by go_num, by omega, HW9.out⟩, by simp [intOf]; omega⟩
            · cases ok with
              | true =>
                go_wp2_with (first | (((with_reducible show wpList _ _ _ _ _ _); refine wpl_storeA rfl 35 _ _ rfl Try.aObj6 (h21.madeAt ([.int .i64 (0), .slice none 0 0, .slice none 0 0, .string (str []), .slice none 0 0, .int .i64 (0), .int .i64 (0), .string (str [])]).toArray 35 8 1 _ rfl (by simp [maxLen]) rfl) (0) rfl ([.int .i64 kq, .slice qd1 dq.length qd2, .slice qi1 iq.length qi2, .string tq, .slice qp1 pq.length qp2, .int .i64 sq, .int .i64 aq, .string mq]) rfl (by rfl) (by simp) (by intro u hu; simp at hu; rcases hu with rfl | rfl | rfl | rfl | rfl | rfl | rfl | rfl <;> rfl) ?_; intro w22 hs22); have hq2 := hq.call0 hs22.bare; have a1 := hq2.keep HC1.out; have HT2 := Mx.hid (HT1.out _ hq2)) | (go_at_call 31; refine HT2.out.mono ?_; rintro e w9 ⟨rfl, rfl⟩) | ((with_reducible show wpList _ _ _ _ _ _); refine wpl_loadA rfl 35 _ rfl Try.aObj6 (w21.heap.size) (0) rfl ([.int .i64 kq, .slice qd1 dq.length qd2, .slice qi1 iq.length qi2, .string tq, .slice qp1 pq.length qp2, .int .i64 sq, .int .i64 aq, .string mq]) rfl (fun i u h => by rw [Nat.zero_add]; exact hs22.rcell (List.mem_cons_self ..) h) ?_) | (go_at_call 22; refine (rrefs_any _ _ _ ⟨kq, dq, iq, tq, pq, sq, aq, mq⟩ _ ⟨hs22.sl1, hs22.sl2, hs22.tail.sl2⟩ hfew.1 hfew.2).mono ?_; rintro e w23 ⟨vr, rfl, h23⟩; obtain ⟨ro, rc, rfl, _⟩ := id h23.sl0; replace hq2 := hq2.call0 h23.bare))
                obtain ⟨_, _, blk3, off3, hvv, _, _, _, hcc⟩ := h23.sl0.txt
                have HRC := Mx.hid hcc
                cases hvv
                have HW9 := Mx.hid hq2
                clear hcc h23 hs22 h21 hq
                generalize refsL ⟨kq, dq, iq, tq, pq, sq, aq, mq⟩ = RL at *
                go_loopw [17] (fun y wr => ∃ k : Nat, y = .int .i64 k ∧ k ≤ RL.length ∧ w23 = wr) (fun y _ => RL.length - (intOf y).toNat)
                case atStart => exact ⟨0, rfl, by omega, rfl⟩
                case round =>
                  obtain ⟨k, rfl, hk9, rfl⟩ := hrel
                  by_cases hlt2 : k < RL.length
                  · exact absurd hlt2 (by rw [HRE.out]; simp)
                  · go_wp2_with fail
                    exact ⟨⟨i + 1, by go_num, by omega, HW9.out⟩, by simp [intOf]; omega⟩
              | false =>
                go_wp2_with (first | (((with_reducible show wpList _ _ _ _ _ _); refine wpl_storeA rfl 35 _ _ rfl Try.aObj6 (h21.madeAt ([.int .i64 (0), .slice none 0 0, .slice none 0 0, .string (str []), .slice none 0 0, .int .i64 (0), .int .i64 (0), .string (str [])]).toArray 35 8 1 _ rfl (by simp [maxLen]) rfl) (0) rfl ([.int .i64 kq, .slice qd1 dq.length qd2, .slice qi1 iq.length qi2, .string tq, .slice qp1 pq.length qp2, .int .i64 sq, .int .i64 aq, .string mq]) rfl (by rfl) (by simp) (by intro u hu; simp at hu; rcases hu with rfl | rfl | rfl | rfl | rfl | rfl | rfl | rfl <;> rfl) ?_; intro w22 hs22); have hq2 := hq.call0 hs22.bare; have a1 := hq2.keep HC1.out; have HT2 := Mx.hid (HT1.out _ hq2)) | (go_at_call 31; refine HT2.out.mono ?_; rintro e w9 ⟨rfl, rfl⟩) | ((with_reducible show wpList _ _ _ _ _ _); refine wpl_loadA rfl 35 _ rfl Try.aObj6 (w21.heap.size) (0) rfl ([.int .i64 kq, .slice qd1 dq.length qd2, .slice qi1 iq.length qi2, .string tq, .slice qp1 pq.length qp2, .int .i64 sq, .int .i64 aq, .string mq]) rfl (fun i u h => by rw [Nat.zero_add]; exact hs22.rcell (List.mem_cons_self ..) h) ?_) | (go_at_call 22; refine (rrefs_any _ _ _ ⟨kq, dq, iq, tq, pq, sq, aq, mq⟩ _ ⟨hs22.sl1, hs22.sl2, hs22.tail.sl2⟩ hfew.1 hfew.2).mono ?_; rintro e w23 ⟨vr, rfl, h23⟩; obtain ⟨ro, rc, rfl, _⟩ := id h23.sl0; replace hq2 := hq2.call0 h23.bare))
                obtain ⟨_, _, blk3, off3, hvv, _, _, _, hcc⟩ := h23.sl0.txt
                have HRC := Mx.hid hcc
                cases hvv
                have HW9 := Mx.hid hq2
                clear hcc h23 hs22 h21 hq
                generalize refsL ⟨kq, dq, iq, tq, pq, sq, aq, mq⟩ = RL at *
                go_loopw [17] (fun y wr => ∃ k : Nat, y = .int .i64 k ∧ k ≤ RL.length ∧ w23 = wr) (fun y _ => RL.length - (intOf y).toNat)
                case atStart => exact ⟨0, rfl, by omega, rfl⟩
                case round =>
                  obtain ⟨k, rfl, hk9, rfl⟩ := hrel
                  by_cases hlt2 : k < RL.length
                  · exact absurd hlt2 (by rw [HRE.out]; simp)
                  · go_wp2_with fail
                    exact ⟨⟨i + 1, by go_num, by omega, HW9.out⟩, by simp [intOf]; omega⟩
        · by_cases hy : Y.length = 0
          · go_wp2_with (first | (go_at_call 23; refine (first12_any _).mono ?_; rintro e wf ⟨rfl, hkf⟩; replace hq := hq.call0 hkf) | (go_at_call 32; refine (HWK.out _ hq).mono ?_; rintro e w30 ⟨M2, hc2, hn2, he, h30⟩; rw [HYL.out M2 hc2 hn2, decide_eq_true hy] at he; subst he; replace hq := hq.call0 h30; clear hc2 hn2))
            go_ret
            exact ⟨by first | rfl | simp [hy], (HKK.out.call0 hq).below⟩
          · have hy2 : ((Y.length : Int) == 0) = false := by simpa using hy
            have hy3 : ¬ (Y.length : Int) = 0 := by omega
            go_wp2_with (first | (go_at_call 23; refine (first12_any _).mono ?_; rintro e wf ⟨rfl, hkf⟩; replace hq := hq.call0 hkf) | (go_at_call 32; refine (HWK.out _ hq).mono ?_; rintro e w30 ⟨M2, hc2, hn2, he, h30⟩; rw [HYL.out M2 hc2 hn2, decide_eq_false hy] at he; subst he; replace hq := hq.call0 h30; clear hc2 hn2))
            go_ret
            exact ⟨by first | rfl | simp [hy], (HKK.out.call0 hq).below⟩
end Go.Proofs.Ytlfdnlomlbbicaa
