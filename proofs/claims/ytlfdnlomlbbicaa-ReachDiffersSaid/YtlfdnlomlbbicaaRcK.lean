/- The walk of ReachDiffers. -/
import Derived.Test.YtlfdnlomlbbicaaRcH
import Derived.Test.YtlfdnlomlbbicaaRcD
import Derived.Test.YtlfdnlomlbbicaaHas
import Derived.Test.YtlfdnlomlbbicaaJKRName
import Derived.Test.YtlfdnlomlbbicaaRegC
namespace Go.Mx
open Go Go.RowKit
theorem strict_out {K l : List ByteArray} (h : Strict l) : Strict (outL K l) := List.Pairwise.sublist (List.filter_sublist ..) h
theorem dif_self {f : ByteArray → Option (List UInt8)} {a M N : List ByteArray} (h : CloN (nbF f) a M) (h' : CloN (nbF f) a N) : outL (uniqL (sortL (toldL f N) ++ sortL (lackL f N))) (sortL (toldL f M)) = [] := by
  refine List.eq_nil_iff_forall_not_mem.2 fun x hx => ?_
  obtain ⟨h1, h2⟩ := mem_outL.1 hx
  rw [(sortL_perm _).mem_iff, mem_told] at h1
  exact h2 ((mem_uniqL _ _).2 (List.mem_append.2 (.inl ((sortL_perm _).mem_iff.2 (mem_told.2 ⟨(h.eq h' x).1 h1.1, h1.2⟩)))))
end Go.Mx
namespace Go.Proofs.Ytlfdnlomlbbicaa
open Go.RowKit Go.Mx
set_option maxRecDepth 200000 in
set_option maxHeartbeats 8000000 in
theorem reachDiffersRow (vl : Value) (l : List (List UInt8)) {w : World} (hl : LL w vl l) (hz : ∀ x ∈ l, x.length ≤ reachBytes) (va : Value) (a : List ByteArray) (ha : Sl w 1 va a.length (ss a)) (_ha : ∀ x ∈ a, x.size ≤ maxLen) (vb : Value) (b : List ByteArray) (hb : Sl w 1 vb b.length (ss b)) (_hb : ∀ x ∈ b, x.size ≤ maxLen) (_w : World) :
    Calls Try.prog 6 #[vl, va, vb] w fun e w' => e = .returned (.bool true) ∧ Below w.heap.size w w' := by
  have HL := Mx.hid hl
  have HZ := Mx.hid hz
  have HA := Mx.hid ha
  have HB := Mx.hid hb
  obtain ⟨ao, ac, rfl, _⟩ := ha.form
  obtain ⟨bo, bc, rfl, _⟩ := hb.form
  obtain ⟨vs, hvl, hls, _⟩ := hl
  obtain ⟨lo, lc, rfl, _⟩ := hls.form
  clear hz ha hb hvl hls _ha _hb
  go_enter Try.func6, Try.ntmps6
  go_wp2_with fail
  refine (first12_any _).mono ?_
  rintro e w1 ⟨rfl, hk⟩
  go_wp2_with (first | ((with_reducible show wpList _ _ _ _ _ _); refine wpl_want rfl ?_))
  refine (few10_any _ l _ (LL.old hk HL.out) (fun x hx => by have := HZ.out x hx; unfold reachBytes at this; omega)).mono ?_
  rintro e w2 ⟨b1, rfl, hk2, hb1⟩
  replace hk := hk.call0 hk2
  clear hk2
  cases b1 with
  | false =>
    go_wp2_with (first | ((with_reducible show wpList _ _ _ _ _ _); refine wpl_want rfl ?_) | (go_at_call 23; refine (first12_any _).mono ?_; rintro e wf ⟨rfl, hkf⟩; replace hk := hk.call0 hkf))
    go_ret
    exact ⟨rfl, hk.below⟩
  | true =>
  obtain ⟨hl40, hl15, hl60⟩ := hb1 rfl
  go_wp2_with (first | ((with_reducible show wpList _ _ _ _ _ _); refine wpl_want rfl ?_))
  refine (few12_any _ a _ (hk.old HA.out)).mono ?_
  rintro e w3 ⟨⟨b2, rfl, hb2⟩, rfl⟩
  cases b2 with
  | false =>
    go_wp2_with (first | ((with_reducible show wpList _ _ _ _ _ _); refine wpl_want rfl ?_) | (go_at_call 23; refine (first12_any _).mono ?_; rintro e wf ⟨rfl, hkf⟩; replace hk := hk.call0 hkf))
    go_ret
    exact ⟨rfl, hk.below⟩
  | true =>
  have ha20 := hb2 rfl
  go_wp2_with (first | ((with_reducible show wpList _ _ _ _ _ _); refine wpl_want rfl ?_))
  refine (few12_any _ b _ (hk.old HB.out)).mono ?_
  rintro e w3 ⟨⟨b3, rfl, hb3⟩, rfl⟩
  cases b3 with
  | false =>
    go_wp2_with (first | ((with_reducible show wpList _ _ _ _ _ _); refine wpl_want rfl ?_) | (go_at_call 23; refine (first12_any _).mono ?_; rintro e wf ⟨rfl, hkf⟩; replace hk := hk.call0 hkf))
    go_ret
    exact ⟨rfl, hk.below⟩
  | true =>
  have hb20 := hb3 rfl
  clear hb1 hb2 hb3
  have HCL := Mx.hid (fun wx g2 g3 g5 v ids (h : SM wx g2 g3 g5 l false) (hv : Sl wx 1 v ids.length (ss ids)) (hil : ids.length ≤ 1000) => clo2000 g2 g3 g5 l false v ids wx h hl15 hl40 hl60 hv hil)
  have HDF := Mx.hid (fun wx g2 g3 g5 va vb a b (h : SM wx g2 g3 g5 l false) (ha : Sl wx 1 va a.length (ss a)) (hb : Sl wx 1 vb b.length (ss b)) (h1 : a.length ≤ 20) (h2 : b.length ≤ 20) => diff2000 g2 g3 g5 l false va vb a b wx h hl15 hl40 hl60 ha hb h1 h2)
  go_wp2_with (first | ((with_reducible show wpList _ _ _ _ _ _); refine wpl_want rfl ?_))
  refine (source_any _ l false _ (LL.old hk HL.out) (fun x hx => by have := hl15 x hx; omega) (by omega)).mono ?_
  rintro e w4 ⟨g2, g3, g5, rfl, hk4, hm4⟩
  replace hk := hk.call0 hk4
  clear hk4 HL HZ hl15 hl40 hl60
  generalize srcF l false = f at *
  go_wp2_with fail
  refine (HDF.out _ _ _ _ _ _ a b hm4 (hk.old HA.out) (hk.old HB.out) ha20 hb20).mono ?_
  rintro e w5 ⟨M0, N0, hcM0, hnM0, hcN0, hnN0, ⟨hlk, rfl, h5⟩ | ⟨hlk, vd, rfl, h5⟩⟩
  · have hm5 := hm4.keep h5
    have hk5 := hk.call0 h5
    go_wp2_with fail
    refine (HCL.out _ _ _ _ _ a hm5 (hk5.old HA.out) (by omega)).mono ?_
    rintro e w6 ⟨vx, vy, M, rfl, h6, hcM, hnM, hlM⟩
    obtain ⟨xo, xc, rfl, _⟩ := id h6.sl0
    obtain ⟨yo, yc, rfl, _⟩ := id h6.sl1
    have hk6 := hk5.call0 h6.bare
    go_wp2_with fail
    refine (HCL.out _ _ _ _ _ b (hm5.keep h6.bare) (hk6.old HB.out) (by omega)).mono ?_
    rintro e w7 ⟨vp, vq, N, rfl, h7, hcN, hnN, hlN⟩
    obtain ⟨po, pc, rfl, _⟩ := id h7.sl0
    obtain ⟨qo, qc, rfl, _⟩ := id h7.sl1
    have hk7 := hk6.call0 h7.bare
    have hpos : 0 < (lackL f M).length := by
      have h8 := clo_lack hcM0 hnM0 hcM hnM
      refine List.length_pos_iff.2 fun h9 => hlk (sort_nil.1 (h8.trans (sort_nil.2 h9)))
    clear hcM0 hnM0 hcN0 hnN0 hlk hcM hnM hcN hnN HCL HDF
    go_wp2_with (first | ((with_reducible show wpList _ _ _ _ _ _); refine wpl_want rfl ?_) | (go_at_call 23; refine (first12_any _).mono ?_; rintro e wf ⟨rfl, hkf⟩; replace hk7 := hk7.call0 hkf))
    go_ret
    exact ⟨rfl, hk7.below⟩
  · have hm5 := hm4.keep h5.bare
    have hk5 := hk.call0 h5.bare
    obtain ⟨do1, dc, rfl, _⟩ := id h5.sl0
    go_wp2_with fail
    refine (HCL.out _ _ _ _ _ a hm5 (hk5.old HA.out) (by omega)).mono ?_
    rintro e w6 ⟨vx, vy, M, rfl, h6, hcM, hnM, hlM⟩
    obtain ⟨xo, xc, rfl, _⟩ := id h6.sl0
    obtain ⟨yo, yc, rfl, _⟩ := id h6.sl1
    have hm6 := hm5.keep h6.bare
    have hk6 := hk5.call0 h6.bare
    go_wp2_with fail
    refine (HCL.out _ _ _ _ _ b hm6 (hk6.old HB.out) (by omega)).mono ?_
    rintro e w7 ⟨vp, vq, N, rfl, h7, hcN, hnN, hlN⟩
    obtain ⟨po, pc, rfl, _⟩ := id h7.sl0
    obtain ⟨qo, qc, rfl, _⟩ := id h7.sl1
    have hm7 := hm6.keep h7.bare
    have hk7 := hk6.call0 h7.bare
    have E1 := clo_told hcM0 hnM0 hcM hnM
    have E2 := clo_told hcN0 hnN0 hcN hnN
    have E3 := clo_lack hcN0 hnN0 hcN hnN
    have E4 := clo_lack hcM0 hnM0 hcM hnM
    rw [E1, E2, E3] at h5 ⊢
    have hlk2 : lackL f M = [] := sort_nil.1 (E4.symm.trans (sort_nil.2 hlk))
    have SD := (h6.bare.call0 h7.bare).old h5.sl0
    have SX : Sl w7 1 (.slice xo (toldL f M).length xc) (sortL (toldL f M)).length (ss (sortL (toldL f M))) := by rw [sortL_len]; exact h7.bare.old h6.sl0
    have SP : Sl w7 1 (.slice po (toldL f N).length pc) (sortL (toldL f N)).length (ss (sortL (toldL f N))) := by rw [sortL_len]; exact h7.sl0
    have SQ : Sl w7 1 (.slice qo (lackL f N).length qc) (sortL (lackL f N)).length (ss (sortL (lackL f N))) := by rw [sortL_len]; exact h7.sl1
    have hy0 : (lackL f M).length = 0 := by rw [hlk2]; rfl
    have LX : (sortL (toldL f M)).length = (toldL f M).length := sortL_len _
    have LM := told_len f M
    have HAA := Mx.hid (fun wx (hs : St w7 wx [] []) => HDF.out wx g2 g3 g5 _ _ a a (hm7.keep hs) (hs.old (hk7.old HA.out)) (hs.old (hk7.old HA.out)) ha20 ha20)
    have HCM := Mx.hid (And.intro hcM hnM)
    have HSX := Mx.hid (strict_sort (told_nodup (f := f) hnM))
    have HLK := Mx.hid hlk2
    have HK7 := Mx.hid hk7
    clear E1 E2 E3 E4 hlk hlk2 hcM hnM hcN hnN hcM0 hcN0 hnM0 hnN0 HCL HDF hm4 hm5 hm6 hm7 h5 h6 h7 hk5 hk6 hk HA HB
    clear LX
    simp only [← sortL_len (toldL f M), ← sortL_len (toldL f N), ← sortL_len (lackL f N), ← sortL_len (lackL f M)] at *
    obtain ⟨_, _, blk, off, hvv, _, _, _, hcc⟩ := SX.txt
    have HX := Mx.hid hcc
    cases hvv
    clear hcc
    have HD := Mx.hid (fun x wx (hs : St w7 wx [] []) => has_any _ _ wx (hs.old SD) x)
    have HP := Mx.hid (fun x wx (hs : St w7 wx [] []) => has_any _ _ wx (hs.old SP) x)
    have HQ := Mx.hid (fun x wx (hs : St w7 wx [] []) => has_any _ _ wx (hs.old SQ) x)
    have HSD := Mx.hid SD
    have HHX := Mx.hid (fun x wx (hs : St w7 wx [] []) => has_any _ _ wx (hs.old SX) x)
    have HRD := Mx.hid (strict_rises (strict_out (K := uniqL (sortL (toldL f N) ++ sortL (lackL f N))) HSX.out))
    clear SD SX SP SQ
    have HDX := Mx.hid (fun x => (mem_outL (K := uniqL (sortL (toldL f N) ++ sortL (lackL f N))) (l := sortL (toldL f M)) (x := x)))
    have HTM := Mx.hid (fun x => (mem_uniqL (sortL (toldL f N) ++ sortL (lackL f N)) x).trans List.mem_append)
    generalize outL (uniqL (sortL (toldL f N) ++ sortL (lackL f N))) (sortL (toldL f M)) = D at *
    generalize uniqL (sortL (toldL f N) ++ sortL (lackL f N)) = T at *
    generalize sortL (toldL f N) = P at *
    generalize sortL (lackL f N) = Q at *
    go_wp2_with (first | ((with_reducible show wpList _ _ _ _ _ _); refine wpl_want rfl ?_))
    go_loopw [16] (fun y wr => ∃ i : Nat, y = .int .i64 i ∧ i ≤ (sortL (toldL f M)).length ∧ St w7 wr [] []) (fun y _ => (sortL (toldL f M)).length - (intOf y).toNat)
    case atStart => exact ⟨0, rfl, by omega, St.refl w7⟩
    case round =>
      obtain ⟨i, rfl, hi, hq⟩ := hrel
      by_cases hlt : i < (sortL (toldL f M)).length
      · obtain ⟨rfl, c1⟩ := HX.out i hlt
        have hmx : (sortL (toldL f M))[i] ∈ sortL (toldL f M) := List.getElem_mem hlt
        have hX0 := Mx.hid c1
        replace c1 := hq.keep c1
        generalize (sortL (toldL f M))[i] = x at *
        have HD1 := Mx.hid (HD.out x)
        have HP1 := Mx.hid (HP.out x)
        have HQ1 := Mx.hid (HQ.out x)
        by_cases hp : x ∈ P
        · have hd : x ∉ D := fun h => ((HDX.out x).1 h).2 ((HTM.out x).2 (.inl hp))
          rw [hasT_iff.2 hp] at HP1
          rw [hasT_not.2 hd] at HD1
          clear hp hd hmx
          go_wp2_with fail
          refine wp_region_C (fun W' => St w7 W' [] []) (by kernel_rfl) (by kernel_rfl) (by exact hq.drew) ?_
          repeat ((first | (refine cq_y0 (v := ?_) (by with_reducible rfl) ?_ ?_; rotate_left 1; (focus (intro wq hq; (try dsimp only at hq); (have y1 := hq.keep (hX0.out)); go_simp; (first | done | with_reducible rfl | (go_at_call 31; (with_reducible show Calls _ _ #[Value.slice do1 _ _, _] _ _); refine (HD1.out _ hq).mono ?_; rintro e w9 ⟨rfl, rfl⟩; refine ⟨?_, hq⟩; with_reducible rfl) | (go_at_call 31; (with_reducible show Calls _ _ #[Value.slice po _ _, _] _ _); refine (HP1.out _ hq).mono ?_; rintro e w9 ⟨rfl, rfl⟩; refine ⟨?_, hq⟩; with_reducible rfl) | (go_at_call 31; (with_reducible show Calls _ _ #[Value.slice qo _ _, _] _ _); refine (HQ1.out _ hq).mono ?_; rintro e w9 ⟨rfl, rfl⟩; refine ⟨?_, hq⟩; with_reducible rfl))))) | (refine cq_no (by go_simp; first | done | (intro h9; cases h9)) ?_) | (refine cq_yes (v := ?_) (by go_simp) ?_ ?_; rotate_left 1; (focus (intro wq hq; (try dsimp only at hq); (have y1 := hq.keep (hX0.out)); go_simp; (first | done | with_reducible rfl | (go_at_call 31; (with_reducible show Calls _ _ #[Value.slice do1 _ _, _] _ _); refine (HD1.out _ hq).mono ?_; rintro e w9 ⟨rfl, rfl⟩; refine ⟨?_, hq⟩; with_reducible rfl) | (go_at_call 31; (with_reducible show Calls _ _ #[Value.slice po _ _, _] _ _); refine (HP1.out _ hq).mono ?_; rintro e w9 ⟨rfl, rfl⟩; refine ⟨?_, hq⟩; with_reducible rfl) | (go_at_call 31; (with_reducible show Calls _ _ #[Value.slice qo _ _, _] _ _); refine (HQ1.out _ hq).mono ?_; rintro e w9 ⟨rfl, rfl⟩; refine ⟨?_, hq⟩; with_reducible rfl)))))); (try simp only [Act.put, List.setIfInBounds_toArray, List.set_cons_zero, List.set_cons_succ]))
          refine cq_nil ?_
          intro wq hq
          (try dsimp only at hq)
          go_wp2_with (first | ((with_reducible show wpList _ _ _ _ _ _); refine wpl_want rfl ?_))
          exact ⟨⟨i + 1, by go_num, by omega, hq⟩, by simp [intOf]; omega⟩
        · by_cases hqq : x ∈ Q
          · have hd : x ∉ D := fun h => ((HDX.out x).1 h).2 ((HTM.out x).2 (.inr hqq))
            rw [hasT_not.2 hp] at HP1
            rw [hasT_iff.2 hqq] at HQ1
            rw [hasT_not.2 hd] at HD1
            clear hp hd hmx hqq
            go_wp2_with fail
            refine wp_region_C (fun W' => St w7 W' [] []) (by kernel_rfl) (by kernel_rfl) (by exact hq.drew) ?_
            repeat ((first | (refine cq_y0 (v := ?_) (by with_reducible rfl) ?_ ?_; rotate_left 1; (focus (intro wq hq; (try dsimp only at hq); (have y1 := hq.keep (hX0.out)); go_simp; (first | done | with_reducible rfl | (go_at_call 31; (with_reducible show Calls _ _ #[Value.slice do1 _ _, _] _ _); refine (HD1.out _ hq).mono ?_; rintro e w9 ⟨rfl, rfl⟩; refine ⟨?_, hq⟩; with_reducible rfl) | (go_at_call 31; (with_reducible show Calls _ _ #[Value.slice po _ _, _] _ _); refine (HP1.out _ hq).mono ?_; rintro e w9 ⟨rfl, rfl⟩; refine ⟨?_, hq⟩; with_reducible rfl) | (go_at_call 31; (with_reducible show Calls _ _ #[Value.slice qo _ _, _] _ _); refine (HQ1.out _ hq).mono ?_; rintro e w9 ⟨rfl, rfl⟩; refine ⟨?_, hq⟩; with_reducible rfl))))) | (refine cq_no (by go_simp; first | done | (intro h9; cases h9)) ?_) | (refine cq_yes (v := ?_) (by go_simp) ?_ ?_; rotate_left 1; (focus (intro wq hq; (try dsimp only at hq); (have y1 := hq.keep (hX0.out)); go_simp; (first | done | with_reducible rfl | (go_at_call 31; (with_reducible show Calls _ _ #[Value.slice do1 _ _, _] _ _); refine (HD1.out _ hq).mono ?_; rintro e w9 ⟨rfl, rfl⟩; refine ⟨?_, hq⟩; with_reducible rfl) | (go_at_call 31; (with_reducible show Calls _ _ #[Value.slice po _ _, _] _ _); refine (HP1.out _ hq).mono ?_; rintro e w9 ⟨rfl, rfl⟩; refine ⟨?_, hq⟩; with_reducible rfl) | (go_at_call 31; (with_reducible show Calls _ _ #[Value.slice qo _ _, _] _ _); refine (HQ1.out _ hq).mono ?_; rintro e w9 ⟨rfl, rfl⟩; refine ⟨?_, hq⟩; with_reducible rfl)))))); (try simp only [Act.put, List.setIfInBounds_toArray, List.set_cons_zero, List.set_cons_succ]))
            refine cq_nil ?_
            intro wq hq
            (try dsimp only at hq)
            go_wp2_with (first | ((with_reducible show wpList _ _ _ _ _ _); refine wpl_want rfl ?_))
            exact ⟨⟨i + 1, by go_num, by omega, hq⟩, by simp [intOf]; omega⟩
          · have hd : x ∈ D := (HDX.out x).2 ⟨hmx, fun h => ((HTM.out x).1 h).elim hp hqq⟩
            rw [hasT_not.2 hp] at HP1
            rw [hasT_not.2 hqq] at HQ1
            rw [hasT_iff.2 hd] at HD1
            clear hp hd hmx hqq
            go_wp2_with fail
            refine wp_region_C (fun W' => St w7 W' [] []) (by kernel_rfl) (by kernel_rfl) (by exact hq.drew) ?_
            repeat ((first | (refine cq_y0 (v := ?_) (by with_reducible rfl) ?_ ?_; rotate_left 1; (focus (intro wq hq; (try dsimp only at hq); (have y1 := hq.keep (hX0.out)); go_simp; (first | done | with_reducible rfl | (go_at_call 31; (with_reducible show Calls _ _ #[Value.slice do1 _ _, _] _ _); refine (HD1.out _ hq).mono ?_; rintro e w9 ⟨rfl, rfl⟩; refine ⟨?_, hq⟩; with_reducible rfl) | (go_at_call 31; (with_reducible show Calls _ _ #[Value.slice po _ _, _] _ _); refine (HP1.out _ hq).mono ?_; rintro e w9 ⟨rfl, rfl⟩; refine ⟨?_, hq⟩; with_reducible rfl) | (go_at_call 31; (with_reducible show Calls _ _ #[Value.slice qo _ _, _] _ _); refine (HQ1.out _ hq).mono ?_; rintro e w9 ⟨rfl, rfl⟩; refine ⟨?_, hq⟩; with_reducible rfl))))) | (refine cq_no (by go_simp; first | done | (intro h9; cases h9)) ?_) | (refine cq_yes (v := ?_) (by go_simp) ?_ ?_; rotate_left 1; (focus (intro wq hq; (try dsimp only at hq); (have y1 := hq.keep (hX0.out)); go_simp; (first | done | with_reducible rfl | (go_at_call 31; (with_reducible show Calls _ _ #[Value.slice do1 _ _, _] _ _); refine (HD1.out _ hq).mono ?_; rintro e w9 ⟨rfl, rfl⟩; refine ⟨?_, hq⟩; with_reducible rfl) | (go_at_call 31; (with_reducible show Calls _ _ #[Value.slice po _ _, _] _ _); refine (HP1.out _ hq).mono ?_; rintro e w9 ⟨rfl, rfl⟩; refine ⟨?_, hq⟩; with_reducible rfl) | (go_at_call 31; (with_reducible show Calls _ _ #[Value.slice qo _ _, _] _ _); refine (HQ1.out _ hq).mono ?_; rintro e w9 ⟨rfl, rfl⟩; refine ⟨?_, hq⟩; with_reducible rfl)))))); (try simp only [Act.put, List.setIfInBounds_toArray, List.set_cons_zero, List.set_cons_succ]))
            refine cq_nil ?_
            intro wq hq
            (try dsimp only at hq)
            go_wp2_with (first | ((with_reducible show wpList _ _ _ _ _ _); refine wpl_want rfl ?_))
            exact ⟨⟨i + 1, by go_num, by omega, hq⟩, by simp [intOf]; omega⟩
      · go_wp2_with (first | ((with_reducible show wpList _ _ _ _ _ _); refine wpl_want rfl ?_))
        obtain ⟨_, _, blk2, off2, hvv, _, _, _, hcc⟩ := HSD.out.txt
        have HDC := Mx.hid hcc
        cases hvv
        clear hcc
        go_loopw [17] (fun y wr => ∃ i : Nat, y = .int .i64 i ∧ i ≤ D.length ∧ St w7 wr [] []) (fun y _ => D.length - (intOf y).toNat)
        case atStart => exact ⟨0, rfl, by omega, hq⟩
        case round =>
          clear hq hlt hi
          obtain ⟨j, rfl, hj, hq⟩ := hrel
          by_cases hlt : j < D.length
          · obtain ⟨rfl, d1⟩ := HDC.out j hlt
            have HX1 := Mx.hid (HHX.out D[j] _ hq)
            rw [hasT_iff.2 ((HDX.out _).1 (List.getElem_mem hlt)).1] at HX1
            replace d1 := hq.keep d1
            generalize D[j] = x at *
            go_wp2_with (go_at_call 31; refine HX1.out.mono ?_; rintro e w9 ⟨rfl, rfl⟩)
            exact ⟨⟨j + 1, by go_num, by omega, hq⟩, by simp [intOf]; omega⟩
          · go_wp2_with (first | ((with_reducible show wpList _ _ _ _ _ _); refine wpl_want rfl ?_))
            refine (HAA.out _ hq).mono ?_
            rintro e w10 ⟨M1, N1, hc1, hn1, hc2, hn2, ⟨hlk, rfl, h10⟩ | ⟨hlk, vz, rfl, h10⟩⟩
            · exact (hlk (sort_nil.1 ((clo_lack hc1 hn1 HCM.out.1 HCM.out.2).trans (sort_nil.2 HLK.out)))).elim
            · rw [dif_self hc1 hc2] at h10
              obtain ⟨zo, zc, rfl, _⟩ := id h10.sl0
              have hk := hq.call0 h10.bare
              clear hc1 hn1 hc2 hn2 hlk
              go_wp2_with (first | ((with_reducible show wpList _ _ _ _ _ _); refine wpl_want rfl ?_) | (go_at_call 23; refine (first12_any _).mono ?_; rintro e wf ⟨rfl, hkf⟩; replace hk := hk.call0 hkf) | (go_at_call 30; refine (rises_any _ D _ (hk.old HSD.out)).mono ?_; rintro e wf ⟨he, hkf⟩; rw [HRD.out] at he; subst he; replace hk := hk.call0 hkf))
              go_ret
              exact ⟨rfl, (HK7.out.call0 hk).below⟩
end Go.Proofs.Ytlfdnlomlbbicaa
