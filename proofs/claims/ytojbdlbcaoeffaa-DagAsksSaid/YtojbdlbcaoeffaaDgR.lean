/- Walk of the document's Order. -/
import Derived.Test.YtojbdlbcaoeffaaDgO
namespace Go.Proofs.Ytojbdlbcaoeffaa
open Go.RowKit Go.Mx

set_option maxRecDepth 100000 in
set_option maxHeartbeats 4000000 in
theorem xorder_any (x : Nat) (vi vp vs : Value) (L : List Nd) (PV : List Value) (v : Value) (ids : List ByteArray) (w : World) (h : XG w x vi vp vs L PV) (hw : WF L) (hL : L.length ≤ 2000) (hv : Sl w 1 v ids.length (ss ids)) (hl : ids.length ≤ 1000000) :
    Calls Try.prog 34 #[.pointer (some ⟨x, 0, none⟩), v] w (XOrdPost L ids w) := by
  have HAN := Mx.hid (xanc_any x vi vp vs L PV v ids w h hw hL hv hl)
  have HSP := Mx.hid (fun k w' R Q (hs : St w w' R Q) => xstamp_any x vi vp vs L PV k w' (h.old hs))
  have HW := Mx.hid hw
  obtain ⟨ao, cap, rfl, _⟩ := hv.form
  clear h hw hv
  go_enter Try.func34, Try.ntmps34
  go_wp2_with fail
  refine HAN.out.mono ?_
  rintro e w1 (⟨vm, M, rfl, hm, hc, hst⟩ | ⟨rfl, hm, hno⟩)
  case inr =>
    have HNO := Mx.hid hno
    clear hno
    go_wp2_with fail
    go_ret2
    exact .inr ⟨rfl, hm, HNO.out⟩
  obtain ⟨mo, mc, mb, mf, rfl, m1, m2, _, hmc⟩ := hm.sl0.txt
  have HM := Mx.hid hmc
  have hml := clo_short HW.out hc hst
  have HCM := Mx.hid (And.intro hc hst)
  have HK := Mx.hid hm.bare
  clear hm hc hst hmc HAN
  have hs0 := (St.refl w1).addNil 9 1
  go_wp2_with fail
  go_loopw [8, 9] (fun q y wr => ∃ (i : Nat) (O : List ByteArray) (vo : Value), vo = q ∧ y = .int .i64 i ∧ i ≤ M.length ∧ Hid (O.Perm (M.take i) ∧ O.Pairwise (OrdR (fS L))) ∧ O.length ≤ i ∧ St w1 wr [⟨vo, 9, 1, O.length, ss O⟩] []) (fun _ y _ => M.length - (intOf y).toNat)
  case atStart => exact ⟨0, [], _, rfl, rfl, by omega, by simp [Hid], by simp, hs0⟩
  case round =>
    clear hs0
    obtain ⟨i, O, vo, rfl, rfl, hi, HO, hol, hs⟩ := hrel
    by_cases hlt : i < M.length
    · obtain ⟨rfl, c0⟩ := HM.out i hlt
      have HTK := Mx.hid (List.take_succ_eq_append_getElem hlt)
      have HLT := Mx.hid (show ∀ y ∈ O, lt y M[i] = true from fun y hy => by
        obtain ⟨j, hj, rfl⟩ := List.mem_take_iff_getElem.1 (HO.out.1.mem_iff.1 hy)
        exact List.pairwise_iff_getElem.1 HCM.out.2 j i (by omega) hlt (by omega))
      generalize M[i] = nm at *
      have hii : (i : Int) < (M.length : Int) := by omega
      go_wp2_with ((with_reducible show wpList _ _ _ _ _ _); refine wpl_len rfl 26 9 _ rfl Try.underlying26 (by exact hs.sl0) ?_)
      go_loopw [10] (fun z ws => ∃ k : Nat, k ≤ O.length ∧ z = .int .i64 k ∧ Hid (∀ y ∈ O.drop k, fS L nm < fS L y) ∧ St w1 ws [⟨vo, 9, 1, O.length, ss O⟩] []) (fun z _ => (intOf z).toNat)
      case atStart => exact ⟨O.length, by omega, rfl, by rw [List.drop_of_length_le (by omega)]; simp [Hid], hs⟩
      case round =>
        clear hs
        obtain ⟨k, hk, rfl, HG, hs⟩ := hrel
        match k with
        | 0 =>
          have HT2 : Hid (0 = 0 ∨ fS L (gv O (0 - 1)) ≤ fS L nm) := Mx.hid (.inl rfl)
          go_wp2_with fail
          refine wp_region_C (fun W' => St w1 W' [⟨vo, 9, 1, O.length, ss O⟩] []) (by kernel_rfl) (by kernel_rfl) (by exact hs.drew) ?_
          repeat ((first | (refine cq_y0 (v := ?_) (by with_reducible rfl) ?_ ?_; rotate_left 1; (focus (intro wq hq; (try dsimp only at hq); skip; go_simp; (first | done | with_reducible rfl | fail)))) | (refine cq_no (by go_simp; first | done | (intro h9; cases h9)) ?_) | (refine cq_yes (v := ?_) (by go_simp) ?_ ?_; rotate_left 1; (focus (intro wq hq; (try dsimp only at hq); skip; go_simp; (first | done | with_reducible rfl | fail))))); (try simp only [Act.put, List.setIfInBounds_toArray, List.set_cons_zero, List.set_cons_succ]))
          refine cq_nil ?_
          intro wq hq
          (try dsimp only at hq)
          go_wp2_with fail
          have cq := hq.keep c0
          obtain ⟨v1, r1, t1⟩ := hq.cutTo Try.elStr (0) (by omega)
          obtain ⟨v2, r2, t2⟩ := hq.sl0.cutRun Try.elStr (some (.int .i64 (0))) none (0) O.length (.inr ⟨.i64, rfl⟩) (.inl ⟨rfl, rfl⟩) (by omega) (Nat.le_refl _)
          replace t1 := Mx.hid t1
          replace t2 := Mx.hid t2
          replace r1 : ∀ w', (Instr.sliceAt 26 vo none (some (.int .i64 (0))) none).run Try.prog w' = .ok v1 w' := r1
          go_region_held3 (fun W => W.cell? ⟨mb, mf + i, none⟩ = some (.string nm)) (first | exact hA2.keep c0 | exact hA1.keep c0 | go_keep) (first
            | (have := hA1; refine step_app rfl _ _ 26 rfl Try.elStr (t1.out _ _ _ hA1.swap) rfl (by exact hA1.sl0) (by intro u hu; rcases List.mem_append.1 hu with hu | hu; (simp at hu; subst hu; rfl); exact ss_one O u (List.mem_of_mem_take (List.mem_of_mem_drop hu))) (by omega) ?_; intro vb wb hA2 _)
            | (refine step_app rfl _ _ 26 rfl Try.elStr (hq.drew.made #[.string nm] 9 1 1 rfl (by simp [maxLen])) rfl (by exact t2.out _ (hq.drew.made #[.string nm] 9 1 1 rfl (by simp [maxLen])).tail.sl0) (by intro u hu; exact ss_one O u (List.mem_of_mem_take (List.mem_of_mem_drop hu))) (by omega) ?_; intro va wa hA1 _))
          go_wp2_with fail
          go_roundw
          case rel => exact ⟨i + 1, O.take (0) ++ ([nm] ++ O.drop (0)), vb, rfl, by go_num, by omega, Mx.hid ⟨by rw [HTK.out]; exact perm_ins HO.out.1, ord_ins (by omega) HO.out.2 HLT.out HG.out (by first | exact Or.inl rfl | exact HT2.out)⟩, by simp; omega, hA2.head.cast (by simp; omega) (cells_ins O nm O.length _ rfl)⟩
          case measure => simp [intOf]; omega
        | j + 1 =>
          have hjO : j < O.length := by omega
          obtain ⟨g, cp, hv, hg1, hg2, hg3, hg4⟩ := hs.form0 (by omega)
          have HCO := Mx.hid (fun (W' : World) (hq : St w1 W' [⟨vo, 9, 1, O.length, ss O⟩] []) => (show W'.cell? ⟨g, j, none⟩ = some (.string O[j]) from by
            rw [hv] at hq
            exact hq.cell (ss_get hjO)))
          have HGV := Mx.hid (show gv O (j + 1 - 1) = O[j] from gv_eq hjO)
          have HDR := Mx.hid (List.drop_eq_getElem_cons hjO)
          have hj0 : decide (0 < (j : Int) + 1) = true := decide_eq_true (by omega)
          have hjj : (j : Int) < (O.length : Int) := by omega
          have k1 : IntKind.i64.wrap (j : Int) = (j : Int) := IntWalk.i64_in _ (by omega)
          have HS1 := Mx.hid (fun W' (hq : St w1 W' [⟨vo, 9, 1, O.length, ss O⟩] []) => HSP.out O[j] W' _ _ (HK.out.call hq))
          have HS2 := Mx.hid (fun W' (hq : St w1 W' [⟨vo, 9, 1, O.length, ss O⟩] []) => HSP.out nm W' _ _ (HK.out.call hq))
          have HF1 := Mx.hid (show fS L O[j] = - stampL L O[j] from rfl)
          have HF2 := Mx.hid (show fS L nm = - stampL L nm from rfl)
          clear hg1 hg2 hg3 hg4
          generalize O[j] = y at *
          generalize stampL L y = sa at *
          generalize stampL L nm = sb at *
          by_cases hlt2 : sa < sb
          · have hd : decide (sa < sb) = true := decide_eq_true hlt2
            have HG2 : Hid (∀ y ∈ O.drop j, fS L nm < fS L y) := Mx.hid (by
              rw [HDR.out]
              intro z hz
              rcases List.mem_cons.1 hz with rfl | hz
              · rw [HF1.out, HF2.out]; omega
              · exact HG.out z hz)
            clear hlt2
            rw [hv]
            replace hv := Mx.hid hv
            go_wp2_with fail
            refine wp_region_C (fun W' => St w1 W' [⟨vo, 9, 1, O.length, ss O⟩] []) (by kernel_rfl) (by kernel_rfl) (by exact hs.drew) ?_
            repeat ((first | (refine cq_y0 (v := ?_) (by with_reducible rfl) ?_ ?_; rotate_left 1; (focus (intro wq hq; (try dsimp only at hq); (have y0 := HCO.out _ hq; have y1 := hq.keep c0); go_simp; (first | done | with_reducible rfl | (go_at_call 29; (with_reducible show Calls _ _ #[_, Value.string y] _ _); refine (HS1.out _ hq).mono ?_; rintro e w9 ⟨rfl, hk9⟩; refine ⟨?_, hq.call0 hk9⟩; with_reducible rfl) | (go_at_call 29; (with_reducible show Calls _ _ #[_, Value.string nm] _ _); refine (HS2.out _ hq).mono ?_; rintro e w9 ⟨rfl, hk9⟩; refine ⟨?_, hq.call0 hk9⟩; with_reducible rfl))))) | (refine cq_no (by go_simp; first | done | (intro h9; cases h9)) ?_) | (refine cq_yes (v := ?_) (by go_simp) ?_ ?_; rotate_left 1; (focus (intro wq hq; (try dsimp only at hq); (have y0 := HCO.out _ hq; have y1 := hq.keep c0); go_simp; (first | done | with_reducible rfl | (go_at_call 29; (with_reducible show Calls _ _ #[_, Value.string y] _ _); refine (HS1.out _ hq).mono ?_; rintro e w9 ⟨rfl, hk9⟩; refine ⟨?_, hq.call0 hk9⟩; with_reducible rfl) | (go_at_call 29; (with_reducible show Calls _ _ #[_, Value.string nm] _ _); refine (HS2.out _ hq).mono ?_; rintro e w9 ⟨rfl, hk9⟩; refine ⟨?_, hq.call0 hk9⟩; with_reducible rfl)))))); (try simp only [Act.put, List.setIfInBounds_toArray, List.set_cons_zero, List.set_cons_succ]))
            refine cq_nil ?_
            intro wq hq
            (try dsimp only at hq)
            go_wp2_with fail
            rw [← hv.out]
            exact ⟨⟨j, by omega, by go_num, HG2, hq⟩, by simp [intOf]⟩
          · have hd : decide (sa < sb) = false := decide_eq_false hlt2
            have HT2 : Hid (j + 1 = 0 ∨ fS L (gv O (j + 1 - 1)) ≤ fS L nm) := Mx.hid (.inr (by rw [HGV.out, HF1.out, HF2.out]; omega))
            clear hlt2
            rw [hv]
            replace hv := Mx.hid hv
            go_wp2_with fail
            refine wp_region_C (fun W' => St w1 W' [⟨vo, 9, 1, O.length, ss O⟩] []) (by kernel_rfl) (by kernel_rfl) (by exact hs.drew) ?_
            repeat ((first | (refine cq_y0 (v := ?_) (by with_reducible rfl) ?_ ?_; rotate_left 1; (focus (intro wq hq; (try dsimp only at hq); (have y0 := HCO.out _ hq; have y1 := hq.keep c0); go_simp; (first | done | with_reducible rfl | (go_at_call 29; (with_reducible show Calls _ _ #[_, Value.string y] _ _); refine (HS1.out _ hq).mono ?_; rintro e w9 ⟨rfl, hk9⟩; refine ⟨?_, hq.call0 hk9⟩; with_reducible rfl) | (go_at_call 29; (with_reducible show Calls _ _ #[_, Value.string nm] _ _); refine (HS2.out _ hq).mono ?_; rintro e w9 ⟨rfl, hk9⟩; refine ⟨?_, hq.call0 hk9⟩; with_reducible rfl))))) | (refine cq_no (by go_simp; first | done | (intro h9; cases h9)) ?_) | (refine cq_yes (v := ?_) (by go_simp) ?_ ?_; rotate_left 1; (focus (intro wq hq; (try dsimp only at hq); (have y0 := HCO.out _ hq; have y1 := hq.keep c0); go_simp; (first | done | with_reducible rfl | (go_at_call 29; (with_reducible show Calls _ _ #[_, Value.string y] _ _); refine (HS1.out _ hq).mono ?_; rintro e w9 ⟨rfl, hk9⟩; refine ⟨?_, hq.call0 hk9⟩; with_reducible rfl) | (go_at_call 29; (with_reducible show Calls _ _ #[_, Value.string nm] _ _); refine (HS2.out _ hq).mono ?_; rintro e w9 ⟨rfl, hk9⟩; refine ⟨?_, hq.call0 hk9⟩; with_reducible rfl)))))); (try simp only [Act.put, List.setIfInBounds_toArray, List.set_cons_zero, List.set_cons_succ]))
            refine cq_nil ?_
            intro wq hq
            (try dsimp only at hq)
            go_wp2_with fail
            rw [← hv.out]
            clear hv
            have cq := hq.keep c0
            obtain ⟨v1, r1, t1⟩ := hq.cutTo Try.elStr (j + 1) (by omega)
            obtain ⟨v2, r2, t2⟩ := hq.sl0.cutRun Try.elStr (some (.int .i64 (j + 1))) none (j + 1) O.length (.inr ⟨.i64, rfl⟩) (.inl ⟨rfl, rfl⟩) (by omega) (Nat.le_refl _)
            replace t1 := Mx.hid t1
            replace t2 := Mx.hid t2
            replace r1 : ∀ w', (Instr.sliceAt 26 vo none (some (.int .i64 (j + 1))) none).run Try.prog w' = .ok v1 w' := r1
            go_region_held3 (fun W => W.cell? ⟨mb, mf + i, none⟩ = some (.string nm)) (first | exact hA2.keep c0 | exact hA1.keep c0 | go_keep) (first
              | (have := hA1; refine step_app rfl _ _ 26 rfl Try.elStr (t1.out _ _ _ hA1.swap) rfl (by exact hA1.sl0) (by intro u hu; rcases List.mem_append.1 hu with hu | hu; (simp at hu; subst hu; rfl); exact ss_one O u (List.mem_of_mem_take (List.mem_of_mem_drop hu))) (by omega) ?_; intro vb wb hA2 _)
              | (refine step_app rfl _ _ 26 rfl Try.elStr (hq.drew.made #[.string nm] 9 1 1 rfl (by simp [maxLen])) rfl (by exact t2.out _ (hq.drew.made #[.string nm] 9 1 1 rfl (by simp [maxLen])).tail.sl0) (by intro u hu; exact ss_one O u (List.mem_of_mem_take (List.mem_of_mem_drop hu))) (by omega) ?_; intro va wa hA1 _))
            go_wp2_with fail
            go_roundw
            case rel => exact ⟨i + 1, O.take (j + 1) ++ ([nm] ++ O.drop (j + 1)), vb, rfl, by go_num, by omega, Mx.hid ⟨by rw [HTK.out]; exact perm_ins HO.out.1, ord_ins (by omega) HO.out.2 HLT.out HG.out (by first | exact Or.inl rfl | exact HT2.out)⟩, by simp; omega, hA2.head.cast (by simp; omega) (cells_ins O nm O.length _ rfl)⟩
            case measure => simp [intOf]; omega
    · rw [List.take_of_length_le (show M.length ≤ i by omega)] at HO
      go_wp2_with fail
      go_ret2
      exact .inl ⟨vo, M, O, rfl, (HK.out.call hs).sub (by simp) (by simp), HCM.out.1, HCM.out.2, HO.out.1, HO.out.2⟩
end Go.Proofs.Ytojbdlbcaoeffaa
