/- Walk of the law DagOrder. -/
import Derived.Test.YtojbdlbcaoeffaaDagG
import Derived.Test.YtojbdlbcaoeffaaDagR
namespace Go.Mx
open Go Go.RowKit
structure OrdFact (L : List Nd) (ids M l : List ByteArray) : Prop where
  len : l.length = M.length
  uniq : uniqL l = M
  par : ∀ i (hi : i < l.length), ∀ p ∈ parsG L l[i], p ∈ l.drop (i + 1) ∧ isB L p l[i] = true ∧ isB L l[i] p = false ∧ stampL L p < stampL L l[i]
  ids : ∀ x ∈ ids, x ∈ M
theorem ord_fact {L : List Nd} (hw : WF L) {ids M l : List ByteArray} (hc : Clo L ids M) (hs : Strict M) (hm : Mov (kO L) M l 0 M.length) (hr : Rise (kO L) l 0 M.length) : OrdFact L ids M l where
  len := hm.len
  uniq := (eq_uniqL hs fun x => hm.perm.mem_iff.symm).symm
  par i hi p hp := by
    have hmem : l[i] ∈ M := hm.perm.mem_iff.1 (List.getElem_mem hi)
    obtain ⟨n, hn⟩ := hc.isin hw _ hmem
    have hpars : parsG L l[i] = n.1 := by unfold parsG; rw [hn]
    rw [hpars] at hp
    obtain ⟨q, hq, hlt⟩ := (hw.par hn).1 p hp
    have hanc : Anc L p l[i] := .step hn hp (.refl _)
    have hpM : p ∈ M := by
      obtain ⟨t, ht, ha⟩ := (hc.2 _).1 hmem
      exact (hc.2 p).2 ⟨t, ht, hanc.trans ha⟩
    have hpl : p ∈ l := hm.perm.mem_iff.2 hpM
    obtain ⟨j, hj, he⟩ := List.mem_iff_getElem.1 hpl
    have hsp : stampL L p = q.2 := by unfold stampL; rw [hq]
    have hsi : stampL L l[i] = n.2 := by unfold stampL; rw [hn]
    have hkp : kO L p = - q.2 := by unfold kO sV; rw [hq]
    have hki : kO L l[i] = - n.2 := by unfold kO sV; rw [hn]
    have hij : i < j := by
      by_cases h1 : i = j
      · subst h1
        rw [he, hkp] at hki
        omega
      · by_cases h2 : j < i
        · have h3 := hr j i (Nat.zero_le _) h2 (by rw [← hm.len]; exact hi)
          rw [gv_eq hj, gv_eq hi, he, hkp, hki] at h3
          omega
        · omega
    refine ⟨?_, isB_iff.2 ⟨hanc, n, hn⟩, ?_, by omega⟩
    · rw [← he]
      refine List.mem_iff_getElem.2 ⟨j - (i + 1), by rw [List.length_drop]; omega, ?_⟩
      rw [List.getElem_drop]
      congr 1
      omega
    · rw [Bool.eq_false_iff]
      intro h
      have h2 := hanc.antisymm hw (isB_iff.1 h).1 hn
      rw [h2] at hq
      rw [hn] at hq
      cases hq
      omega
  ids x hx := (hc.2 x).2 ⟨x, hx, .refl x⟩
theorem anc_same {L : List Nd} {ids M M' : List ByteArray} (h : Clo L ids M) (hs : Strict M) (h' : Clo L ids M') (hs' : Strict M') : M' = M := strict_eq hs' hs fun x => (h'.2 x).trans (h.2 x).symm
end Go.Mx
namespace Go.Proofs.Ytojbdlbcaoeffaa
open Go.RowKit Go.Mx

set_option maxRecDepth 200000 in
set_option maxHeartbeats 2000000 in
theorem dagOrderRow {w : World} (v : Value) (l : List Gd) (hl : ND w v l) (hok : ∀ q ∈ l, NdOk q) (vi : Value) (ids : List ByteArray) (hv : Sl w 1 vi ids.length (ss ids)) (_hz : ∀ x ∈ ids, x.size ≤ maxLen) (_w : World) :
    Calls Try.prog 6 #[v, vi] w fun e w' => e = .returned (.bool true) ∧ Below w.heap.size w w' := by
  have HV := Mx.hid hv
  have HMD := Mx.hid (fun w' (hs : St w w' [] []) => made_g v l w' (hl.old hs) hok)
  obtain ⟨ao, cap, blk, off, rfl, h1, h2, _, hcc⟩ := hv.txt
  have HC := Mx.hid hcc
  obtain ⟨av, cv, rfl, _⟩ := hl.1.form
  clear hcc hv hl hok _hz
  go_enter Try.func6, Try.ntmps6
  go_wp2_with fail
  refine (first_g _).mono ?_
  rintro e w1 ⟨rfl, hk⟩
  go_wp2_with fail
  refine (HMD.out _ hk).mono ?_
  clear HMD
  rintro e w2 (⟨rfl, hs2⟩ | ⟨g, B, G, rfl, hG, hlen, hg, hB, hs2⟩)
  · replace hk := hk.call0 hs2
    clear hs2
    go_wp2_with (first | ((with_reducible show wpList _ _ _ _ _ _); refine wpl_want rfl ?_) | (go_at_call 8; refine (first_g _).mono ?_; rintro e w9 ⟨rfl, h9⟩; replace hk := hk.call0 h9))
    go_ret
    exact ⟨rfl, hk.below⟩
  replace hk := hk.call0 hs2
  have HG := Mx.hid hG
  have HLEN := Mx.hid hlen
  clear hs2 hg hB hlen hG
  go_wp2_with (first | ((with_reducible show wpList _ _ _ _ _ _); refine wpl_want rfl ?_))
  refine (few_any _ ids _ (hk.old HV.out)).mono ?_
  rintro e w3 ⟨⟨b, rfl, hb⟩, rfl⟩
  cases b with
  | false =>
    clear hb
    go_wp2_with (first | ((with_reducible show wpList _ _ _ _ _ _); refine wpl_want rfl ?_) | (go_at_call 8; refine (first_g _).mono ?_; rintro e w9 ⟨rfl, h9⟩; replace hk := hk.call0 h9))
    go_ret
    exact ⟨rfl, hk.below⟩
  | true =>
  have hl20 := hb rfl
  clear hb
  have HO := Mx.hid (order_g g B G _ ids w2 HG.out HLEN.out (hk.old HV.out) (by omega))
  have HAN := Mx.hid (fun wx (hs : St w2 wx [] []) => ancestors_g g B G (.slice ao ids.length cap) ids wx (HG.out.keep hs).r HG.out.wf (hs.old (hk.old HV.out)) (by omega))
  go_wp2_with (first | ((with_reducible show wpList _ _ _ _ _ _); refine wpl_want rfl ?_))
  refine HO.out.mono ?_
  clear HO
  rintro e w4 (⟨vo, M, o, rfl, hs4, hcl, hst, hm40, hmv, hrz⟩ | ⟨vo, rfl, hs4, hno⟩)
  case inr =>
    obtain ⟨oa, oc, rfl, _⟩ := id hs4.sl0.form
    have HNO := Mx.hid hno
    have HQ := Mx.hid (hk.call0 hs4.bare)
    clear hno
    go_wp2_with fail
    refine (HAN.out _ hs4.bare).mono ?_
    rintro e w5 (⟨va, M2, rfl, hs5, hcl, _⟩ | ⟨va, rfl, hs5, _⟩)
    · exfalso
      obtain ⟨i, hi, hn⟩ := HNO.out
      obtain ⟨n, hn2⟩ := hcl.1 i hi
      rw [hn] at hn2
      cases hn2
    · obtain ⟨aa, ac, rfl, _⟩ := id hs5.sl0.form
      have hk := HQ.out.call0 hs5.bare
      clear hs5 hs4
      go_wp2_with (first | ((with_reducible show wpList _ _ _ _ _ _); refine wpl_want rfl ?_) | (go_at_call 8; refine (first_g _).mono ?_; rintro e w9 ⟨rfl, h9⟩; replace hk := hk.call0 h9))
      go_ret
      exact ⟨rfl, hk.below⟩
  have HCS := Mx.hid (And.intro hcl hst)
  have HF := Mx.hid (ord_fact HG.out.wf hcl hst hmv hrz)
  have HOL := Mx.hid hmv.len
  clear hcl hst hmv hrz
  obtain ⟨oa, oc, bo, oo, rfl, t1, t2, hol, hoc⟩ := hs4.sl0.txt
  have HOC := Mx.hid hoc
  clear hoc hol
  go_wp2_with fail
  refine (HAN.out _ hs4.bare).mono ?_
  rintro e w5 (⟨va, M2, rfl, hs5, hcl2, hst2, _⟩ | ⟨va, rfl, hs5, i, hi, hno⟩)
  case inr =>
    exfalso
    obtain ⟨n, hn2⟩ := HCS.out.1.1 i hi
    rw [hno] at hn2
    cases hn2
  obtain rfl := anc_same HCS.out.1 HCS.out.2 hcl2 hst2
  clear hcl2 hst2
  obtain ⟨aa, ac, rfl, _⟩ := id hs5.sl0.form
  have HO5 := Mx.hid (hs5.bare.old hs4.sl0)
  have HA5 := Mx.hid hs5.sl0
  have HG5 := Mx.hid (HG.out.keep (hs4.bare.call0 hs5.bare))
  have HV5 := Mx.hid ((hs4.bare.call0 hs5.bare).old (hk.old HV.out))
  have HC5 := Mx.hid (fun (i : Nat) (hi : i < ids.length) => (⟨(HC.out i hi).1, (hs4.bare.call0 hs5.bare).keep (hk.keep (HC.out i hi).2)⟩ : ao = some ⟨blk, off, none⟩ ∧ w5.cell? ⟨blk, off + i, none⟩ = some (.string ids[i])))
  have HOC5 := Mx.hid (fun (i : Nat) (hi : i < o.length) => (⟨(HOC.out i hi).1, hs5.keep (HOC.out i hi).2⟩ : oa = some ⟨bo, oo, none⟩ ∧ w5.cell? ⟨bo, oo + i, none⟩ = some (.string o[i])))
  replace hk := hk.call0 (hs4.bare.call0 hs5.bare)
  clear hs4 hs5 HAN HV HG HC HOC
  have HK := Mx.hid hk
  have HUN := Mx.hid (refUnique_any (.slice oa M2.length oc) o w5 (by rw [HOL.out]; exact HO5.out) (by rw [HOL.out]; omega))
  go_wp2_with ((with_reducible show wpList _ _ _ _ _ _); refine wpl_want rfl ?_)
  refine HUN.out.mono ?_
  clear HUN
  rintro e w6 ⟨vu, rfl, hs6⟩
  rw [HF.out.uniq] at hs6
  obtain ⟨ua, uc, rfl, _⟩ := id hs6.sl0.form
  have HTX := Mx.hid (texts_same _ (.slice aa M2.length ac) M2 M2 w6 hs6.sl0 (hs6.old HA5.out) rfl)
  have hj : St w5 w6 [] [] := hs6.bare
  clear hs6 hk
  go_wp2_with (first | ((with_reducible show wpList _ _ _ _ _ _); refine wpl_want rfl ?_) | (go_at_call 12; refine HTX.out.mono ?_; rintro e w9 ⟨rfl, h9⟩; replace hj := hj.call0 h9))
  clear HTX h9
  have HIS := Mx.hid (fun a b wx (hs : St w5 wx [] []) => is_c g B G a b wx (HG5.out.keep hs))
  have HST := Mx.hid (fun a wx (hs : St w5 wx [] []) => stamp_g g B G a wx (HG5.out.keep hs).r)
  have HPA := Mx.hid (fun a wx (hs : St w5 wx [] []) => parents_g g B G a wx (HG5.out.keep hs).r)
  have HH5 := Mx.hid (fun s wx (hs : St w5 wx [] []) => has_any (.slice aa M2.length ac) M2 wx (hs.old HA5.out) s)
  have HFI := Mx.hid HF.out.ids
  have HFP := Mx.hid HF.out.par
  have HSB := Mx.hid HG5.out.st
  generalize hL : List.map (·.2) G = L at *
  generalize hf : isB L = f at *
  generalize hsl : stampL L = sl at *
  clear hf hsl hL HF HCS

  go_wp2_with fail
  go_loopw [10, 11, 12] (fun x y z wr => ∃ i : Nat, i ≤ M2.length ∧ x = .int .i64 i ∧ St w5 wr [] []) (fun x _ _ _ => M2.length - (intOf x).toNat)
  case atStart => exact ⟨0, by omega, rfl, hj⟩
  case round =>
    clear hj
    obtain ⟨i, hi, rfl, hq⟩ := hrel
    by_cases hlt : i < M2.length
    · have hol : i < o.length := by rw [HOL.out]; exact hlt
      obtain ⟨hoa, c1⟩ := HOC5.out i hol
      replace c1 := hq.keep c1
      have HP1 := Mx.hid (HFP.out i hol)
      have hii : (i : Int) < (M2.length : Int) := by omega
      subst hoa
      have HCS := Mx.hid (fun wx (hs : St w5 wx [] []) => (show Sl wx 1 (.slice (if oc = i + 1 then some ⟨bo, oo, none⟩ else some ⟨bo, oo + (i + 1), none⟩) (M2.length - (i + 1)) (oc - (i + 1))) (o.drop (i + 1)).length (ss (o.drop (i + 1))) by
        have h1 := (hs.old HO5.out).cut (l := i + 1) (r := M2.length) (by omega) (Nat.le_refl _)
        have h2 : o.take M2.length = o := List.take_of_length_le (by rw [HOL.out]; exact Nat.le_refl _)
        have h3 : (o.drop (i + 1)).length = M2.length - (i + 1) := by rw [List.length_drop, HOL.out]
        rw [h3]
        rw [ss_cut, h2] at h1
        simpa [Addr.add] using h1))
      have hw1 : IntKind.i64.wrap ((i : Int) + 1) = (i : Int) + 1 := IntWalk.i64_in _ (by omega)
      have hw2 : (0 : Int) ≤ (i : Int) + 1 := by omega
      have hw3 : (i : Int) + 1 ≤ (M2.length : Int) := by omega
      have hw4 : ((i : Int) + 1).toNat = i + 1 := by omega
      generalize o[i] = a at *
      generalize List.drop (i + 1) o = od at *
      clear hol
      go_wp2_with fail
      refine (HPA.out a _ hq).mono ?_
      rintro e w7 ⟨vp, rfl, hs7⟩
      have HQ7 := Mx.hid (hq.call0 hs7.bare)
      generalize parsG L a = ps at *
      obtain ⟨pa, pc, pb, po, rfl, p1, p2, _, hpc⟩ := hs7.sl0.txt
      have HPC := Mx.hid hpc
      have HIS7 := Mx.hid (fun x y wx (hs : St w7 wx [] []) => HIS.out x y wx (HQ7.out.call0 hs))
      have HST7 := Mx.hid (fun x wx (hs : St w7 wx [] []) => HST.out x wx (HQ7.out.call0 hs))
      have HHA7 := Mx.hid (fun x wx (hs : St w7 wx [] []) => has_any (.slice (if oc = i + 1 then some ⟨bo, oo, none⟩ else some ⟨bo, oo + (i + 1), none⟩) (M2.length - (i + 1)) (oc - (i + 1))) od wx (HCS.out _ (HQ7.out.call0 hs)) x)
      have d1 := hs7.keep c1
      clear c1 hs7 hpc hq
      have hj := St.refl w7
      go_wp2_with fail
      go_loopw [12] (fun z wr => ∃ k : Nat, k ≤ ps.length ∧ z = .int .i64 k ∧ St w7 wr [] []) (fun z _ => ps.length - (intOf z).toNat)
      case atStart => exact ⟨0, by omega, rfl, hj⟩
      case round =>
        clear hj
        obtain ⟨k, hk, rfl, hq⟩ := hrel
        by_cases hkl : k < ps.length
        · obtain ⟨rfl, c2⟩ := HPC.out k hkl
          have hkk : (k : Int) < (ps.length : Int) := by omega
          obtain ⟨f1, f2, f3, f4⟩ := HP1.out _ (List.getElem_mem hkl)
          have f5 : decide (sl a ≤ sl ps[k]) = false := decide_eq_false (by omega)
          have f6 := hasT_iff.2 f1
          generalize ps[k] = p at *
          clear f1 f4
          go_wp2_with fail
          refine wp_region_C (fun W' => St w7 W' [] []) (by kernel_rfl) (by kernel_rfl) (by exact hq.drew) ?_
          repeat ((first | (refine cq_y0 (v := ?_) (by with_reducible rfl) ?_ ?_; rotate_left 1; (focus (intro wq hq; (try dsimp only at hq); (have y1 := hq.keep d1; have y2 := hq.keep c2); go_simp; (first | done | with_reducible rfl | (go_at_call 13; refine (HIS7.out _ _ _ hq).mono ?_; rintro e w9 ⟨rfl, hk9⟩; refine ⟨?_, hq.call0 hk9⟩; with_reducible rfl) | (go_at_call 18; refine (HST7.out _ _ hq).mono ?_; rintro e w9 ⟨rfl, hk9⟩; refine ⟨?_, hq.call0 hk9⟩; with_reducible rfl) | (go_at_call 17; refine (HHA7.out _ _ hq).mono ?_; rintro e w9 ⟨rfl, rfl⟩; refine ⟨?_, hq⟩; with_reducible rfl))))) | (refine cq_no (by go_simp; first | done | (intro h9; cases h9)) ?_) | (refine cq_yes (v := ?_) (by go_simp) ?_ ?_; rotate_left 1; (focus (intro wq hq; (try dsimp only at hq); (have y1 := hq.keep d1; have y2 := hq.keep c2); go_simp; (first | done | with_reducible rfl | (go_at_call 13; refine (HIS7.out _ _ _ hq).mono ?_; rintro e w9 ⟨rfl, hk9⟩; refine ⟨?_, hq.call0 hk9⟩; with_reducible rfl) | (go_at_call 18; refine (HST7.out _ _ hq).mono ?_; rintro e w9 ⟨rfl, hk9⟩; refine ⟨?_, hq.call0 hk9⟩; with_reducible rfl) | (go_at_call 17; refine (HHA7.out _ _ hq).mono ?_; rintro e w9 ⟨rfl, rfl⟩; refine ⟨?_, hq⟩; with_reducible rfl)))))); (try simp only [Act.put, List.setIfInBounds_toArray, List.set_cons_zero, List.set_cons_succ]))
          refine cq_nil ?_
          intro wq hq
          (try dsimp only at hq)
          go_wp2_with fail
          refine ⟨⟨k + 1, by omega, by go_num, hq⟩, by simp [intOf]; omega⟩
        · have hkk : ¬ (k : Int) < (ps.length : Int) := by omega
          have hq5 := HQ7.out.call0 hq
          go_wp2_with fail
          refine ⟨⟨i + 1, by omega, by go_num, hq5⟩, by simp [intOf]; omega⟩
    · have hii : ¬ (i : Int) < (M2.length : Int) := by omega
      go_wp2_with fail
      clear hii hlt hi
      go_loopw [13] (fun x wr => ∃ i : Nat, i ≤ ids.length ∧ x = .int .i64 i ∧ St w5 wr [] []) (fun x _ => ids.length - (intOf x).toNat)
      case atStart => exact ⟨0, by omega, rfl, hq⟩
      case round =>
        clear hq
        obtain ⟨i, hi, rfl, hq⟩ := hrel
        by_cases hlt : i < ids.length
        · obtain ⟨rfl, c1⟩ := HC5.out i hlt
          replace c1 := hq.keep c1
          have HHI := Mx.hid (hasT_iff.2 (HFI.out _ (List.getElem_mem hlt)))
          have hii : (i : Int) < (ids.length : Int) := by omega
          generalize ids[i] = a at *
          go_wp2_with fail
          refine (HH5.out a _ hq).mono ?_
          rw [HHI.out]
          rintro e w7 ⟨rfl, rfl⟩
          go_wp2_with fail
          refine ⟨⟨i + 1, by omega, by go_num, hq⟩, by simp [intOf]; omega⟩
        · have hii : ¬ (i : Int) < (ids.length : Int) := by omega
          have hk := HK.out.call0 hq
          go_wp2_with (go_at_call 8; refine (first_g _).mono ?_; rintro e w9 ⟨rfl, h9⟩; replace hk := hk.call0 h9)
          go_ret
          exact ⟨rfl, hk.below⟩
end Go.Proofs.Ytojbdlbcaoeffaa
