/- Walks of the document's Is, Tops, Bases. -/
import Derived.Test.YtojbdlbcaoeffaaDgA
import Derived.Test.YtojbdlbcaoeffaaDagG
namespace Go.Mx
open Go Go.RowKit
/-- What Tops leaves. -/
def XTopsPost (L : List Nd) (ids : List ByteArray) (w : World) (e : Ending) (w' : World) : Prop :=
  (∃ v N, e = .returned (.tuple #[v, .int .i64 0]) ∧ St w w' [⟨v, 9, 1, N.length, ss N⟩] [] ∧ Strict N ∧ (∀ i ∈ ids, ∃ n, fnd L i = some n) ∧ ∀ M, Clo L ids M → Near L M N) ∨
  (e = .returned (.tuple #[.slice none 0 0, .int .i64 7]) ∧ St w w' [] [] ∧ ∃ i ∈ ids, fnd L i = none)
def XBasesPost (L : List Nd) (ids : List ByteArray) (b : ByteArray) (w : World) (e : Ending) (w' : World) : Prop :=
  (∃ v N S Ma Mb, e = .returned (.tuple #[v, .int .i64 0]) ∧ St w w' [⟨v, 9, 1, N.length, ss N⟩] [] ∧ Strict N ∧ Clo L ids Ma ∧ Clo L [b] Mb ∧ (∀ x, x ∈ S ↔ x ∈ Ma ∧ x ∈ Mb) ∧ Near L S N) ∨
  (e = .returned (.tuple #[.slice none 0 0, .int .i64 7]) ∧ St w w' [] [] ∧ ((∃ i ∈ ids, fnd L i = none) ∨ fnd L b = none))
theorem clo_inter {L : List Nd} {ids : List ByteArray} {Ma Mb S : List ByteArray} {b : ByteArray} (ha : Clo L ids Ma) (hb : Clo L [b] Mb) (hw : WF L) (hS : ∀ x, x ∈ S ↔ x ∈ Ma ∧ x ∈ Mb) : Clo L S S := by
  refine ⟨fun i hi => ha.isin hw i ((hS i).1 hi).1, fun x => ⟨fun hx => ⟨x, hx, .refl x⟩, fun ⟨i, hi, h⟩ => ?_⟩⟩
  obtain ⟨h1, h2⟩ := (hS i).1 hi
  refine (hS x).2 ⟨?_, ?_⟩
  · obtain ⟨j, hj, hr⟩ := (ha.2 i).1 h1
    exact (ha.2 x).2 ⟨j, hj, h.trans hr⟩
  · obtain ⟨j, hj, hr⟩ := (hb.2 i).1 h2
    exact (hb.2 x).2 ⟨j, hj, h.trans hr⟩
theorem clo_fn {L : List Nd} {ids M N : List ByteArray} (h : Clo L ids M) (h' : Clo L ids N) (hs : Strict M) (hs' : Strict N) : M = N := strict_eq hs hs' fun x => (h.2 x).trans (h'.2 x).symm
theorem parsG_in {L : List Nd} (hw : WF L) {d : ByteArray} : ∀ p ∈ parsG L d, ∃ n, fnd L p = some n := by
  intro p hp
  unfold parsG at hp
  cases hf : fnd L d with
  | none => rw [hf] at hp; cases hp
  | some n =>
    rw [hf] at hp
    obtain ⟨m, hm, _⟩ := (hw.par hf).1 p hp
    exact ⟨m, hm⟩
theorem fnd_isIn {L : List Nd} {k : ByteArray} : isIn L k = true ↔ ∃ n, fnd L k = some n := by
  unfold isIn
  exact Option.isSome_iff_exists
def outOf (U l : List ByteArray) : List ByteArray := l.filter fun x => !memB U x
theorem mem_outOf {U l : List ByteArray} {x : ByteArray} : x ∈ outOf U l ↔ x ∈ l ∧ x ∉ U := by
  unfold outOf
  rw [List.mem_filter]
  refine and_congr_right fun _ => ?_
  rw [← memB_iff]
  simp
theorem outOf_snoc {U l : List ByteArray} {i : Nat} (h : i < l.length) : outOf U (l.take (i + 1)) = outOf U (l.take i) ++ if memB U l[i] = true then [] else [l[i]] := by
  unfold outOf
  rw [List.take_succ_eq_append_getElem h, List.filter_append]
  congr 1
  by_cases hm : memB U l[i] = true <;> simp [hm]
theorem outOf_len {U l : List ByteArray} : (outOf U l).length ≤ l.length := List.length_filter_le ..
end Go.Mx
namespace Go.Proofs.Ytojbdlbcaoeffaa
open Go.RowKit Go.Mx

set_option maxRecDepth 100000 in
theorem xis_any (x : Nat) (vi vp vs : Value) (L : List Nd) (PV : List Value) (a b : ByteArray) (w : World) (h : XG w x vi vp vs L PV) (hw : WF L) (hL : L.length ≤ 2000) :
    Calls Try.prog 35 #[.pointer (some ⟨x, 0, none⟩), .string a, .string b] w fun e w' => e = .returned (.bool (isB L a b)) ∧ St w w' [] [] := by
  have hs0 := (St.refl w).made #[.string b] 9 1 1 (by rfl) (by simp [maxLen])
  have HA := Mx.hid (xanc_any x vi vp vs L PV _ [b] _ (h.old hs0) hw hL hs0.sl0 (by simp))
  have HS0 := Mx.hid hs0.bare
  clear h hw hs0
  go_enter Try.func35, Try.ntmps35
  go_wp2_with fail
  refine HA.out.mono ?_
  rintro e w1 (⟨vm, M, rfl, hs, hc, hst⟩ | ⟨rfl, hs, i, hi, hno⟩)
  · have HB := Mx.hid (show isB L a b = hasT M a by
      rw [Bool.eq_iff_iff, isB_iff, hasT_iff, hc.2 a]
      constructor
      · rintro ⟨h1, _⟩
        exact ⟨b, by simp, h1⟩
      · rintro ⟨i, hi, h1⟩
        rw [List.mem_singleton.1 hi] at h1
        exact ⟨h1, hc.1 b (by simp)⟩)
    obtain ⟨mo, mc, rfl, _⟩ := id hs.sl0
    have HX := Mx.hid (has_any _ M w1 hs.sl0 a)
    have hk := HS0.out.call0 hs.bare
    clear hs hc hst
    go_wp2_with (first | ((with_reducible show wpList _ _ _ _ _ _); refine wpl_want rfl ?_))
    refine HX.out.mono ?_
    rintro e w2 ⟨rfl, rfl⟩
    go_wp2_with fail
    go_ret
    exact ⟨by rw [HB.out]; rfl, hk⟩
  · have HB := Mx.hid (show isB L a b = false by
      rw [Bool.eq_false_iff]
      intro h
      obtain ⟨_, n, hn⟩ := isB_iff.1 h
      rw [List.mem_singleton.1 hi] at hno
      rw [hno] at hn
      cases hn)
    have hk := HS0.out.call0 hs
    clear hs hno hi
    go_wp2_with fail
    go_ret
    exact ⟨by rw [HB.out]; rfl, hk⟩
set_option maxRecDepth 100000 in
set_option maxHeartbeats 4000000 in
theorem xtops_any (x : Nat) (vi vp vs : Value) (L : List Nd) (PV : List Value) (v : Value) (ids : List ByteArray) (w : World) (h : XG w x vi vp vs L PV) (hw : WF L) (hL : L.length ≤ 2000) (hpl : ∀ n ∈ L, n.2.1.length ≤ 1000000) (hv : Sl w 1 v ids.length (ss ids)) (hl : ids.length ≤ 1000000) :
    Calls Try.prog 33 #[.pointer (some ⟨x, 0, none⟩), v] w (XTopsPost L ids w) := by
  have HH := Mx.hid (fun k w' R Q (hs : St w w' R Q) => xhas_any x vi vp vs L PV k w' (h.old hs))
  have HPA := Mx.hid (fun k w' R Q (hs : St w w' R Q) => xpars_any x vi vp vs L PV k w' (h.old hs) hpl)
  have HAN := Mx.hid (fun v' l' w' R Q (hs : St w w' R Q) (hv' : Sl w' 1 v' l'.length (ss l')) (hl' : l'.length ≤ 1000000) => xanc_any x vi vp vs L PV v' l' w' (h.old hs) hw hL hv' hl')
  have HPL := Mx.hid (fun k => (show (parsG L k).length ≤ 1000000 by
    unfold parsG
    cases hf : fnd L k with
    | none => simp
    | some n => exact hpl _ (fnd_mem hf)))
  have HW := Mx.hid hw
  obtain ⟨ao, cap, blk, off, rfl, h1, h2, _, hcc⟩ := hv.txt
  have HC := Mx.hid hcc
  clear h hw hv hcc hpl
  go_enter Try.func33, Try.ntmps33
  go_wp2_with fail
  go_loopw [6, 7] (fun q y wr => ∃ (i : Nat) (U : List ByteArray), y = .int .i64 i ∧ i ≤ ids.length ∧ Hid (∀ x, x ∈ U ↔ ∃ d ∈ ids.take i, ∃ p ∈ parsG L d, Anc L x p) ∧ Hid (∀ d ∈ ids.take i, ∃ n, fnd L d = some n) ∧ U.length ≤ i * 2000 ∧ St w wr [⟨q, 9, 1, U.length, ss U⟩] []) (fun _ y _ => ids.length - (intOf y).toNat)
  case atStart => exact ⟨0, [], rfl, by omega, by simp [Hid], by simp [Hid], by simp, St.nil w _ _⟩
  case round =>
    obtain ⟨i, U, rfl, hi, HU, HIN, hul, hs⟩ := hrel
    by_cases hlt : i < ids.length
    · obtain ⟨rfl, d0⟩ := HC.out i hlt
      have HD0 := Mx.hid d0
      replace d0 := hs.keep d0
      have HX := Mx.hid (HH.out ids[i] _ _ _ hs)
      have HPX := Mx.hid (HPA.out ids[i] _ _ _ hs)
      have HTK := Mx.hid (List.take_succ_eq_append_getElem hlt)
      have HMEM := Mx.hid (List.getElem_mem hlt)
      cases hf : fnd L ids[i] with
      | none =>
        rw [show isIn L ids[i] = false by unfold isIn; rw [hf]; rfl] at HX
        have HE3 := Mx.hid hf
        clear hf
        generalize ids[i] = d at *
        go_wp2_with (go_at_call 28; refine HX.out.mono ?_; rintro e w9 ⟨rfl, rfl⟩)
        go_ret2
        exact .inr ⟨rfl, hs.bare, _, HMEM.out, HE3.out⟩
      | some n =>
        rw [show isIn L ids[i] = true by unfold isIn; rw [hf]; rfl] at HX
        have HF := Mx.hid hf
        have HPIN := Mx.hid (parsG_in HW.out (d := ids[i]))
        have HPLd := Mx.hid (HPL.out ids[i])
        clear hf
        generalize ids[i] = d at *
        generalize hps : parsG L d = ps at *
        have HPS := Mx.hid hps
        clear hps
        go_wp2_with (go_at_call 28; refine HX.out.mono ?_; rintro e w9 ⟨rfl, rfl⟩)
        refine HPX.out.mono ?_
        rintro e w10 ⟨vq, rfl, hp⟩
        have hs2 := (hs.call1 hp).freeze
        go_wp2_with fail
        refine (HAN.out _ ps _ _ _ hs2 hp.sl0 HPLd.out).mono ?_
        rintro e w11 (⟨vm, M, rfl, hm, hc, hst⟩ | ⟨_, _, k, hk, hno⟩)
        · have HCM := Mx.hid hc
          have hml := clo_short HW.out hc hst
          obtain ⟨mo, mc, rfl, _⟩ := id hm.sl0
          have hs3 := (hs2.call1 hm).freeze
          simp only [] at hs3
          clear hc hst hm hs2 hp hs
          obtain ⟨qo, qc, rfl, _⟩ := id hs3.sl0
          go_wp2_with (at_builtin; refine wpl_app rfl _ _ 26 rfl Try.elStr hs3 rfl (by exact hs3.q0) (ss_one _) (by omega) ?_; intro v4 w4 hs4 _)
          refine ⟨⟨i + 1, U ++ M, by go_num, by omega, ?_, ?_, by simp; omega, (hs4.cast (by simp) (ss_app ..).symm).noQ⟩, by simp [intOf]; omega⟩
          · show ∀ x, _
            intro x
            rw [List.mem_append, HU.out x, HTK.out, HCM.out.2 x]
            constructor
            · rintro (⟨d', hd', hr⟩ | ⟨p, hp, ha⟩)
              · exact ⟨d', List.mem_append_left _ hd', hr⟩
              · exact ⟨d, by simp, p, by rw [HPS.out]; exact hp, ha⟩
            · rintro ⟨d', hd', p, hp, ha⟩
              rcases List.mem_append.1 hd' with hd' | hd'
              · exact .inl ⟨d', hd', p, hp, ha⟩
              · rw [List.mem_singleton.1 hd', HPS.out] at hp
                exact .inr ⟨p, hp, ha⟩
          · show ∀ d ∈ _, _
            intro d' hd'
            rw [HTK.out] at hd'
            rcases List.mem_append.1 hd' with hd' | hd'
            · exact HIN.out d' hd'
            · rw [List.mem_singleton.1 hd']
              exact ⟨n, HF.out⟩
        · obtain ⟨m, hm⟩ := HPIN.out k hk
          rw [hm] at hno
          cases hno
    · rw [List.take_of_length_le (show ids.length ≤ i by omega)] at HU HIN
      have HUQ := Mx.hid (refUnique_any _ U wr hs.sl0 (by omega))
      have hk := hs.bare
      obtain ⟨qo, qc, rfl, _⟩ := id hs.sl0
      clear hs
      go_wp2_with fail
      refine HUQ.out.mono ?_
      rintro e w9 ⟨vu, rfl, hu⟩
      obtain ⟨uo, uc, rfl, _⟩ := id hu.sl0
      have hs5 := (hk.call1 hu).freeze
      simp only [] at hs5
      have HMU := Mx.hid (fun x => (mem_uniqL U x))
      clear hu hk HUQ hul
      generalize uniqL U = V at *
      have hs6 := hs5.addNil 9 1
      go_wp2_with fail
      go_loopw [10, 11] (fun q y wr => ∃ (i : Nat) (O : List ByteArray), y = .int .i64 i ∧ i ≤ ids.length ∧ Hid (O = outOf V (ids.take i)) ∧ O.length ≤ i ∧ St w wr [⟨q, 9, 1, O.length, ss O⟩] [⟨.slice uo V.length uc, 1, V.length, ss V⟩]) (fun _ y _ => ids.length - (intOf y).toNat)
      case atStart => exact ⟨0, [], rfl, by omega, by simp [Hid, outOf], by simp, hs6⟩
      case round =>
        clear hs6 hs5 hlt hi
        obtain ⟨i, O, rfl, hi, HO, hol, hs⟩ := hrel
        obtain ⟨qo2, qc2, rfl, _⟩ := id hs.sl0
        by_cases hlt : i < ids.length
        · obtain ⟨rfl, d0⟩ := HC.out i hlt
          replace d0 := hs.keep d0
          have HT := Mx.hid (has_any _ V wr hs.q0 ids[i])
          have HOS := Mx.hid (outOf_snoc (U := V) hlt)
          by_cases hm : ids[i] ∈ V
          · rw [hasT_iff.2 hm] at HT
            rw [if_pos (memB_iff.2 hm), List.append_nil, ← HO.out] at HOS
            clear hm
            generalize ids[i] = d at *
            go_wp2_with (go_at_call 17; refine HT.out.mono ?_; rintro e w9 ⟨rfl, rfl⟩)
            exact ⟨⟨i + 1, O, by go_num, by omega, Mx.hid HOS.out.symm, by omega, hs⟩, by simp [intOf]; omega⟩
          · rw [hasT_not.2 hm] at HT
            rw [if_neg (fun h => hm (memB_iff.1 h)), ← HO.out] at HOS
            clear hm
            generalize ids[i] = d at *
            go_wp2_with (first | (go_at_call 17; refine HT.out.mono ?_; rintro e w9 ⟨rfl, rfl⟩) | (at_builtin; refine wpl_app rfl _ _ 26 rfl Try.elStr (hs.alloc _) rfl (by exact Sl.one _ _ _) (by intro u hu; simp at hu; subst hu; rfl) (by omega) ?_; intro v3 w3 hs3 _))
            exact ⟨⟨i + 1, O ++ [d], by go_num, by omega, Mx.hid HOS.out.symm, by simp; omega, hs3.cast (by simp) (by rw [ss_app]; rfl)⟩, by simp [intOf]; omega⟩
        · rw [List.take_of_length_le (show ids.length ≤ i by omega)] at HO
          have HUQ := Mx.hid (refUnique_any _ O wr hs.sl0 (by omega))
          have hk := hs.bare
          clear hs
          go_wp2_with fail
          refine HUQ.out.mono ?_
          rintro e w12 ⟨vn, rfl, hn⟩
          go_wp2_with fail
          go_ret2
          refine .inl ⟨vn, uniqL O, rfl, (hk.call hn).sub (by simp) (by simp), uniqL_strict O, HIN.out, fun M hM => tops_near (U := U) hM HU.out fun x => ?_⟩
          rw [mem_uniqL, HO.out, mem_outOf]
          refine and_congr_right fun _ => ?_
          rw [HMU.out x]
end Go.Proofs.Ytojbdlbcaoeffaa
