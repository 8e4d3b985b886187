/- Walk of the law DagGrows. -/
import Derived.Test.YtojbdlbcaoeffaaDagG
namespace Go.Mx
open Go Go.RowKit
def knew : ByteArray := ⟨#[110, 101, 119]⟩
theorem knew_l : knew.toList = [110, 101, 119] := by rw [ByteArray.toList_eq]; rfl
theorem knew_of {a : ByteArray} (h : a.toList = [110, 101, 119]) : a = knew := toL_inj (h.trans knew_l.symm)
def BR (L : List Nd) (a b : ByteArray) (N : List ByteArray) : Prop :=
  (∃ S Ma Mb, Strict N ∧ Clo L [a] Ma ∧ Clo L [b] Mb ∧ (∀ x, x ∈ S ↔ x ∈ Ma ∧ x ∈ Mb) ∧ Near L S N) ∨ (N = [] ∧ (fnd L a = none ∨ fnd L b = none))
theorem br_eq {L L' : List Nd} {k a b : ByteArray} (hg : Grew L L' k) (hw : WF L) (hk : fnd L k = none) (ha : a ≠ k) (hb : b ≠ k) {N N' : List ByteArray} (h : BR L a b N) (h' : BR L' a b N') : N = N' := by
  have ea := hg.old a ha
  have eb := hg.old b hb
  rcases h with ⟨S, Ma, Mb, h1, h2, h3, h4, h5⟩ | ⟨rfl, h1⟩
  · rcases h' with ⟨S', Ma', Mb', h1', h2', h3', h4', h5'⟩ | ⟨rfl, h1'⟩
    · exact hg.bases hw hk ha hb h1 h2 h3 h4 h5 h1' h2' h3' h4' h5'
    · exfalso
      obtain ⟨n, hn⟩ := h2.1 a (by simp)
      obtain ⟨m, hm⟩ := h3.1 b (by simp)
      rw [ea, eb, hn, hm] at h1'
      rcases h1' with h | h <;> cases h
  · rcases h' with ⟨S', Ma', Mb', h1', h2', h3', h4', h5'⟩ | ⟨rfl, h1'⟩
    · exfalso
      obtain ⟨n, hn⟩ := h2'.1 a (by simp)
      obtain ⟨m, hm⟩ := h3'.1 b (by simp)
      rw [ea] at hn
      rw [eb] at hm
      rw [hn, hm] at h1
      rcases h1 with h | h <;> cases h
    · rfl
theorem is_eq {L L' : List Nd} {k a b : ByteArray} (hg : Grew L L' k) (hb : b ≠ k) : isB L' a b = isB L a b := by
  rw [Bool.eq_iff_iff, isB_iff, isB_iff]
  exact hg.is hb
theorem addE_grow {L : List Nd} {ps : List ByteArray} {T : Int} (hn : fnd L knew = none) (h0 : 0 ≤ T) (hT : ps.foldl (fun t p => max t (stampL L p)) 0 = T) (hl : ¬ 2000 ≤ L.length) :
    ((∀ p ∈ ps, ∃ n, fnd L p = some n) → addE L knew ps (T + 1) = 0) ∧ ((∃ p ∈ ps, fnd L p = none) → addE L knew ps (T + 1) = 7) := by
  have hne : knew ≠ ByteArray.empty := by decide +kernel
  have hin : ¬ isIn L knew = true := by unfold isIn; rw [hn]; simp
  constructor
  · intro h
    have h1 : ps.all (isIn L) = true := List.all_eq_true.2 fun p hp => by unfold isIn; rw [Option.isSome_iff_exists]; exact h p hp
    have h2 := ((stamp_fold L ps 0 (T + 1)).1 (by omega)).2
    have h3 : (ps.all fun p => decide (stampL L p < T + 1)) = true := List.all_eq_true.2 fun p hp => decide_eq_true (h2 p hp)
    rw [addE_def, if_neg hne, if_neg hin, if_neg (by rw [h1]; simp), if_neg (by rw [h3]; simp; omega), if_neg hl]
  · rintro ⟨p, hp, hx⟩
    rw [addE_def, if_neg hne, if_neg hin, if_pos]
    rw [Bool.eq_false_iff]
    intro h
    have := List.all_eq_true.1 h p hp
    unfold isIn at this
    rw [hx] at this
    cases this
def BasesU (L : List Nd) (a b : ByteArray) (w : World) (e : Ending) (w' : World) : Prop :=
  ∃ v N er, e = .returned (.tuple #[v, .int .i64 er]) ∧ St w w' [⟨v, 9, 1, N.length, ss N⟩] [] ∧ BR L a b N
def AncU (L : List Nd) (ids : List ByteArray) (w : World) (e : Ending) (w' : World) : Prop :=
  ∃ v M er, e = .returned (.tuple #[v, .int .i64 er]) ∧ St w w' [⟨v, 9, 1, M.length, ss M⟩] [] ∧ M.length ≤ 2000 ∧ ((er = 0 ∧ Clo L ids M ∧ Strict M) ∨ (er = 7 ∧ ∃ i ∈ ids, fnd L i = none))
end Go.Mx
namespace Go.Proofs.Ytojbdlbcaoeffaa
open Go.RowKit Go.Mx
theorem bases_u (g B : Nat) (G : List Gd) (v : Value) (a b : ByteArray) (w : World) (h : GG w g B G) (hv : Sl w 1 v 1 (ss [a])) :
    Calls Try.prog 10 #[.pointer (some ⟨g, 0, none⟩), v, .string b] w (BasesU (G.map (·.2)) a b w) := by
  refine (bases_g g B G v [a] b w h.r h.wf hv (by simp)).mono ?_
  rintro e w' (⟨v, N, S, Ma, Mb, rfl, hs, hst, _, ha, hb, hS, hN⟩ | ⟨rfl, hs, hx⟩)
  · exact ⟨v, N, 0, rfl, hs, .inl ⟨S, Ma, Mb, hst, ha, hb, hS, hN⟩⟩
  · refine ⟨_, [], 7, rfl, hs.addNil _ _, .inr ⟨rfl, ?_⟩⟩
    rcases hx with ⟨i, hi, hn⟩ | hn
    · rw [List.mem_singleton.1 hi] at hn; exact .inl hn
    · exact .inr hn
theorem anc_u (g B : Nat) (G : List Gd) (v : Value) (ids : List ByteArray) (w : World) (h : GG w g B G) (hv : Sl w 1 v ids.length (ss ids)) (hl : ids.length ≤ 20) :
    Calls Try.prog 14 #[.pointer (some ⟨g, 0, none⟩), v] w (AncU (G.map (·.2)) ids w) := by
  refine (ancestors_g g B G v ids w h.r h.wf hv (by omega)).mono ?_
  rintro e w' (⟨v, M, rfl, hs, hc, hst, hl⟩ | ⟨v, rfl, hs, hx⟩)
  · exact ⟨v, M, 0, rfl, hs, hl, .inl ⟨rfl, hc, hst⟩⟩
  · exact ⟨v, [], 7, rfl, hs, by simp, .inr ⟨rfl, hx⟩⟩

set_option maxRecDepth 200000 in
set_option maxHeartbeats 4000000 in
theorem dagGrowsRow {w : World} (v : Value) (l : List Gd) (hl : ND w v l) (hok : ∀ q ∈ l, NdOk q) (vp : Value) (ps : List ByteArray) (hv : Sl w 1 vp ps.length (ss ps)) (_hz : ∀ x ∈ ps, x.size ≤ maxLen) (a : ByteArray) (_ha : a.size ≤ maxLen) (b : ByteArray) (_hb : b.size ≤ maxLen) (_w : World) :
    Calls Try.prog 5 #[v, vp, .string a, .string b] w fun e w' => e = .returned (.bool true) ∧ Below w.heap.size w w' := by
  have HV := Mx.hid hv
  have HMD := Mx.hid (fun w' (hs : St w w' [] []) => made_g v l w' (hl.old hs) hok)
  obtain ⟨ao, cap, blk, off, rfl, h1, h2, _, hcc⟩ := hv.txt
  have HC := Mx.hid hcc
  obtain ⟨av, cv, rfl, _⟩ := hl.1.form
  clear hcc hv hl hok _hz _ha _hb
  go_enter Try.func5, Try.ntmps5
  go_wp2_with fail
  refine (first_g _).mono ?_
  rintro e w1 ⟨rfl, hk⟩
  go_wp2_with fail
  refine (HMD.out _ hk).mono ?_
  clear HMD
  rintro e w2 (⟨rfl, hs2⟩ | ⟨g, B, G, rfl, hG, hlen, hg, hB, hs2⟩)
  · replace hk := hk.call0 hs2
    clear hs2
    go_wp2_with (first | ((with_reducible show wpList _ _ _ _ _ _); refine wpl_want rfl ?_) | (go_at_call 8; refine (first_g _).mono ?_; rintro e w9 ⟨rfl, h9⟩; replace hk := hk.call0 h9))
    go_ret
    exact ⟨rfl, hk.below⟩
  have HB := Mx.hid (Nat.le_trans hk.below.size hB)
  replace hk := hk.call0 hs2
  have HG := Mx.hid hG
  have HLEN := Mx.hid hlen
  clear hs2 hg hB hlen hG
  go_wp2_with (first | ((with_reducible show wpList _ _ _ _ _ _); refine wpl_want rfl ?_))
  refine (few_any _ ps _ (hk.old HV.out)).mono ?_
  rintro e w3 ⟨⟨bb, rfl, hbb⟩, rfl⟩
  cases bb with
  | false =>
    clear hbb
    go_wp2_with (first | ((with_reducible show wpList _ _ _ _ _ _); refine wpl_want rfl ?_) | (go_at_call 8; refine (first_g _).mono ?_; rintro e w9 ⟨rfl, h9⟩; replace hk := hk.call0 h9))
    go_ret
    exact ⟨rfl, hk.below⟩
  | true =>
  have hl20 := hbb rfl
  clear hbb
  by_cases h1 : 100 < a.size
  · have q : decide ((100 : Int) < (a.size : Int)) = true := decide_eq_true (by omega)
    clear h1
    go_wp2_with (first | ((with_reducible show wpList _ _ _ _ _ _); refine wpl_want rfl ?_) | (go_at_call 8; refine (first_g _).mono ?_; rintro e w9 ⟨rfl, h9⟩; replace hk := hk.call0 h9))
    go_ret
    exact ⟨rfl, hk.below⟩
  have q : decide ((100 : Int) < (a.size : Int)) = false := decide_eq_false (by omega)
  by_cases h2 : 100 < b.size
  · have q2 : decide ((100 : Int) < (b.size : Int)) = true := decide_eq_true (by omega)
    clear h1 h2
    go_wp2_with (first | ((with_reducible show wpList _ _ _ _ _ _); refine wpl_want rfl ?_) | (go_at_call 8; refine (first_g _).mono ?_; rintro e w9 ⟨rfl, h9⟩; replace hk := hk.call0 h9))
    go_ret
    exact ⟨rfl, hk.below⟩
  have q2 : decide ((100 : Int) < (b.size : Int)) = false := decide_eq_false (by omega)
  clear h1 h2
  have HH := Mx.hid (has_g g B G knew w2 HG.out.r)
  cases hin : isIn (G.map (·.2)) knew with
  | true =>
    rw [hin] at HH
    clear hin
    go_wp2_with (first | ((with_reducible show wpList _ _ _ _ _ _); refine wpl_want rfl ?_) | (go_at_call 8; refine (first_g _).mono ?_; rintro e w9 ⟨rfl, h9⟩; replace hk := hk.call0 h9) | (go_at_call 11; refine HH.out.mono ?_; rintro e w9 ⟨rfl, h9⟩; replace hk := hk.call0 h9))
    go_ret
    exact ⟨rfl, hk.below⟩
  | false =>
  rw [hin] at HH
  have HNEW := Mx.hid (show fnd (G.map (·.2)) knew = none by
    unfold isIn at hin
    cases hf : fnd (G.map (·.2)) knew with
    | none => rfl
    | some n => rw [hf] at hin; cases hin)
  have HIN := Mx.hid hin
  clear hin
  go_wp2_with (first | ((with_reducible show wpList _ _ _ _ _ _); refine wpl_want rfl ?_) | (go_at_call 11; refine HH.out.mono ?_; rintro e w9 ⟨rfl, h9⟩; replace hk := hk.call0 h9; replace HG := Mx.hid (HG.out.keep h9)))
  clear HH q q2
  refine (bases_u g B G _ a b _ (HG.out.keep ((St.refl _).made #[.string a] 9 1 1 (by rfl) (by simp [maxLen]))) ((St.refl _).made #[.string a] 9 1 1 (by rfl) (by simp [maxLen])).sl0).mono ?_
  rintro e w4 ⟨v1, N1, e1, rfl, hs4, hb1⟩
  replace HG := Mx.hid (HG.out.keep (((St.refl _).made #[.string a] 9 1 1 (by rfl) (by simp [maxLen])).bare.call hs4))
  replace hk := (hk.call0 ((St.refl _).made #[.string a] 9 1 1 (by rfl) (by simp [maxLen])).bare).call1 hs4 |>.freeze
  simp only [] at hk
  obtain ⟨a1, c1, rfl, _⟩ := id hk.q0.form
  have HB1 := Mx.hid hb1
  clear hs4 hb1 h9
  go_wp2_with fail
  refine (is_c g B G a b _ HG.out).mono ?_
  rintro e w5 ⟨rfl, hs5⟩
  replace HG := Mx.hid (HG.out.keep hs5)
  replace hk := hk.call0 hs5
  clear hs5
  generalize hi1 : isB (List.map (·.2) G) a b = i1
  have HI1 := Mx.hid hi1
  clear hi1
  go_wp2_with fail
  refine (anc_u g B G _ ps _ HG.out (hk.old HV.out) hl20).mono ?_
  rintro e w6 ⟨v2, M, e2, rfl, hs6, hm6, hM⟩
  replace HG := Mx.hid (HG.out.keep hs6)
  replace hk := hk.call1 hs6
  obtain ⟨a2, c2, rfl, _⟩ := id hk.sl0.form
  have HM := Mx.hid hM
  clear hs6 hM
  go_wp2_with fail
  go_loopw [15, 16] (fun x y wr => ∃ i : Nat, i ≤ ps.length ∧ y = .int .i64 i ∧ x = .int .i64 ((ps.take i).foldl (fun t p => max t (stampL (G.map (·.2)) p)) 0) ∧ Hid (0 ≤ ((ps.take i).foldl (fun t p => max t (stampL (G.map (·.2)) p)) 0) ∧ ((ps.take i).foldl (fun t p => max t (stampL (G.map (·.2)) p)) 0) ≤ 9223372036854775807) ∧ Hid (GG wr g B G) ∧ St w wr [⟨.slice a2 M.length c2, 9, 1, M.length, ss M⟩] [⟨.slice a1 N1.length c1, 1, N1.length, ss N1⟩]) (fun _ y _ => ps.length - (intOf y).toNat)
  case atStart => exact ⟨0, by omega, rfl, rfl, Mx.hid (by simp), HG, hk⟩
  case round =>
    clear hk HG
    obtain ⟨i, hi, rfl, rfl, HT, HG, hk⟩ := hrel
    by_cases hlt : i < ps.length
    · obtain ⟨rfl, c3⟩ := HC.out i hlt
      replace c3 := hk.keep c3
      have hii : (i : Int) < (ps.length : Int) := by omega
      have HTK := Mx.hid (List.take_succ_eq_append_getElem hlt)
      generalize ps[i] = x at *
      have HST := Mx.hid (stamp_g g B G x wr HG.out.r)
      obtain ⟨hz1, hz2⟩ := HG.out.st x
      generalize hz : stampL (G.map (·.2)) x = z at *
      have HZ := Mx.hid hz
      clear hz
      obtain ⟨ht1, ht2⟩ := HT.out
      generalize ht : ((ps.take i).foldl (fun t p => max t (stampL (G.map (·.2)) p)) 0) = tt at *
      have HTT := Mx.hid ht
      clear ht
      go_wp2_with fail
      refine HST.out.mono ?_
      rintro e w7 ⟨rfl, hs7⟩
      replace HG := Mx.hid (HG.out.keep hs7)
      replace hk := hk.call0 hs7
      clear hs7
      go_wp2_with fail
      have hfold : ((ps.take (i + 1)).foldl (fun t p => max t (stampL (G.map (·.2)) p)) 0) = max tt z := by rw [HTK.out, List.foldl_append, HTT.out]; show max tt (stampL (G.map (·.2)) x) = _; rw [HZ.out]
      refine ⟨⟨i + 1, by omega, by go_num, by rw [hfold], Mx.hid ?_, HG, hk⟩, by simp [intOf]; omega⟩
      rw [hfold]
      omega
    · have hii : ¬ (i : Int) < (ps.length : Int) := by omega
      rw [List.take_of_length_le (show ps.length ≤ i by omega)] at HT ⊢
      generalize ht : ps.foldl (fun t p => max t (stampL (G.map (·.2)) p)) 0 = T at *
      have HTT := Mx.hid ht
      obtain ⟨ht1, ht2⟩ := HT.out
      have hl40 := HLEN.out
      have HL := Mx.hid (len_g g B G wr HG.out.r)
      clear ht HT
      by_cases hbig : 1152921504606846976 < T
      · have q : decide ((1152921504606846976 : Int) < T) = true := decide_eq_true hbig
        clear hbig
        go_wp2_with (first | (go_at_call 19; refine HL.out.mono ?_; rintro e w9 ⟨rfl, rfl⟩) | (go_at_call 8; refine (first_g _).mono ?_; rintro e w9 ⟨rfl, h9⟩; replace hk := hk.call0 h9))
        go_ret
        exact ⟨rfl, hk.below⟩
      · have q : decide ((1152921504606846976 : Int) < T) = false := decide_eq_false hbig
        have hTT : T ≤ 1152921504606846976 := by omega
        clear hbig
        have HADD := Mx.hid (addE_grow (ps := ps) HNEW.out ht1 HTT.out (by rw [List.length_map]; omega))
        have HA := Mx.hid (add_g g B G knew (.slice ao ps.length cap) ps (T + 1) wr HG.out.r HG.out.r.apart (hk.old HV.out) (by omega) (by omega) (by omega) HG.out.st)
        go_wp2_with (first | (go_at_call 19; refine HL.out.mono ?_; rintro e w9 ⟨rfl, rfl⟩))
        refine HA.out.mono ?_
        have HWF := Mx.hid HG.out.wf
        rintro e w8 ⟨rfl, hgr, hsz, ⟨hne0, hr, hs8⟩ | ⟨h0, vn, hr⟩⟩
        · rcases HM.out with ⟨rfl, hc, _⟩ | ⟨rfl, hx⟩
          · exact absurd (HADD.out.1 hc.1) hne0
          rw [HADD.out.2 hx]
          replace HG := Mx.hid (GG.mk hr HG.out.wf HG.out.st)
          replace hk := hk.call0 hs8
          have HGW := Mx.hid (Grew.same (G.map (·.2)) knew)
          clear hgr hsz hne0 hr hs8 hx HM HADD HA HL hii hlt hi
          go_wp2_with fail
          refine (bases_u g B G _ a b _ (HG.out.keep ((St.refl _).made #[.string a] 9 1 1 (by rfl) (by simp [maxLen]))) ((St.refl _).made #[.string a] 9 1 1 (by rfl) (by simp [maxLen])).sl0).mono ?_
          rintro e w10 ⟨v3, N3, e3, rfl, hs10, hb3⟩
          replace HG := Mx.hid (HG.out.keep (((St.refl _).made #[.string a] 9 1 1 (by rfl) (by simp [maxLen])).bare.call hs10))
          replace hk := ((hk.made #[.string a] 9 1 1 (by rfl) (by simp [maxLen])).tail.call1 hs10).freeze
          simp only [] at hk
          obtain ⟨a3, c3, rfl, _⟩ := id hk.q0.form
          have HEQ := Mx.hid (fun ha hb => br_eq HGW.out HWF.out HNEW.out ha hb HB1.out hb3)
          have HIQ := Mx.hid (fun (hb : b ≠ knew) => (is_eq (a := a) HGW.out hb).trans HI1.out)
          clear hs10 hb3 HGW HWF HB1
          generalize hi2 : isB (List.map (·.2) G) a b = i2 at HIQ
          have HI2 := Mx.hid hi2
          clear hi2
          by_cases hak : a = knew
          · have qa : a.toList = [110, 101, 119] := by rw [hak]; exact knew_l
            clear HEQ HIQ hak
            obtain ⟨tv, htv⟩ : ∃ tv, decide (N1 = N3) = tv := ⟨_, rfl⟩
            have HTV := Mx.hid htv
            obtain ⟨d, hd⟩ : ∃ d, (i2 != i1) = d := ⟨_, rfl⟩
            clear htv
            cases tv <;> cases d
            all_goals go_wp2_with (first | ((with_reducible show wpList _ _ _ _ _ _); refine wpl_want rfl ?_) | (go_at_call 12; refine (texts_any (.slice a1 N1.length c1) (.slice a3 N3.length c3) N1 N3 _ hk.q1 hk.q0).mono ?_; rintro e w9 ⟨rfl, h9⟩; rw [HTV.out]; replace hk := hk.call0 h9; replace HG := Mx.hid (HG.out.keep h9)) | (go_at_call 13; refine (is_c g B _ a b _ HG.out).mono ?_; rintro e w9 ⟨rfl, h9⟩; rw [HI2.out]; replace hk := hk.call0 h9; replace HG := Mx.hid (HG.out.keep h9)))
            all_goals clear qa hd HTV HI2
            all_goals (go_wp2_with (first | ((with_reducible show wpList _ _ _ _ _ _); refine wpl_want rfl ?_) | (go_at_call 8; refine (first_g _).mono ?_; rintro e w9 ⟨rfl, h9⟩; replace hk := hk.call0 h9; replace HG := Mx.hid (HG.out.keep h9)) | (go_at_call 19; refine (len_g g B G _ HG.out.r).mono ?_; rintro e w9 ⟨rfl, rfl⟩) | (go_at_call 11; refine (has_g g B G knew _ HG.out.r).mono ?_; rintro e w9 ⟨rfl, h9⟩; rw [HIN.out]; replace hk := hk.call0 h9)); go_ret; exact ⟨rfl, hk.below⟩)
          by_cases hbk : b = knew
          · have qa : ¬ a.toList = [110, 101, 119] := fun h => hak (knew_of h)
            have qb : b.toList = [110, 101, 119] := by rw [hbk]; exact knew_l
            clear HEQ HIQ hak hbk
            obtain ⟨tv, htv⟩ : ∃ tv, decide (N1 = N3) = tv := ⟨_, rfl⟩
            have HTV := Mx.hid htv
            obtain ⟨d, hd⟩ : ∃ d, (i2 != i1) = d := ⟨_, rfl⟩
            clear htv
            cases tv <;> cases d
            all_goals go_wp2_with (first | ((with_reducible show wpList _ _ _ _ _ _); refine wpl_want rfl ?_) | (go_at_call 12; refine (texts_any (.slice a1 N1.length c1) (.slice a3 N3.length c3) N1 N3 _ hk.q1 hk.q0).mono ?_; rintro e w9 ⟨rfl, h9⟩; rw [HTV.out]; replace hk := hk.call0 h9; replace HG := Mx.hid (HG.out.keep h9)) | (go_at_call 13; refine (is_c g B _ a b _ HG.out).mono ?_; rintro e w9 ⟨rfl, h9⟩; rw [HI2.out]; replace hk := hk.call0 h9; replace HG := Mx.hid (HG.out.keep h9)))
            all_goals clear qa qb hd HTV HI2
            all_goals (go_wp2_with (first | ((with_reducible show wpList _ _ _ _ _ _); refine wpl_want rfl ?_) | (go_at_call 8; refine (first_g _).mono ?_; rintro e w9 ⟨rfl, h9⟩; replace hk := hk.call0 h9; replace HG := Mx.hid (HG.out.keep h9)) | (go_at_call 19; refine (len_g g B G _ HG.out.r).mono ?_; rintro e w9 ⟨rfl, rfl⟩) | (go_at_call 11; refine (has_g g B G knew _ HG.out.r).mono ?_; rintro e w9 ⟨rfl, h9⟩; rw [HIN.out]; replace hk := hk.call0 h9)); go_ret; exact ⟨rfl, hk.below⟩)
          have HTV := Mx.hid (show decide (N1 = N3) = true from decide_eq_true (HEQ.out hak hbk))
          rw [HIQ.out hbk] at HI2
          have qi : (i1 != i1) = false := by simp
          clear HEQ HIQ hak hbk
          go_wp2_with (first | ((with_reducible show wpList _ _ _ _ _ _); refine wpl_want rfl ?_) | (go_at_call 12; refine (texts_any (.slice a1 N1.length c1) (.slice a3 N3.length c3) N1 N3 _ hk.q1 hk.q0).mono ?_; rintro e w9 ⟨rfl, h9⟩; rw [HTV.out]; replace hk := hk.call0 h9; replace HG := Mx.hid (HG.out.keep h9)) | (go_at_call 13; refine (is_c g B _ a b _ HG.out).mono ?_; rintro e w9 ⟨rfl, h9⟩; rw [HI2.out]; replace hk := hk.call0 h9; replace HG := Mx.hid (HG.out.keep h9)))
          clear qi HTV HI2
          all_goals (go_wp2_with (first | ((with_reducible show wpList _ _ _ _ _ _); refine wpl_want rfl ?_) | (go_at_call 8; refine (first_g _).mono ?_; rintro e w9 ⟨rfl, h9⟩; replace hk := hk.call0 h9; replace HG := Mx.hid (HG.out.keep h9)) | (go_at_call 19; refine (len_g g B G _ HG.out.r).mono ?_; rintro e w9 ⟨rfl, rfl⟩) | (go_at_call 11; refine (has_g g B G knew _ HG.out.r).mono ?_; rintro e w9 ⟨rfl, h9⟩; rw [HIN.out]; replace hk := hk.call0 h9)); go_ret; exact ⟨rfl, hk.below⟩)
        · rcases HM.out with ⟨rfl, hc, hst⟩ | ⟨rfl, hx⟩
          case inr =>
            exfalso
            rw [HADD.out.2 hx] at h0
            cases h0
          rw [h0]
          have HGW := Mx.hid (show Grew (G.map (·.2)) ((G ++ [(vn, knew, uniqL ps, T + 1)]).map (·.2)) knew by rw [List.map_append]; exact Grew.add (HWF.out.add h0) HNEW.out)
          have HWF2 := Mx.hid (show WF (G.map (·.2) ++ [(knew, uniqL ps, T + 1)]) from HWF.out.add h0)
          have HNA := Mx.hid (show ∀ e4 M4, ((e4 = 0 ∧ Clo ((G ++ [(vn, knew, uniqL ps, T + 1)]).map (·.2)) [knew] M4 ∧ Strict M4) ∨ ((e4 : Int) = 7 ∧ ∃ i ∈ [knew], fnd ((G ++ [(vn, knew, uniqL ps, T + 1)]).map (·.2)) i = none)) → e4 = 0 ∧ Hid (M4 = uniqL (M ++ [knew])) by
            intro e4 M4
            rw [List.map_append]
            rintro (⟨rfl, hc4, hst4⟩ | ⟨_, i, hi, hno⟩)
            · exact ⟨rfl, new_anc HWF2.out HNEW.out (mem_uniqL ps) hc hc4 hst4⟩
            · exfalso
              rw [List.mem_singleton.1 hi, fnd_app, HNEW.out] at hno
              simp [fnd] at hno)
          have HLE := Mx.hid (show (((G ++ [(vn, knew, uniqL ps, T + 1)]).length : Nat) : Int) = (G.length : Int) + 1 by simp)
          replace hk := hk.other HG.out.r.mp.noRow HB.out hgr
          replace HG := Mx.hid (GG.mk hr (by rw [List.map_append]; exact HWF2.out) (by rw [List.map_append]; exact HG.out.st.add (by show -1 ≤ T + 1; omega) (by show T + 1 ≤ _; omega)))
          generalize hG2 : G ++ [(vn, knew, uniqL ps, T + 1)] = G2 at HG HGW HNA HLE
          clear hgr hsz h0 hr hc hst HM HADD HA HL hii hlt hi hG2 HWF2
          go_wp2_with fail
          refine (bases_u g B G2 _ a b _ (HG.out.keep ((St.refl _).made #[.string a] 9 1 1 (by rfl) (by simp [maxLen]))) ((St.refl _).made #[.string a] 9 1 1 (by rfl) (by simp [maxLen])).sl0).mono ?_
          rintro e w10 ⟨v3, N3, e3, rfl, hs10, hb3⟩
          replace HG := Mx.hid (HG.out.keep (((St.refl _).made #[.string a] 9 1 1 (by rfl) (by simp [maxLen])).bare.call hs10))
          replace hk := ((hk.made #[.string a] 9 1 1 (by rfl) (by simp [maxLen])).tail.call1 hs10).freeze
          simp only [] at hk
          obtain ⟨a3, c3, rfl, _⟩ := id hk.q0.form
          have HEQ := Mx.hid (fun ha hb => br_eq HGW.out HWF.out HNEW.out ha hb HB1.out hb3)
          have HIQ := Mx.hid (fun (hb : b ≠ knew) => (is_eq (a := a) HGW.out hb).trans HI1.out)
          clear hs10 hb3 HGW HWF HB1
          generalize hi2 : isB (List.map (·.2) G2) a b = i2 at HIQ
          have HI2 := Mx.hid hi2
          clear hi2
          by_cases hak : a = knew
          · have qa : a.toList = [110, 101, 119] := by rw [hak]; exact knew_l
            clear HEQ HIQ hak
            obtain ⟨tv, htv⟩ : ∃ tv, decide (N1 = N3) = tv := ⟨_, rfl⟩
            have HTV := Mx.hid htv
            obtain ⟨d, hd⟩ : ∃ d, (i2 != i1) = d := ⟨_, rfl⟩
            clear htv
            cases tv <;> cases d
            all_goals go_wp2_with (first | ((with_reducible show wpList _ _ _ _ _ _); refine wpl_want rfl ?_) | (go_at_call 12; refine (texts_any (.slice a1 N1.length c1) (.slice a3 N3.length c3) N1 N3 _ hk.q1 hk.q0).mono ?_; rintro e w9 ⟨rfl, h9⟩; rw [HTV.out]; replace hk := hk.call0 h9; replace HG := Mx.hid (HG.out.keep h9)) | (go_at_call 13; refine (is_c g B _ a b _ HG.out).mono ?_; rintro e w9 ⟨rfl, h9⟩; rw [HI2.out]; replace hk := hk.call0 h9; replace HG := Mx.hid (HG.out.keep h9)))
            all_goals clear qa hd HTV HI2
            all_goals (refine (anc_u g B _ _ [knew] _ (HG.out.keep ((St.refl _).made #[.string knew] 9 1 1 (by rfl) (by simp [maxLen]))) ((St.refl _).made #[.string knew] 9 1 1 (by rfl) (by simp [maxLen])).sl0 (by simp)).mono ?_; rintro e w11 ⟨v4, M4, e4, rfl, hs11, hm11, hM4⟩; have HM4 := Mx.hid (HNA.out e4 M4 hM4); obtain rfl := HM4.out.1; replace hk := ((hk.made #[.string knew] 9 1 1 (by rfl) (by simp [maxLen])).tail.call1 hs11).freeze; simp only [] at hk; replace HG := Mx.hid (HG.out.keep (((St.refl _).made #[.string knew] 9 1 1 (by rfl) (by simp [maxLen])).bare.call hs11)); obtain ⟨a4, c4, rfl, _⟩ := id hk.q0.form; clear hs11 hM4; go_wp2_with (first | ((with_reducible show wpList _ _ _ _ _ _); refine wpl_want rfl ?_) | (go_at_call 8; refine (first_g _).mono ?_; rintro e w9 ⟨rfl, h9⟩; replace hk := hk.call0 h9; replace HG := Mx.hid (HG.out.keep h9)) | (go_at_call 19; refine (len_g g B _ _ HG.out.r).mono ?_; rintro e w9 ⟨rfl, rfl⟩; rw [HLE.out]) | (at_builtin; refine wpl_app rfl _ _ 26 rfl Try.elStr (hk.alloc _) rfl (by exact Sl.one _ _ _) (by intro u hu; simp at hu; subst hu; rfl) (by omega) ?_; intro v5 w12 hk5 _) | (go_at_call 21; refine (refUnique_any v5 (M ++ [knew]) _ (hk5.cast (by simp) (by rw [ss_app]; rfl)).sl0 (by simp; omega)).mono ?_; rintro e w13 ⟨v6, rfl, h6⟩) | (go_at_call 12; refine (texts_same _ v6 M4 (uniqL (M ++ [knew])) _ (h6.old hk5.q0) h6.sl0 HM4.out.2).mono ?_; rintro e w14 ⟨rfl, h7⟩)); go_ret; exact ⟨rfl, ((hk5.call1 h6).call0 h7).below⟩)
          by_cases hbk : b = knew
          · have qa : ¬ a.toList = [110, 101, 119] := fun h => hak (knew_of h)
            have qb : b.toList = [110, 101, 119] := by rw [hbk]; exact knew_l
            clear HEQ HIQ hak hbk
            obtain ⟨tv, htv⟩ : ∃ tv, decide (N1 = N3) = tv := ⟨_, rfl⟩
            have HTV := Mx.hid htv
            obtain ⟨d, hd⟩ : ∃ d, (i2 != i1) = d := ⟨_, rfl⟩
            clear htv
            cases tv <;> cases d
            all_goals go_wp2_with (first | ((with_reducible show wpList _ _ _ _ _ _); refine wpl_want rfl ?_) | (go_at_call 12; refine (texts_any (.slice a1 N1.length c1) (.slice a3 N3.length c3) N1 N3 _ hk.q1 hk.q0).mono ?_; rintro e w9 ⟨rfl, h9⟩; rw [HTV.out]; replace hk := hk.call0 h9; replace HG := Mx.hid (HG.out.keep h9)) | (go_at_call 13; refine (is_c g B _ a b _ HG.out).mono ?_; rintro e w9 ⟨rfl, h9⟩; rw [HI2.out]; replace hk := hk.call0 h9; replace HG := Mx.hid (HG.out.keep h9)))
            all_goals clear qa qb hd HTV HI2
            all_goals (refine (anc_u g B _ _ [knew] _ (HG.out.keep ((St.refl _).made #[.string knew] 9 1 1 (by rfl) (by simp [maxLen]))) ((St.refl _).made #[.string knew] 9 1 1 (by rfl) (by simp [maxLen])).sl0 (by simp)).mono ?_; rintro e w11 ⟨v4, M4, e4, rfl, hs11, hm11, hM4⟩; have HM4 := Mx.hid (HNA.out e4 M4 hM4); obtain rfl := HM4.out.1; replace hk := ((hk.made #[.string knew] 9 1 1 (by rfl) (by simp [maxLen])).tail.call1 hs11).freeze; simp only [] at hk; replace HG := Mx.hid (HG.out.keep (((St.refl _).made #[.string knew] 9 1 1 (by rfl) (by simp [maxLen])).bare.call hs11)); obtain ⟨a4, c4, rfl, _⟩ := id hk.q0.form; clear hs11 hM4; go_wp2_with (first | ((with_reducible show wpList _ _ _ _ _ _); refine wpl_want rfl ?_) | (go_at_call 8; refine (first_g _).mono ?_; rintro e w9 ⟨rfl, h9⟩; replace hk := hk.call0 h9; replace HG := Mx.hid (HG.out.keep h9)) | (go_at_call 19; refine (len_g g B _ _ HG.out.r).mono ?_; rintro e w9 ⟨rfl, rfl⟩; rw [HLE.out]) | (at_builtin; refine wpl_app rfl _ _ 26 rfl Try.elStr (hk.alloc _) rfl (by exact Sl.one _ _ _) (by intro u hu; simp at hu; subst hu; rfl) (by omega) ?_; intro v5 w12 hk5 _) | (go_at_call 21; refine (refUnique_any v5 (M ++ [knew]) _ (hk5.cast (by simp) (by rw [ss_app]; rfl)).sl0 (by simp; omega)).mono ?_; rintro e w13 ⟨v6, rfl, h6⟩) | (go_at_call 12; refine (texts_same _ v6 M4 (uniqL (M ++ [knew])) _ (h6.old hk5.q0) h6.sl0 HM4.out.2).mono ?_; rintro e w14 ⟨rfl, h7⟩)); go_ret; exact ⟨rfl, ((hk5.call1 h6).call0 h7).below⟩)
          have HTV := Mx.hid (show decide (N1 = N3) = true from decide_eq_true (HEQ.out hak hbk))
          rw [HIQ.out hbk] at HI2
          have qi : (i1 != i1) = false := by simp
          clear HEQ HIQ hak hbk
          go_wp2_with (first | ((with_reducible show wpList _ _ _ _ _ _); refine wpl_want rfl ?_) | (go_at_call 12; refine (texts_any (.slice a1 N1.length c1) (.slice a3 N3.length c3) N1 N3 _ hk.q1 hk.q0).mono ?_; rintro e w9 ⟨rfl, h9⟩; rw [HTV.out]; replace hk := hk.call0 h9; replace HG := Mx.hid (HG.out.keep h9)) | (go_at_call 13; refine (is_c g B _ a b _ HG.out).mono ?_; rintro e w9 ⟨rfl, h9⟩; rw [HI2.out]; replace hk := hk.call0 h9; replace HG := Mx.hid (HG.out.keep h9)))
          clear qi HTV HI2
          all_goals (refine (anc_u g B _ _ [knew] _ (HG.out.keep ((St.refl _).made #[.string knew] 9 1 1 (by rfl) (by simp [maxLen]))) ((St.refl _).made #[.string knew] 9 1 1 (by rfl) (by simp [maxLen])).sl0 (by simp)).mono ?_; rintro e w11 ⟨v4, M4, e4, rfl, hs11, hm11, hM4⟩; have HM4 := Mx.hid (HNA.out e4 M4 hM4); obtain rfl := HM4.out.1; replace hk := ((hk.made #[.string knew] 9 1 1 (by rfl) (by simp [maxLen])).tail.call1 hs11).freeze; simp only [] at hk; replace HG := Mx.hid (HG.out.keep (((St.refl _).made #[.string knew] 9 1 1 (by rfl) (by simp [maxLen])).bare.call hs11)); obtain ⟨a4, c4, rfl, _⟩ := id hk.q0.form; clear hs11 hM4; go_wp2_with (first | ((with_reducible show wpList _ _ _ _ _ _); refine wpl_want rfl ?_) | (go_at_call 8; refine (first_g _).mono ?_; rintro e w9 ⟨rfl, h9⟩; replace hk := hk.call0 h9; replace HG := Mx.hid (HG.out.keep h9)) | (go_at_call 19; refine (len_g g B _ _ HG.out.r).mono ?_; rintro e w9 ⟨rfl, rfl⟩; rw [HLE.out]) | (at_builtin; refine wpl_app rfl _ _ 26 rfl Try.elStr (hk.alloc _) rfl (by exact Sl.one _ _ _) (by intro u hu; simp at hu; subst hu; rfl) (by omega) ?_; intro v5 w12 hk5 _) | (go_at_call 21; refine (refUnique_any v5 (M ++ [knew]) _ (hk5.cast (by simp) (by rw [ss_app]; rfl)).sl0 (by simp; omega)).mono ?_; rintro e w13 ⟨v6, rfl, h6⟩) | (go_at_call 12; refine (texts_same _ v6 M4 (uniqL (M ++ [knew])) _ (h6.old hk5.q0) h6.sl0 HM4.out.2).mono ?_; rintro e w14 ⟨rfl, h7⟩)); go_ret; exact ⟨rfl, ((hk5.call1 h6).call0 h7).below⟩)
end Go.Proofs.Ytojbdlbcaoeffaa
