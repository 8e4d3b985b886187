/- Walk of the law ReachGraphs. -/
import Derived.Test.YtloogjdafhjheaaGreatRgG
import Derived.Test.YtloogjdafhjheaaGreatRgR
import Derived.Test.YtloogjdafhjheaaGreatJ27RcL
import Derived.Test.YtloogjdafhjheaaGreatHeldD
import Derived.Deep.DeepCutAuto
namespace Go.Mx
open Go Go.RowKit
theorem srcI_name {l : List (List UInt8)} {lie : Bool} {id : ByteArray} {b : List UInt8} : ∀ {i : Nat}, srcI l lie id i = some b → ∃ k, k < l.length ∧ idB (l.getD k []) = id := by
  intro i
  induction h : l.length - i generalizing i with
  | zero =>
    intro hs
    rw [srcI, if_neg (by omega)] at hs
    cases hs
  | succ n ih =>
    intro hs
    rw [srcI] at hs
    split at hs
    · rename_i hlt
      split at hs
      · rename_i he
        exact ⟨_, kB_lt hlt, he⟩
      · exact ih (by omega) hs
    · cases hs
theorem cmt_some {f : ByteArray → Option (List UInt8)} {m : ByteArray} (h : cmt f m ≠ none) : ∃ b, f m = some b := by
  unfold cmt at h
  split at h
  · rename_i b hb
    exact ⟨b, hb⟩
  · exact absurd rfl h
theorem src_ok (l : List (List UInt8)) (lie : Bool) (hl : l.length ≤ 40) : SrcOK (srcF l lie) where
  ne m h := by
    obtain ⟨b, hb⟩ := cmt_some h
    obtain ⟨k, _, rfl⟩ := srcI_name hb
    intro he
    have h1 := congrArg ByteArray.size he
    unfold idB at h1
    rw [str_size, hexL_len, sha_len] at h1
    simp at h1
  st m := by
    unfold stp
    cases hc : cmt (srcF l lie) m with
    | none => simp
    | some o =>
      simp only []
      unfold cmt at hc
      split at hc
      · rename_i b hb
        split at hc
        · rename_i hk
          injection hc with hc
          subst hc
          have hm := (dec_ok (b := b) (o := (decO b).1) (Prod.ext rfl hk.1)).1
          unfold mayB at hm
          rw [if_neg (by omega), if_neg (by omega), if_pos hk.2] at hm
          simp only [Bool.and_eq_true, decide_eq_true_eq] at hm
          omega
        · cases hc
      · cases hc
  uni := ⟨ids1 l, by simpa [ids1] using hl, fun m h => by
    obtain ⟨b, hb⟩ := cmt_some h
    obtain ⟨k, hk, rfl⟩ := srcI_name hb
    unfold ids1
    rw [List.getD_eq_getElem?_getD, List.getElem?_eq_getElem hk]
    exact List.mem_map_of_mem (List.getElem_mem hk)⟩
theorem parsG_nd {f : ByteArray → Option (List UInt8)} {L : List ByteArray} {k : ByteArray} (h : k ∈ L) : parsG (L.map (ndOf f)) k = uniqL (nbP f k) := by
  unfold parsG
  rw [fnd_nd h]
theorem stampL_in {f : ByteArray → Option (List UInt8)} {L : List ByteArray} {k : ByteArray} (h : k ∈ L) : stampL (L.map (ndOf f)) k = stp f k := by
  unfold stampL
  rw [fnd_nd h]
end Go.Mx
namespace Go.Proofs.YtloogjdafhjheaaGreat
open Go.RowKit Go.Mx
theorem graph_range (src v : Value) (n : Int) (w : World) (hn : ¬ (1 ≤ n ∧ n ≤ 2000)) :
    Calls Tryz.prog 9 #[src, v, .int .i64 n] w fun e w' => e = .returned (.tuple #[.pointer none, .int .i64 1]) ∧ w = w' := by
  have HWI := Mx.hid (within_any n w)
  have hb : (decide (1 ≤ n) && decide (n ≤ 2000)) = false := by
    rw [Bool.and_eq_false_iff, decide_eq_false_iff_not, decide_eq_false_iff_not]
    omega
  rw [hb] at HWI
  clear hb hn
  go_enter Tryz.func9, Tryz.ntmps9
  go_wp2_with fail
  refine HWI.out.mono ?_
  rintro e w1 ⟨rfl, rfl⟩
  go_wp2_with fail
  go_ret2
  exact ⟨rfl, rfl⟩
set_option maxRecDepth 200000 in
theorem graphof_range (bo ao : Option Addr) (n1 n2 bcap acap : Nat) (v : Value) (n : Int) (w : World) (hn : ¬ (1 ≤ n ∧ n ≤ 2000)) :
    Calls Tryz.prog 10 #[stv (.slice bo n1 bcap) (.slice ao n2 acap), v, .int .i64 n] w fun e w' => ∃ v', e = .returned (.tuple #[.pointer none, v']) ∧ St w w' [⟨v', 34, 1, 1, is [1]⟩] [] := by
  by_cases h1 : n < 1
  · have q1 : decide (n < 1) = true := decide_eq_true h1
    go_enter Tryz.func10, Tryz.ntmps10
    go_wp2_with (first | ((with_reducible show wpList _ _ _ _ _ _); refine wpl_want rfl ?_) | (((with_reducible show wpList _ _ _ _ _ _); refine wpl_box rfl 31 _ rfl (St.refl w) ([.slice bo n1 bcap, .slice ao n2 acap, .pointer none]) (by rfl) ?_; intro gx wx hsx)))
    go_ret2
    exact ⟨_, rfl, (hsx.bare.made #[.int .i64 1] 34 1 1 rfl (by simp [maxLen]))⟩
  · have q1 : decide (n < 1) = false := decide_eq_false h1
    have q2 : decide (2000 < n) = true := decide_eq_true (by omega)
    clear hn
    go_enter Tryz.func10, Tryz.ntmps10
    go_wp2_with (first | ((with_reducible show wpList _ _ _ _ _ _); refine wpl_want rfl ?_) | (((with_reducible show wpList _ _ _ _ _ _); refine wpl_box rfl 31 _ rfl (St.refl w) ([.slice bo n1 bcap, .slice ao n2 acap, .pointer none]) (by rfl) ?_; intro gx wx hsx)))
    go_ret2
    exact ⟨_, rfl, (hsx.bare.made #[.int .i64 1] 34 1 1 rfl (by simp [maxLen]))⟩
set_option maxRecDepth 200000 in
set_option maxHeartbeats 8000000 in
theorem reachGraphsRow (vl : Value) (l : List (List UInt8)) {w : World} (hl : LL w vl l) (hz : ∀ x ∈ l, x.length ≤ reachBytes) (lie : Bool) (va : Value) (a : List ByteArray) (ha : Sl w 1 va a.length (ss a)) (_ha : ∀ x ∈ a, x.size ≤ maxLen) (most : Int) (_wm : (Lit.int .i64 most).wf = true) (_w : World) :
    Calls Tryz.prog 3 #[vl, .bool lie, va, .int .i64 most] w fun e w' => e = .returned (.bool true) ∧ Below w.heap.size w w' := by
  have HL := Mx.hid hl
  have HZ := Mx.hid hz
  have HA := Mx.hid ha
  obtain ⟨ao, ac, rfl, _⟩ := ha.form
  obtain ⟨vs, hvl, hls, _⟩ := hl
  obtain ⟨lo, lc, rfl, _⟩ := hls.form
  clear hz ha hvl hls _ha _wm
  go_enter Tryz.func3, Tryz.ntmps3
  go_wp2_with fail
  refine (first12_any _).mono ?_
  rintro e w1 ⟨rfl, hk⟩
  go_wp2_with (first | ((with_reducible show wpList _ _ _ _ _ _); refine wpl_want rfl ?_))
  refine (few10_any _ l _ (LL.old hk HL.out) (fun x hx => by have := HZ.out x hx; unfold reachBytes at this; omega)).mono ?_
  rintro e w2 ⟨b1, rfl, hk2, hb1⟩
  replace hk := hk.call0 hk2
  clear hk2
  cases b1 with
  | false =>
    go_wp2_with (first | ((with_reducible show wpList _ _ _ _ _ _); refine wpl_want rfl ?_) | (go_at_call 4; refine (first12_any _).mono ?_; rintro e wf ⟨rfl, hkf⟩; replace hk := hk.call0 hkf))
    go_ret
    exact ⟨rfl, hk.below⟩
  | true =>
  obtain ⟨hl40, hl15, _⟩ := hb1 rfl
  go_wp2_with (first | ((with_reducible show wpList _ _ _ _ _ _); refine wpl_want rfl ?_))
  refine (few12_any _ a _ (hk.old HA.out)).mono ?_
  rintro e w3 ⟨⟨b2, rfl, hb2⟩, rfl⟩
  cases b2 with
  | false =>
    go_wp2_with (first | ((with_reducible show wpList _ _ _ _ _ _); refine wpl_want rfl ?_) | (go_at_call 4; refine (first12_any _).mono ?_; rintro e wf ⟨rfl, hkf⟩; replace hk := hk.call0 hkf))
    go_ret
    exact ⟨rfl, hk.below⟩
  | true =>
  have ha20 := hb2 rfl
  clear hb1 hb2
  have HOK := Mx.hid (src_ok l lie hl40)
  go_wp2_with (first | ((with_reducible show wpList _ _ _ _ _ _); refine wpl_want rfl ?_))
  refine (source_any _ l lie _ (LL.old hk HL.out) (fun x hx => by have := hl15 x hx; omega) (by omega)).mono ?_
  rintro e w4 ⟨g2, g3, g5, rfl, hk4, hm4⟩
  replace hk := hk.call0 hk4
  clear hk4
  go_wp2_with fail
  refine (told_any _ l lie _ (LL.old hk HL.out) (fun x hx => by have := hl15 x hx; omega) (by omega)).mono ?_
  rintro e w5 ⟨vi, vo, rfl, hk5, hsi, hso⟩
  have hm5 := hm4.keep hk5
  replace hk := hk.call0 hk5
  obtain ⟨io, ic, rfl, -⟩ := hsi.form
  obtain ⟨oo, oc, _, _, _, rfl, -⟩ := hso.at
  go_upto_region 7 with (((with_reducible show wpList _ _ _ _ _ _); refine wpl_storeA rfl 31 _ _ rfl Tryz.aSrc ((St.refl w5).madeAt #[.slice none 0 0, .slice none 0 0, .pointer none] 31 3 1 _ rfl (by simp [maxLen]) rfl) (0) rfl ([.slice io l.length ic, .slice oo l.length oc, .pointer none]) rfl (by rfl) (by simp) (by intro u hu; simp at hu; rcases hu with rfl | rfl | rfl <;> rfl) ?_; intro w6 hs6))
  have hm6 := hm5.keep hs6.bare
  have hk6 := hk.call0 hs6.bare
  have HAA := Mx.hid (hk6.old HA.out)
  have HVC := Mx.hid (fun wx (h : St w6 wx [] []) => (show VC w5.heap.size [.slice io l.length ic, .slice oo l.length oc, .pointer none] wx from fun i u hu => by rw [Nat.zero_add]; exact h.keep (hs6.rcell (List.mem_cons_self ..) (by simpa using hu))))
  generalize w5.heap.size = gs at *
  have HSI := Mx.hid (hs6.old hsi)
  have HSO := Mx.hid (LL.old hs6 hso)
  have HK6 := Mx.hid hk6
  have hz15 : ∀ x ∈ l, x.length ≤ 1000000000 := fun x hx => by have := hl15 x hx; omega
  by_cases hmost : 1 ≤ most ∧ most ≤ 2000
  case neg =>
    go_wp2_with fail
    refine (graph_range _ _ most _ hmost).mono ?_
    rintro e w7 ⟨rfl, rfl⟩
    go_wp2_with ((with_reducible show wpList _ _ _ _ _ _); refine wpl_loadA rfl 31 _ rfl Tryz.aSrc (gs) (0) rfl ([.slice io l.length ic, .slice oo l.length oc, .pointer none]) rfl (HVC.out _ (St.refl w6)) ?_)
    refine (graphof_range io oo l.length l.length ic oc _ most _ hmost).mono ?_
    rintro e w8 ⟨v8, rfl, hk8⟩
    obtain ⟨eo, ec, rfl, -⟩ := id hk8.sl0
    have hk9 := HK6.out.call0 hk8.bare
    go_wp2_with (first | ((with_reducible show wpList _ _ _ _ _ _); refine wpl_want rfl ?_) | (go_at_call 4; refine (first12_any _).mono ?_; rintro e wf ⟨rfl, hkf⟩; replace hk9 := hk9.call0 hkf))
    go_ret
    exact ⟨rfl, hk9.below⟩
  case pos =>
  obtain ⟨m, rfl⟩ : ∃ m : Nat, most = (m : Int) := ⟨most.toNat, by omega⟩
  have hm1 : 1 ≤ m := by omega
  have hm2 : m ≤ 2000 := by omega
  have HGG := Mx.hid (graph_any g2 g3 g5 l lie _ a m w6 hm6 hz15 (by omega) HAA.out (by omega) hm1 hm2 HOK.out)
  have HGO := Mx.hid (fun wx (h : St w6 wx [] []) => graphof_any _ _ _ l lie a m wx (h.old HSI.out) (LL.old h HSO.out) hz15 (h.old HAA.out) (by omega) hm1 hm2 HOK.out)
  clear hm4 hm5 hm6 hsi hso hs6 hk hk5 hk6 hz15 HL HZ HOK hl15
  generalize srcF l lie = f at *
  go_wp2_with fail
  refine HGG.out.mono ?_
  rintro e w7 (⟨g, B, G, L, rfl, hk7, hGR, hGL, hgood, hups⟩ | ⟨er, her, rfl, hk7, hno⟩)
  case inr =>
    have q1 : decide (er = 0) = false := decide_eq_false her
    have q2 : (er == 0) = false := by simpa using her
    have HNO := Mx.hid hno
    clear her hno HGG
    go_wp2_with ((with_reducible show wpList _ _ _ _ _ _); refine wpl_loadA rfl 31 _ rfl Tryz.aSrc (gs) (0) rfl ([.slice io l.length ic, .slice oo l.length oc, .pointer none]) rfl (HVC.out _ hk7) ?_)
    refine (HGO.out _ hk7).mono ?_
    rintro e w8 (⟨x, vi, vp, vs', L2, PV, rfl, _, _, h5, h6⟩ | ⟨v8, es, hes, rfl, hk8, _⟩)
    · exact absurd ⟨L2, h5, h6⟩ HNO.out
    · obtain ⟨eo, ec, rfl, -⟩ := id hk8.sl0
      have hk9 := (HK6.out.call0 hk7).call0 hk8.bare
      have hpos : 0 < es.length := List.length_pos_iff.2 hes
      generalize es.length = ne at *
      have q3 : decide ((ne : Int) = 0) = false := decide_eq_false (by omega)
      have q4 : ((ne : Int) == 0) = false := by simp; omega
      clear hes
      go_wp2_with (first | ((with_reducible show wpList _ _ _ _ _ _); refine wpl_want rfl ?_) | (go_at_call 4; refine (first12_any _).mono ?_; rintro e wf ⟨rfl, hkf⟩; replace hk9 := hk9.call0 hkf))
      go_ret
      exact ⟨rfl, hk9.below⟩
  case inl =>
  have HG1 := Mx.hid (And.intro hgood hups)
  have HGL := Mx.hid hGL
  have HGR := Mx.hid hGR
  clear hgood hups hGL hGR HGG
  go_wp2_with ((with_reducible show wpList _ _ _ _ _ _); refine wpl_loadA rfl 31 _ rfl Tryz.aSrc (gs) (0) rfl ([.slice io l.length ic, .slice oo l.length oc, .pointer none]) rfl (HVC.out _ hk7) ?_)
  refine (HGO.out _ hk7).mono ?_
  rintro e w8 (⟨x, vi, vp, vs', L2, PV, rfl, hk8, hxg, h5, h6⟩ | ⟨v8, es, hes, rfl, hk8, hno⟩)
  case inr => exact absurd ⟨L, HG1.out⟩ hno
  case inl =>
  have hsame := HG1.out.1.same h5
  have HX := Mx.hid hxg
  have HGR8 := Mx.hid (HGR.out.st hk8)
  have HK8 := Mx.hid ((HK6.out.call0 hk7).call0 hk8)
  have HMEM := Mx.hid (fun (i : Nat) (hi : i < L2.length) => (hsame.1 L2[i]).2 (List.getElem_mem hi))
  have hGlen : G.length = L2.length := by
    have := congrArg List.length HGL.out
    rw [List.length_map, List.length_map] at this
    omega
  obtain ⟨yo, yc, yb, yf, hvi, y1, y2, hyc⟩ := ids_of hxg.si
  subst hvi
  rw [List.length_map] at *
  have HLN := Mx.hid (fun wx (h : St w8 wx [] []) => len_g g B G wx (HGR8.out.st h))
  have HIX := Mx.hid (fun wx (h : St w8 wx [] []) => (HX.out.old h).c0)
  have HYC := Mx.hid hyc
  rw [hGlen] at HLN
  clear hyc HGR HGO hk7 hk8 hxg h5 hsame HG1 HVC HSI HSO HK6 HAA HA
  go_wp2_with (first | ((with_reducible show wpList _ _ _ _ _ _); refine wpl_want rfl ?_))
  refine wp_region_C (fun W' => St w8 W' [] []) (by kernel_rfl) (by kernel_rfl) (by exact (St.refl w8).drew) ?_
  repeat ((first | (refine cq_y0 (v := ?_) (by with_reducible rfl) ?_ ?_; rotate_left 1; (focus (intro wq hq; (try dsimp only at hq); (have y0 := HIX.out _ hq); go_simp; (first | done | with_reducible rfl | (go_at_call 11; refine (HLN.out _ hq).mono ?_; rintro e w9 ⟨rfl, rfl⟩; refine ⟨?_, hq⟩; with_reducible rfl))))) | (refine cq_no (by go_simp; first | done | (intro h9; cases h9)) ?_) | (refine cq_yes (v := ?_) (by go_simp) ?_ ?_; rotate_left 1; (focus (intro wq hq; (try dsimp only at hq); (have y0 := HIX.out _ hq); go_simp; (first | done | with_reducible rfl | (go_at_call 11; refine (HLN.out _ hq).mono ?_; rintro e w9 ⟨rfl, rfl⟩; refine ⟨?_, hq⟩; with_reducible rfl)))))); (try simp only [Act.put, List.setIfInBounds_toArray, List.set_cons_zero, List.set_cons_succ]))
  refine cq_nil ?_
  intro wq hq
  (try dsimp only at hq)
  go_wp2_with fail
  go_loopw [15] (fun y wr => ∃ i : Nat, y = .int .i64 i ∧ i ≤ L2.length ∧ St w8 wr [] []) (fun y _ => L2.length - (intOf y).toNat)
  case atStart => exact ⟨0, rfl, by omega, hq⟩
  case round =>
    clear hq
    obtain ⟨i, rfl, hi, hs⟩ := hrel
    have y0 := HIX.out _ hs
    by_cases hlt : i < L2.length
    · obtain ⟨rfl, cy⟩ := HYC.out i (by simpa using hlt)
      have hyi : (L2.map (ndOf f))[i]'(by simpa using hlt) = ndOf f L2[i] := by simp
      rw [hyi] at cy
      have hmL := HMEM.out i hlt
      have hmL2 := List.getElem_mem hlt
      have HHAS := Mx.hid (fun wx (h : St w8 wx [] []) => (show Calls Tryz.prog 12 #[.pointer (some ⟨g, 0, none⟩), .string L2[i]] wx fun e w' => e = .returned (.bool true) ∧ St wx w' [] [] from by
        have h1 := has_g g B G L2[i] wx (HGR8.out.st h)
        rw [HGL.out, isIn_nd.2 hmL] at h1
        exact h1))
      have HST1 := Mx.hid (fun wx (h : St w8 wx [] []) => (show Calls Tryz.prog 13 #[.pointer (some ⟨g, 0, none⟩), .string L2[i]] wx fun e w' => e = .returned (.int .i64 (stp f L2[i])) ∧ St wx w' [] [] from by
        have h1 := stamp_g g B G L2[i] wx (HGR8.out.st h)
        rw [HGL.out, stampL_in hmL] at h1
        exact h1))
      have HST2 := Mx.hid (fun wx (h : St w8 wx [] []) => (show Calls Tryz.prog 14 #[.pointer (some ⟨x, 0, none⟩), .string L2[i]] wx fun e w' => e = .returned (.int .i64 (stp f L2[i])) ∧ St wx w' [] [] from by
        have h1 := xstamp_any x _ _ _ _ PV L2[i] wx (HX.out.old h)
        rw [stampL_in hmL2] at h1
        exact h1))
      have HPA1 := Mx.hid (fun wx (h : St w8 wx [] []) => (show Calls Tryz.prog 16 #[.pointer (some ⟨g, 0, none⟩), .string L2[i]] wx fun e w' => ∃ v, e = .returned v ∧ St wx w' [⟨v, 9, 1, (uniqL (nbP f L2[i])).length, ss (uniqL (nbP f L2[i]))⟩] [] from by
        have h1 := parents_g g B G L2[i] wx (HGR8.out.st h)
        rw [HGL.out, parsG_nd hmL] at h1
        exact h1))
      have HPA2 := Mx.hid (fun wx (h : St w8 wx [] []) => (show Calls Tryz.prog 17 #[.pointer (some ⟨x, 0, none⟩), .string L2[i]] wx fun e w' => ∃ v, e = .returned v ∧ St wx w' [⟨v, 9, 1, (uniqL (nbP f L2[i])).length, ss (uniqL (nbP f L2[i]))⟩] [] from by
        have h1 := xpars_any x _ _ _ _ PV L2[i] wx (HX.out.old h) (fun n hn => by
          obtain ⟨q, hq, rfl⟩ := List.mem_map.1 hn
          obtain ⟨q1, hq1, hq2⟩ := List.mem_map.1 (show ndOf f q ∈ G.map (·.2) by
            obtain ⟨k, hk, rfl⟩ := List.mem_iff_getElem.1 hq
            rw [HGL.out]
            exact List.mem_map_of_mem (HMEM.out k hk))
          have := HGR8.out.few q1 hq1
          rw [show q1.2 = ndOf f q from hq2] at this
          exact this)
        rw [parsG_nd hmL2] at h1
        exact h1))
      have HC3 := Mx.hid (fun W (h : St w8 W [] []) => And.intro (HIX.out _ h) (h.keep cy))
      have hli : (i : Int) < (L2.length : Int) := by omega
      clear hmL hmL2 hyi cy
      generalize stp f L2[i] = z at *
      generalize uniqL (nbP f L2[i]) = ps at *
      have HC4 : Hid (∀ W, St w8 W [] [] → W.cell? ⟨x, 0, none⟩ = some (.slice (some ⟨yb, yf, none⟩) L2.length yc) ∧ W.cell? ⟨yb, yf + i, none⟩ = some (.string L2[i])) := HC3
      clear HC3
      generalize L2[i] = idy at *
      go_wp2_with fail
      (refine wp_region_S (52) (fun W' => W'.cell? ⟨x, 0, none⟩ = some (.slice (some ⟨yb, yf, none⟩) L2.length yc) ∧ W'.cell? ⟨yb, yf + i, none⟩ = some (.string idy)) (by kernel_rfl) ?_ (fun hHeld => ?_); (focus ((try dsimp only); exact HC4.out _ hs.drew)))
      (refine wpAnyS_takeW (i := 0) (v := ?_) rfl (by kernel_rfl) (by kernel_rfl) (by kernel_rfl) (by kernel_rfl) (fun _ _ _ h => h) (Or.inl ⟨by first | rfl | (go_simp; done), ?_⟩) hHeld ?_; rotate_left 1; (focus (intro w' hSw; go_simp; (try with_reducible rfl))); (try simp only [Act.put, List.setIfInBounds_toArray, List.set_cons_zero, List.set_cons_succ]))
      (refine wpAnyS_takeW (i := 1) (v := ?_) rfl (by kernel_rfl) (by kernel_rfl) (by kernel_rfl) (by kernel_rfl) (fun _ _ _ h => h) (Or.inl ⟨by first | rfl | (go_simp; done), ?_⟩) hHeld ?_; rotate_left 1; (focus (intro w' hSw; go_simp; (try with_reducible rfl))); (try simp only [Act.put, List.setIfInBounds_toArray, List.set_cons_zero, List.set_cons_succ]))
      (refine wpAnyS_takeW (i := 2) (v := ?_) rfl (by kernel_rfl) (by kernel_rfl) (by kernel_rfl) (by kernel_rfl) (fun _ _ _ h => h) (Or.inl ⟨by first | rfl | (go_simp; done), ?_⟩) hHeld ?_; rotate_left 1; (focus (intro w' hSw; go_simp; (try with_reducible rfl))); (try simp only [Act.put, List.setIfInBounds_toArray, List.set_cons_zero, List.set_cons_succ]))
      (refine wpAnyS_takeW (i := 3) (v := ?_) rfl (by kernel_rfl) (by kernel_rfl) (by kernel_rfl) (by kernel_rfl) (fun _ _ _ h => h) (Or.inl ⟨by first | rfl | (go_simp; done), ?_⟩) hHeld ?_; rotate_left 1; (focus (intro w' hSw; go_simp; (try with_reducible rfl))); (try simp only [Act.put, List.setIfInBounds_toArray, List.set_cons_zero, List.set_cons_succ]))
      (refine wpAnyS_takeD (i := 4) (v := ?_) rfl (by kernel_rfl) (by kernel_rfl) (by kernel_rfl) (by kernel_rfl) (by kernel_rfl) (fun _ _ _ h => h) (Or.inl ⟨by first | rfl | (go_simp; done), ?_⟩) hHeld ?_; rotate_left 1; (focus (intro w' hSw; (try dsimp only at hSw); go_simp; (try with_reducible rfl))); (try simp only [Act.put, List.setIfInBounds_toArray, List.set_cons_zero, List.set_cons_succ]))
      (refine wpAnyS_takeW (i := 5) (v := ?_) rfl (by kernel_rfl) (by kernel_rfl) (by kernel_rfl) (by kernel_rfl) (fun _ _ _ h => h) (Or.inl ⟨by first | rfl | (go_simp; done), ?_⟩) hHeld ?_; rotate_left 1; (focus (intro w' hSw; go_simp; (try with_reducible rfl))); (try simp only [Act.put, List.setIfInBounds_toArray, List.set_cons_zero, List.set_cons_succ]))
      (refine wpAnyS_takeW (i := 6) (v := ?_) rfl (by kernel_rfl) (by kernel_rfl) (by kernel_rfl) (by kernel_rfl) (fun _ _ _ h => h) (Or.inl ⟨by first | rfl | (go_simp; done), ?_⟩) hHeld ?_; rotate_left 1; (focus (intro w' hSw; go_simp; (try with_reducible rfl))); (try simp only [Act.put, List.setIfInBounds_toArray, List.set_cons_zero, List.set_cons_succ]))
      (refine wpAnyS_takeD (i := 7) (v := ?_) rfl (by kernel_rfl) (by kernel_rfl) (by kernel_rfl) (by kernel_rfl) (by kernel_rfl) (fun _ _ _ h => h) (Or.inl ⟨by first | rfl | (go_simp; done), ?_⟩) hHeld ?_; rotate_left 1; (focus (intro w' hSw; (try dsimp only at hSw); go_simp; (try with_reducible rfl))); (try simp only [Act.put, List.setIfInBounds_toArray, List.set_cons_zero, List.set_cons_succ]))
      (refine wpAnyS_ready (rs := [8]) (by kernel_rfl) (by simp) ?_; refine AllS.consL rfl (fun K hK => ?_) AllS.nil)
      (go_simp; go_at_call 12; refine (HHAS.out _ hs.drew).mono ?_; rintro e w' ⟨rfl, h9⟩; go_wp2_with fail)
      have hk9 := hs.drew.call0 h9
      (refine hK.out _ _ ?_ (fun hHeld => ?_); (focus ((try dsimp only); exact HC4.out _ hk9)); clear hK K; (try simp only [Act.put, List.setIfInBounds_toArray, List.set_cons_zero, List.set_cons_succ]))
      obtain ⟨w9, rfl⟩ : ∃ W : World, W = w' := ⟨_, rfl⟩
      clear h9
      (refine wpAnyS_takeW (i := 9) (v := ?_) rfl (by kernel_rfl) (by kernel_rfl) (by kernel_rfl) (by kernel_rfl) (fun _ _ _ h => h) (Or.inl ⟨by first | rfl | (go_simp; done), ?_⟩) hHeld ?_; rotate_left 1; (focus (intro w' hSw; go_simp; (try with_reducible rfl))); (try simp only [Act.put, List.setIfInBounds_toArray, List.set_cons_zero, List.set_cons_succ]))
      (refine wpAnyS_takeW (i := 10) (v := ?_) rfl (by kernel_rfl) (by kernel_rfl) (by kernel_rfl) (by kernel_rfl) (fun _ _ _ h => h) (Or.inl ⟨by first | rfl | (go_simp; done), ?_⟩) hHeld ?_; rotate_left 1; (focus (intro w' hSw; go_simp; (try with_reducible rfl))); (try simp only [Act.put, List.setIfInBounds_toArray, List.set_cons_zero, List.set_cons_succ]))
      (refine wpAnyS_takeW (i := 11) (v := ?_) rfl (by kernel_rfl) (by kernel_rfl) (by kernel_rfl) (by kernel_rfl) (fun _ _ _ h => h) (Or.inl ⟨by first | rfl | (go_simp; done), ?_⟩) hHeld ?_; rotate_left 1; (focus (intro w' hSw; go_simp; (try with_reducible rfl))); (try simp only [Act.put, List.setIfInBounds_toArray, List.set_cons_zero, List.set_cons_succ]))
      (refine wpAnyS_takeW (i := 12) (v := ?_) rfl (by kernel_rfl) (by kernel_rfl) (by kernel_rfl) (by kernel_rfl) (fun _ _ _ h => h) (Or.inl ⟨by first | rfl | (go_simp; done), ?_⟩) hHeld ?_; rotate_left 1; (focus (intro w' hSw; go_simp; (try with_reducible rfl))); (try simp only [Act.put, List.setIfInBounds_toArray, List.set_cons_zero, List.set_cons_succ]))
      (refine wpAnyS_takeW (i := 13) (v := ?_) rfl (by kernel_rfl) (by kernel_rfl) (by kernel_rfl) (by kernel_rfl) (fun _ _ _ h => h) (Or.inl ⟨by first | rfl | (go_simp; done), ?_⟩) hHeld ?_; rotate_left 1; (focus (intro w' hSw; go_simp; (try with_reducible rfl))); (try simp only [Act.put, List.setIfInBounds_toArray, List.set_cons_zero, List.set_cons_succ]))
      (refine wpAnyS_takeW (i := 14) (v := ?_) rfl (by kernel_rfl) (by kernel_rfl) (by kernel_rfl) (by kernel_rfl) (fun _ _ _ h => h) (Or.inl ⟨by first | rfl | (go_simp; done), ?_⟩) hHeld ?_; rotate_left 1; (focus (intro w' hSw; go_simp; (try with_reducible rfl))); (try simp only [Act.put, List.setIfInBounds_toArray, List.set_cons_zero, List.set_cons_succ]))
      (refine wpAnyS_takeD (i := 15) (v := ?_) rfl (by kernel_rfl) (by kernel_rfl) (by kernel_rfl) (by kernel_rfl) (by kernel_rfl) (fun _ _ _ h => h) (Or.inl ⟨by first | rfl | (go_simp; done), ?_⟩) hHeld ?_; rotate_left 1; (focus (intro w' hSw; (try dsimp only at hSw); go_simp; (try with_reducible rfl))); (try simp only [Act.put, List.setIfInBounds_toArray, List.set_cons_zero, List.set_cons_succ]))
      (refine wpAnyS_takeW (i := 16) (v := ?_) rfl (by kernel_rfl) (by kernel_rfl) (by kernel_rfl) (by kernel_rfl) (fun _ _ _ h => h) (Or.inl ⟨by first | rfl | (go_simp; done), ?_⟩) hHeld ?_; rotate_left 1; (focus (intro w' hSw; go_simp; (try with_reducible rfl))); (try simp only [Act.put, List.setIfInBounds_toArray, List.set_cons_zero, List.set_cons_succ]))
      (refine wpAnyS_takeW (i := 17) (v := ?_) rfl (by kernel_rfl) (by kernel_rfl) (by kernel_rfl) (by kernel_rfl) (fun _ _ _ h => h) (Or.inl ⟨by first | rfl | (go_simp; done), ?_⟩) hHeld ?_; rotate_left 1; (focus (intro w' hSw; go_simp; (try with_reducible rfl))); (try simp only [Act.put, List.setIfInBounds_toArray, List.set_cons_zero, List.set_cons_succ]))
      (refine wpAnyS_takeD (i := 18) (v := ?_) rfl (by kernel_rfl) (by kernel_rfl) (by kernel_rfl) (by kernel_rfl) (by kernel_rfl) (fun _ _ _ h => h) (Or.inl ⟨by first | rfl | (go_simp; done), ?_⟩) hHeld ?_; rotate_left 1; (focus (intro w' hSw; (try dsimp only at hSw); go_simp; (try with_reducible rfl))); (try simp only [Act.put, List.setIfInBounds_toArray, List.set_cons_zero, List.set_cons_succ]))
      (refine wpAnyS_takeW (i := 20) (v := ?_) rfl (by kernel_rfl) (by kernel_rfl) (by kernel_rfl) (by kernel_rfl) (fun _ _ _ h => h) (Or.inl ⟨by first | rfl | (go_simp; done), ?_⟩) hHeld ?_; rotate_left 1; (focus (intro w' hSw; go_simp; (try with_reducible rfl))); (try simp only [Act.put, List.setIfInBounds_toArray, List.set_cons_zero, List.set_cons_succ]))
      (refine wpAnyS_takeW (i := 21) (v := ?_) rfl (by kernel_rfl) (by kernel_rfl) (by kernel_rfl) (by kernel_rfl) (fun _ _ _ h => h) (Or.inl ⟨by first | rfl | (go_simp; done), ?_⟩) hHeld ?_; rotate_left 1; (focus (intro w' hSw; go_simp; (try with_reducible rfl))); (try simp only [Act.put, List.setIfInBounds_toArray, List.set_cons_zero, List.set_cons_succ]))
      (refine wpAnyS_takeW (i := 22) (v := ?_) rfl (by kernel_rfl) (by kernel_rfl) (by kernel_rfl) (by kernel_rfl) (fun _ _ _ h => h) (Or.inl ⟨by first | rfl | (go_simp; done), ?_⟩) hHeld ?_; rotate_left 1; (focus (intro w' hSw; go_simp; (try with_reducible rfl))); (try simp only [Act.put, List.setIfInBounds_toArray, List.set_cons_zero, List.set_cons_succ]))
      (refine wpAnyS_takeW (i := 23) (v := ?_) rfl (by kernel_rfl) (by kernel_rfl) (by kernel_rfl) (by kernel_rfl) (fun _ _ _ h => h) (Or.inl ⟨by first | rfl | (go_simp; done), ?_⟩) hHeld ?_; rotate_left 1; (focus (intro w' hSw; go_simp; (try with_reducible rfl))); (try simp only [Act.put, List.setIfInBounds_toArray, List.set_cons_zero, List.set_cons_succ]))
      (refine wpAnyS_takeD (i := 24) (v := ?_) rfl (by kernel_rfl) (by kernel_rfl) (by kernel_rfl) (by kernel_rfl) (by kernel_rfl) (fun _ _ _ h => h) (Or.inl ⟨by first | rfl | (go_simp; done), ?_⟩) hHeld ?_; rotate_left 1; (focus (intro w' hSw; (try dsimp only at hSw); go_simp; (try with_reducible rfl))); (try simp only [Act.put, List.setIfInBounds_toArray, List.set_cons_zero, List.set_cons_succ]))
      (refine wpAnyS_takeW (i := 25) (v := ?_) rfl (by kernel_rfl) (by kernel_rfl) (by kernel_rfl) (by kernel_rfl) (fun _ _ _ h => h) (Or.inl ⟨by first | rfl | (go_simp; done), ?_⟩) hHeld ?_; rotate_left 1; (focus (intro w' hSw; go_simp; (try with_reducible rfl))); (try simp only [Act.put, List.setIfInBounds_toArray, List.set_cons_zero, List.set_cons_succ]))
      (refine wpAnyS_takeW (i := 26) (v := ?_) rfl (by kernel_rfl) (by kernel_rfl) (by kernel_rfl) (by kernel_rfl) (fun _ _ _ h => h) (Or.inl ⟨by first | rfl | (go_simp; done), ?_⟩) hHeld ?_; rotate_left 1; (focus (intro w' hSw; go_simp; (try with_reducible rfl))); (try simp only [Act.put, List.setIfInBounds_toArray, List.set_cons_zero, List.set_cons_succ]))
      (refine wpAnyS_takeD (i := 27) (v := ?_) rfl (by kernel_rfl) (by kernel_rfl) (by kernel_rfl) (by kernel_rfl) (by kernel_rfl) (fun _ _ _ h => h) (Or.inl ⟨by first | rfl | (go_simp; done), ?_⟩) hHeld ?_; rotate_left 1; (focus (intro w' hSw; (try dsimp only at hSw); go_simp; (try with_reducible rfl))); (try simp only [Act.put, List.setIfInBounds_toArray, List.set_cons_zero, List.set_cons_succ]))
      (refine wpAnyS_ready (rs := [19]) (by kernel_rfl) (by simp) ?_; refine AllS.consL rfl (fun K hK => ?_) AllS.nil)
      (go_simp; go_at_call 13; refine (HST1.out _ hk9).mono ?_; rintro e w' ⟨rfl, h10⟩; go_wp2_with fail)
      have hk10 := hk9.call0 h10
      (refine hK.out _ _ ?_ (fun hHeld => ?_); (focus ((try dsimp only); exact HC4.out _ hk10)); clear hK K; (try simp only [Act.put, List.setIfInBounds_toArray, List.set_cons_zero, List.set_cons_succ]))
      obtain ⟨w10, rfl⟩ : ∃ W : World, W = w' := ⟨_, rfl⟩
      clear h10
      (refine wpAnyS_ready (rs := [28]) (by kernel_rfl) (by simp) ?_; refine AllS.consL rfl (fun K hK => ?_) AllS.nil)
      (go_simp; go_at_call 14; refine (HST2.out _ hk10).mono ?_; rintro e w' ⟨rfl, h11⟩; go_wp2_with fail)
      have hk11 := hk10.call0 h11
      (refine hK.out _ _ ?_ (fun hHeld => ?_); (focus ((try dsimp only); exact HC4.out _ hk11)); clear hK K; (try simp only [Act.put, List.setIfInBounds_toArray, List.set_cons_zero, List.set_cons_succ]))
      obtain ⟨w11, rfl⟩ : ∃ W : World, W = w' := ⟨_, rfl⟩
      clear h11
      (refine wpAnyS_takeW (i := 29) (v := ?_) rfl (by kernel_rfl) (by kernel_rfl) (by kernel_rfl) (by kernel_rfl) (fun _ _ _ h => h) (Or.inl ⟨by first | rfl | (go_simp; done), ?_⟩) hHeld ?_; rotate_left 1; (focus (intro w' hSw; go_simp; (try with_reducible rfl))); (try simp only [Act.put, List.setIfInBounds_toArray, List.set_cons_zero, List.set_cons_succ]))
      (refine wpAnyS_takeW (i := 30) (v := ?_) rfl (by kernel_rfl) (by kernel_rfl) (by kernel_rfl) (by kernel_rfl) (fun _ _ _ h => h) (Or.inl ⟨by first | rfl | (go_simp; done), ?_⟩) hHeld ?_; rotate_left 1; (focus (intro w' hSw; go_simp; (try with_reducible rfl))); (try simp only [Act.put, List.setIfInBounds_toArray, List.set_cons_zero, List.set_cons_succ]))
      (refine wpAnyS_takeW (i := 31) (v := ?_) rfl (by kernel_rfl) (by kernel_rfl) (by kernel_rfl) (by kernel_rfl) (fun _ _ _ h => h) (Or.inl ⟨by first | rfl | (go_simp; done), ?_⟩) hHeld ?_; rotate_left 1; (focus (intro w' hSw; go_simp; (try with_reducible rfl))); (try simp only [Act.put, List.setIfInBounds_toArray, List.set_cons_zero, List.set_cons_succ]))
      (refine wpAnyS_takeW (i := 32) (v := ?_) rfl (by kernel_rfl) (by kernel_rfl) (by kernel_rfl) (by kernel_rfl) (fun _ _ _ h => h) (Or.inl ⟨by first | rfl | (go_simp; done), ?_⟩) hHeld ?_; rotate_left 1; (focus (intro w' hSw; go_simp; (try with_reducible rfl))); (try simp only [Act.put, List.setIfInBounds_toArray, List.set_cons_zero, List.set_cons_succ]))
      (refine wpAnyS_takeW (i := 33) (v := ?_) rfl (by kernel_rfl) (by kernel_rfl) (by kernel_rfl) (by kernel_rfl) (fun _ _ _ h => h) (Or.inl ⟨by first | rfl | (go_simp; done), ?_⟩) hHeld ?_; rotate_left 1; (focus (intro w' hSw; go_simp; (try with_reducible rfl))); (try simp only [Act.put, List.setIfInBounds_toArray, List.set_cons_zero, List.set_cons_succ]))
      (refine wpAnyS_takeW (i := 34) (v := ?_) rfl (by kernel_rfl) (by kernel_rfl) (by kernel_rfl) (by kernel_rfl) (fun _ _ _ h => h) (Or.inl ⟨by first | rfl | (go_simp; done), ?_⟩) hHeld ?_; rotate_left 1; (focus (intro w' hSw; go_simp; (try with_reducible rfl))); (try simp only [Act.put, List.setIfInBounds_toArray, List.set_cons_zero, List.set_cons_succ]))
      (refine wpAnyS_takeW (i := 35) (v := ?_) rfl (by kernel_rfl) (by kernel_rfl) (by kernel_rfl) (by kernel_rfl) (fun _ _ _ h => h) (Or.inl ⟨by first | rfl | (go_simp; done), ?_⟩) hHeld ?_; rotate_left 1; (focus (intro w' hSw; go_simp; (try with_reducible rfl))); (try simp only [Act.put, List.setIfInBounds_toArray, List.set_cons_zero, List.set_cons_succ]))
      (refine wpAnyS_takeD (i := 36) (v := ?_) rfl (by kernel_rfl) (by kernel_rfl) (by kernel_rfl) (by kernel_rfl) (by kernel_rfl) (fun _ _ _ h => h) (Or.inl ⟨by first | rfl | (go_simp; done), ?_⟩) hHeld ?_; rotate_left 1; (focus (intro w' hSw; (try dsimp only at hSw); go_simp; (try with_reducible rfl))); (try simp only [Act.put, List.setIfInBounds_toArray, List.set_cons_zero, List.set_cons_succ]))
      (refine wpAnyS_takeW (i := 37) (v := ?_) rfl (by kernel_rfl) (by kernel_rfl) (by kernel_rfl) (by kernel_rfl) (fun _ _ _ h => h) (Or.inl ⟨by first | rfl | (go_simp; done), ?_⟩) hHeld ?_; rotate_left 1; (focus (intro w' hSw; go_simp; (try with_reducible rfl))); (try simp only [Act.put, List.setIfInBounds_toArray, List.set_cons_zero, List.set_cons_succ]))
      (refine wpAnyS_takeW (i := 38) (v := ?_) rfl (by kernel_rfl) (by kernel_rfl) (by kernel_rfl) (by kernel_rfl) (fun _ _ _ h => h) (Or.inl ⟨by first | rfl | (go_simp; done), ?_⟩) hHeld ?_; rotate_left 1; (focus (intro w' hSw; go_simp; (try with_reducible rfl))); (try simp only [Act.put, List.setIfInBounds_toArray, List.set_cons_zero, List.set_cons_succ]))
      (refine wpAnyS_takeD (i := 39) (v := ?_) rfl (by kernel_rfl) (by kernel_rfl) (by kernel_rfl) (by kernel_rfl) (by kernel_rfl) (fun _ _ _ h => h) (Or.inl ⟨by first | rfl | (go_simp; done), ?_⟩) hHeld ?_; rotate_left 1; (focus (intro w' hSw; (try dsimp only at hSw); go_simp; (try with_reducible rfl))); (try simp only [Act.put, List.setIfInBounds_toArray, List.set_cons_zero, List.set_cons_succ]))
      (refine wpAnyS_takeW (i := 41) (v := ?_) rfl (by kernel_rfl) (by kernel_rfl) (by kernel_rfl) (by kernel_rfl) (fun _ _ _ h => h) (Or.inl ⟨by first | rfl | (go_simp; done), ?_⟩) hHeld ?_; rotate_left 1; (focus (intro w' hSw; go_simp; (try with_reducible rfl))); (try simp only [Act.put, List.setIfInBounds_toArray, List.set_cons_zero, List.set_cons_succ]))
      (refine wpAnyS_takeW (i := 42) (v := ?_) rfl (by kernel_rfl) (by kernel_rfl) (by kernel_rfl) (by kernel_rfl) (fun _ _ _ h => h) (Or.inl ⟨by first | rfl | (go_simp; done), ?_⟩) hHeld ?_; rotate_left 1; (focus (intro w' hSw; go_simp; (try with_reducible rfl))); (try simp only [Act.put, List.setIfInBounds_toArray, List.set_cons_zero, List.set_cons_succ]))
      (refine wpAnyS_takeW (i := 43) (v := ?_) rfl (by kernel_rfl) (by kernel_rfl) (by kernel_rfl) (by kernel_rfl) (fun _ _ _ h => h) (Or.inl ⟨by first | rfl | (go_simp; done), ?_⟩) hHeld ?_; rotate_left 1; (focus (intro w' hSw; go_simp; (try with_reducible rfl))); (try simp only [Act.put, List.setIfInBounds_toArray, List.set_cons_zero, List.set_cons_succ]))
      (refine wpAnyS_takeW (i := 44) (v := ?_) rfl (by kernel_rfl) (by kernel_rfl) (by kernel_rfl) (by kernel_rfl) (fun _ _ _ h => h) (Or.inl ⟨by first | rfl | (go_simp; done), ?_⟩) hHeld ?_; rotate_left 1; (focus (intro w' hSw; go_simp; (try with_reducible rfl))); (try simp only [Act.put, List.setIfInBounds_toArray, List.set_cons_zero, List.set_cons_succ]))
      (refine wpAnyS_takeD (i := 45) (v := ?_) rfl (by kernel_rfl) (by kernel_rfl) (by kernel_rfl) (by kernel_rfl) (by kernel_rfl) (fun _ _ _ h => h) (Or.inl ⟨by first | rfl | (go_simp; done), ?_⟩) hHeld ?_; rotate_left 1; (focus (intro w' hSw; (try dsimp only at hSw); go_simp; (try with_reducible rfl))); (try simp only [Act.put, List.setIfInBounds_toArray, List.set_cons_zero, List.set_cons_succ]))
      (refine wpAnyS_takeW (i := 46) (v := ?_) rfl (by kernel_rfl) (by kernel_rfl) (by kernel_rfl) (by kernel_rfl) (fun _ _ _ h => h) (Or.inl ⟨by first | rfl | (go_simp; done), ?_⟩) hHeld ?_; rotate_left 1; (focus (intro w' hSw; go_simp; (try with_reducible rfl))); (try simp only [Act.put, List.setIfInBounds_toArray, List.set_cons_zero, List.set_cons_succ]))
      (refine wpAnyS_takeW (i := 47) (v := ?_) rfl (by kernel_rfl) (by kernel_rfl) (by kernel_rfl) (by kernel_rfl) (fun _ _ _ h => h) (Or.inl ⟨by first | rfl | (go_simp; done), ?_⟩) hHeld ?_; rotate_left 1; (focus (intro w' hSw; go_simp; (try with_reducible rfl))); (try simp only [Act.put, List.setIfInBounds_toArray, List.set_cons_zero, List.set_cons_succ]))
      (refine wpAnyS_takeD (i := 48) (v := ?_) rfl (by kernel_rfl) (by kernel_rfl) (by kernel_rfl) (by kernel_rfl) (by kernel_rfl) (fun _ _ _ h => h) (Or.inl ⟨by first | rfl | (go_simp; done), ?_⟩) hHeld ?_; rotate_left 1; (focus (intro w' hSw; (try dsimp only at hSw); go_simp; (try with_reducible rfl))); (try simp only [Act.put, List.setIfInBounds_toArray, List.set_cons_zero, List.set_cons_succ]))
      (refine wpAnyS_ready (rs := [40]) (by kernel_rfl) (by simp) ?_; refine AllS.consL rfl (fun K hK => ?_) AllS.nil)
      (go_simp; go_at_call 16; refine (HPA1.out _ hk11).mono ?_; rintro e w' ⟨vg, rfl, h12⟩; go_wp2_with fail)
      have hk12 := hk11.call0 h12.bare
      (refine hK.out _ _ ?_ (fun hHeld => ?_); (focus ((try dsimp only); exact HC4.out _ hk12)); clear hK K; (try simp only [Act.put, List.setIfInBounds_toArray, List.set_cons_zero, List.set_cons_succ]))
      obtain ⟨w12, rfl⟩ : ∃ W : World, W = w' := ⟨_, rfl⟩
      (refine wpAnyS_ready (rs := [49]) (by kernel_rfl) (by simp) ?_; refine AllS.consL rfl (fun K hK => ?_) AllS.nil)
      (go_simp; go_at_call 17; refine (HPA2.out _ hk12).mono ?_; rintro e w' ⟨vx, rfl, h13⟩; go_wp2_with fail)
      have hk13 := hk12.call0 h13.bare
      have HT13 := Mx.hid (texts_same _ _ ps ps _ (h13.old h12.sl0) h13.sl0 (Mx.hid rfl))
      (refine hK.out _ _ ?_ (fun hHeld => ?_); (focus ((try dsimp only); exact HC4.out _ hk13)); clear hK K; (try simp only [Act.put, List.setIfInBounds_toArray, List.set_cons_zero, List.set_cons_succ]))
      obtain ⟨w13, rfl⟩ : ∃ W : World, W = w' := ⟨_, rfl⟩
      clear h12 h13
      (refine wpAnyS_ready (rs := [50]) (by kernel_rfl) (by simp) ?_; refine AllS.consL rfl (fun K hK => ?_) AllS.nil)
      (go_simp; go_at_call 15; refine (HT13.out).mono ?_; rintro e w' ⟨rfl, h14⟩; go_wp2_with fail)
      have hk14 := hk13.call0 h14
      clear h14 HT13
      (refine hK.out _ _ ?_ (fun hHeld => ?_); (focus ((try dsimp only); exact HC4.out _ hk14)); clear hK K; (try simp only [Act.put, List.setIfInBounds_toArray, List.set_cons_zero, List.set_cons_succ]))
      obtain ⟨w14, rfl⟩ : ∃ W : World, W = w' := ⟨_, rfl⟩
      (refine wpAnyS_takeW (i := 51) (v := ?_) rfl (by kernel_rfl) (by kernel_rfl) (by kernel_rfl) (by kernel_rfl) (fun _ _ _ h => h) (Or.inl ⟨by first | rfl | (go_simp; done), ?_⟩) hHeld ?_; rotate_left 1; (focus (intro w' hSw; go_simp; (try with_reducible rfl))); (try simp only [Act.put, List.setIfInBounds_toArray, List.set_cons_zero, List.set_cons_succ]))
      (refine wpAnyS_seq (by rfl) (by kernel_rfl) ?_; simp only [List.drop_succ_cons, List.drop_zero])
      clear hHeld hk9 hk10 hk11 hk12 hk13
      go_wp2_with fail
      exact ⟨⟨i + 1, by go_num, by omega, hk14⟩, by simp [intOf]; omega⟩
    · have hge : ¬ (i : Int) < (L2.length : Int) := by omega
      have hk9 := HK8.out.call0 hs
      go_wp2_with fail
      refine (first12_any _).mono ?_
      rintro e wf ⟨rfl, hkf⟩
      go_wp2_with fail
      go_ret
      exact ⟨rfl, (hk9.call0 hkf).below⟩
end Go.Proofs.YtloogjdafhjheaaGreat
