/- Walk of the document's Add. -/
import Derived.Test.YtloogjdafhjheaaGreatJ26Has
import Derived.Test.YtloogjdafhjheaaGreatJ3Held
import Derived.Test.YtloogjdafhjheaaGreatJ20RgQ
import Derived.Test.YtloogjdafhjheaaGreatJ16SrtG
namespace Go.Mx
open Go Go.RowKit
theorem St.q3q {w0 w : World} {R : List Row} {Q : List Rd} {p q r : Rd} {v : Value} {size n : Nat} {xs : List Value} (h : St w0 w R (p :: q :: r :: ⟨v, size, n, xs⟩ :: Q)) : Sl w size v n xs := h.rd ⟨v, size, n, xs⟩ (by simp)
theorem Sl.cellAt {w : World} {b off n cap size : Nat} {xs : List Value} (h : Sl w size (.slice (some ⟨b, off, none⟩) n cap) n xs) {j : Nat} {u : Value} (hj : xs[j]? = some u) : w.cell? ⟨b, off + j, none⟩ = some u := by
  obtain ⟨ao, cap', he, _, _, _, _, h5⟩ := h
  cases he
  obtain ⟨a, ha, h6⟩ := h5 j u hj
  cases ha
  rwa [Addr.add_lit] at h6
theorem is_get {l : List Int} {k : Nat} (h : k < l.length) : (is l)[k]? = some (.int .i64 l[k]) := by simp [is, h]
theorem St.castR {w0 w : World} {R R' : List Row} {Q : List Rd} (h : St w0 w R Q) (e : R = R') : St w0 w R' Q := e ▸ h
end Go.Mx
namespace Go.Proofs.YtloogjdafhjheaaGreat
open Go.RowKit Go.Mx

theorem Tryz.elSs : El Tryz.prog 42 23 1 24 := El.mk' Tryz.underlying42 (z := .slice none 0 0) (by kernel_rfl) rfl (by omega)
/-- The document's graph, owned. -/
abbrev xrow (x : Nat) (vi vp vs : Value) : Row := ⟨.slice (some ⟨x, 0, none⟩) 1 1, 45, 3, 1, [vi, vp, vs]⟩
abbrev xR (x : Nat) (vi vp vs : Value) (L : List Nd) (PV : List Value) : List Row :=
  [⟨vi, 9, 1, L.length, ss (L.map (·.1))⟩, ⟨vp, 23, 1, L.length, PV⟩, ⟨vs, 3, 1, L.length, is (L.map (·.2.2))⟩, xrow x vi vp vs]
def XAddPost (w0 : World) (x : Nat) (vi vp vs : Value) (L : List Nd) (PV : List Value) (id : ByteArray) (ps : List ByteArray) (s : Int) (Q : List Rd) (e : Ending) (w' : World) : Prop :=
  e = .returned (.int .i64 (addE L id ps s)) ∧
  ((addE L id ps s ≠ 0 ∧ St w0 w' (xR x vi vp vs L PV) Q) ∨
   (addE L id ps s = 0 ∧ ∃ vi' vp' vs' u, St w0 w' (xR x vi' vp' vs' (L ++ [(id, uniqL ps, s)]) (PV ++ [u])) (⟨u, 1, (uniqL ps).length, ss (uniqL ps)⟩ :: Q)))
/-- Where a name stands, by the rows alone. -/
theorem at_r {w0 w : World} (x : Nat) (vi vp vs : Value) (L : List Nd) (PV : List Value) (Q : List Rd) (k : ByteArray) (hs : St w0 w (xR x vi vp vs L PV) Q) :
    Calls Tryz.prog 36 #[.pointer (some ⟨x, 0, none⟩), .string k] w fun e w' => e = .returned (.int .i64 (ixL L k)) ∧ w = w' :=
  at_y x vi L k w (hs.rcell (List.mem_cons_of_mem _ (List.mem_cons_of_mem _ (List.mem_cons_of_mem _ (List.mem_cons_self ..)))) (j := 0) rfl) hs.sl0
set_option maxRecDepth 100000 in
set_option maxHeartbeats 4000000 in
theorem xadd_any {w0 w : World} (x : Nat) (vi vp vs : Value) (L : List Nd) (PV : List Value) (id : ByteArray) (v : Value) (ps : List ByteArray) (s : Int) (Q : List Rd) (hst : St w0 w (xR x vi vp vs L PV) Q) (hv : (⟨v, 1, ps.length, ss ps⟩ : Rd) ∈ Q) (hl : ps.length ≤ 1000000) :
    Calls Tryz.prog 35 #[.pointer (some ⟨x, 0, none⟩), .string id, v, .int .i64 s] w (XAddPost w0 x vi vp vs L PV id ps s Q) := by
  have HAT := Mx.hid (fun k w' (hs : St w0 w' (xR x vi vp vs L PV) Q) => at_r x vi vp vs L PV Q k hs)
  have HV := Mx.hid hv
  have hsv : Sl w 1 v ps.length (ss ps) := hst.rd _ hv
  obtain ⟨ao, cap, blk, off, rfl, h1, h2, _, hcc⟩ := hsv.txt
  have HC := Mx.hid (fun (w' : World) (hs : St w0 w' (xR x vi vp vs L PV) Q) (k : Nat) (hk : k < ps.length) => (show ao = some ⟨blk, off, none⟩ ∧ w'.cell? ⟨blk, off + k, none⟩ = some (.string ps[k]) from by
    obtain ⟨rfl, _⟩ := hcc k hk
    exact ⟨rfl, Sl.cellAt (hs.rd _ HV.out : Sl w' 1 (.slice (some ⟨blk, off, none⟩) ps.length cap) ps.length (ss ps)) (ss_get hk)⟩))
  have HA := Mx.hid (addE_def L id ps s)
  clear hv hcc hsv
  by_cases hid : id = ByteArray.empty
  · have HE := Mx.hid (show addE L id ps s = 6 by rw [HA.out, if_pos hid])
    have q : id.toList.isEmpty = true := by subst hid; rw [ByteArray.toList_eq]; rfl
    clear hid HA
    go_enter Tryz.func35, Tryz.ntmps35
    go_wp2_with fail
    go_ret
    exact ⟨by rw [HE.out]; rfl, .inl ⟨by rw [HE.out]; decide, hst⟩⟩
  have q : id.toList.isEmpty = false := by
    rw [Bool.eq_false_iff]
    intro h
    rw [ByteArray.toList_eq, List.isEmpty_iff] at h
    apply hid
    apply ByteArray.ext
    apply Array.ext'
    rw [h]
    rfl
  have HX := Mx.hid (HAT.out id w hst)
  rcases ixL_cases L id with ⟨j, hj, e1, e2, e3⟩ | ⟨e1, e2, e3⟩
  · rw [e2] at HX
    have HE := Mx.hid (show addE L id ps s = 8 by rw [HA.out, if_neg hid, if_pos (by unfold isIn; rw [e3]; rfl)])
    clear hid HA e1 e2 e3
    go_enter Tryz.func35, Tryz.ntmps35
    go_wp2_with (go_at_call 36; refine HX.out.mono ?_; rintro e w1 ⟨rfl, rfl⟩)
    go_ret
    exact ⟨by rw [HE.out]; rfl, .inl ⟨by rw [HE.out]; decide, hst⟩⟩
  rw [e2] at HX
  rw [if_neg hid, if_neg (by unfold isIn; rw [e3]; simp)] at HA
  clear hid e1 e2 e3
  go_enter Tryz.func35, Tryz.ntmps35
  go_wp2_with (go_at_call 36; refine HX.out.mono ?_; rintro e w1 ⟨rfl, rfl⟩)
  clear HX
  go_loopw [9] (fun y wr => ∃ i : Nat, i ≤ ps.length ∧ y = .int .i64 i ∧ Hid ((ps.take i).all (isIn L) = true) ∧ w = wr) (fun y _ => ps.length - (intOf y).toNat)
  case atStart => exact ⟨0, by omega, rfl, by simp [Hid], rfl⟩
  case round =>
    obtain ⟨i, hi, rfl, HALL, rfl⟩ := hrel
    by_cases hlt : i < ps.length
    · obtain ⟨rfl, c1⟩ := HC.out _ hst i hlt
      have HX := Mx.hid (HAT.out ps[i] _ hst)
      have HTK := Mx.hid (List.take_succ_eq_append_getElem hlt)
      have HMEM := Mx.hid (List.getElem_mem hlt)
      rcases ixL_cases L ps[i] with ⟨j, hj, e1, e2, e3⟩ | ⟨e1, e2, e3⟩
      · rw [e2] at HX
        have HI1 := Mx.hid (show isIn L ps[i] = true by unfold isIn; rw [e3]; rfl)
        clear e1 e2 e3
        generalize ps[i] = p at *
        go_wp2_with (go_at_call 36; refine HX.out.mono ?_; rintro e w2 ⟨rfl, rfl⟩)
        exact ⟨⟨i + 1, by omega, by go_num, (show _ = _ by rw [HTK.out, List.all_append, HALL.out]; simp [HI1.out]), by trivial⟩, by simp [intOf]; omega⟩
      · rw [e2] at HX
        have HE := Mx.hid (show addE L id ps s = 7 by
          rw [HA.out, if_pos]
          rw [Bool.eq_false_iff]
          intro h
          have := List.all_eq_true.1 h _ HMEM.out
          unfold isIn at this
          rw [e3] at this
          cases this)
        clear e1 e2 e3 HA
        generalize ps[i] = p at *
        go_wp2_with (go_at_call 36; refine HX.out.mono ?_; rintro e w2 ⟨rfl, rfl⟩)
        go_ret
        exact ⟨by rw [HE.out]; rfl, .inl ⟨by rw [HE.out]; decide, hst⟩⟩
    · have HALL2 := Mx.hid (show ps.all (isIn L) = true by have := HALL.out; rwa [List.take_of_length_le (by omega)] at this)
      rw [if_neg (by rw [HALL2.out]; simp)] at HA
      go_wp2_with fail
      go_loopw [10] (fun y wr => ∃ i : Nat, i ≤ ps.length ∧ y = .int .i64 i ∧ Hid (∀ p ∈ ps.take i, stampL L p < s) ∧ St w0 wr (xR x vi vp vs L PV) Q) (fun y _ => ps.length - (intOf y).toNat)
      case atStart => exact ⟨0, by omega, rfl, by simp [Hid], hst⟩
      case round =>
        clear hst hlt hi HALL
        obtain ⟨i, hi, rfl, HLT, hs⟩ := hrel
        by_cases hlt : i < ps.length
        · obtain ⟨rfl, c1⟩ := HC.out _ hs i hlt
          have HX := Mx.hid (fun wx hx => HAT.out ps[i] wx hx)
          have HTK := Mx.hid (List.take_succ_eq_append_getElem hlt)
          have HMEM := Mx.hid (List.getElem_mem hlt)
          have HIN := Mx.hid (List.all_eq_true.1 HALL2.out _ HMEM.out)
          have HCC := Mx.hid (fun wx hx => (HC.out wx hx i hlt).2)
          rcases ixL_cases L ps[i] with ⟨j, hj, e1, e2, e3⟩ | ⟨e1, e2, e3⟩
          · rw [e2] at HX
            have HS1 := Mx.hid (show stampL L ps[i] = L[j].2.2 by unfold stampL; rw [e3])
            obtain ⟨so, sc, sb, sf, rfl, _, _, hsc⟩ := stamps_of hs.sl2
            obtain ⟨rfl, _⟩ := hsc j hj
            have HSC := Mx.hid (fun wx (hx : St w0 wx (xR x vi vp (.slice (some ⟨sb, sf, none⟩) L.length sc) L PV) Q) => Sl.cellAt hx.sl2 (is_get (l := L.map (·.2.2)) (k := j) (by simpa using hj)))
            rw [List.getElem_map] at HSC
            have HX2 := Mx.hid (fun wx (hx : St w0 wx (xR x vi vp (.slice (some ⟨sb, sf, none⟩) L.length sc) L PV) Q) => hx.rcell (List.mem_cons_of_mem _ (List.mem_cons_of_mem _ (List.mem_cons_of_mem _ (List.mem_cons_self ..)))) (j := 2) rfl)
            have hjj : (j : Int) < (L.length : Int) := by omega
            have hii : (i : Int) < (ps.length : Int) := by omega
            clear e1 e2 e3 hsc
            generalize L[j].2.2 = z at *
            generalize ps[i] = p at *
            by_cases hz : s ≤ z
            · have hd : decide (s ≤ z) = true := decide_eq_true hz
              have HE := Mx.hid (show addE L id ps s = 1 by
                rw [HA.out, if_pos]
                left
                rw [Bool.eq_false_iff]
                intro h
                have := of_decide_eq_true (List.all_eq_true.1 h _ HMEM.out)
                rw [HS1.out] at this
                omega)
              clear hz HA
              go_wp2_with fail
              refine wp_region_C (fun W' => St w0 W' (xR x vi vp (.slice (some ⟨sb, sf, none⟩) L.length sc) L PV) Q) (by kernel_rfl) (by kernel_rfl) (by exact hs.drew) ?_
              repeat ((first | (refine cq_y0 (v := ?_) (by with_reducible rfl) ?_ ?_; rotate_left 1; (focus (intro wq hq; (try dsimp only at hq); (have y0 := HCC.out _ hq; have y1 := HSC.out _ hq; have y2 := HX2.out _ hq); go_simp; (first | done | with_reducible rfl | (go_at_call 36; refine (HX.out _ hq).mono ?_; rintro e w9 ⟨rfl, rfl⟩; refine ⟨?_, hq⟩; with_reducible rfl))))) | (refine cq_no (by go_simp; first | done | (intro h9; cases h9)) ?_) | (refine cq_yes (v := ?_) (by go_simp) ?_ ?_; rotate_left 1; (focus (intro wq hq; (try dsimp only at hq); (have y0 := HCC.out _ hq; have y1 := HSC.out _ hq; have y2 := HX2.out _ hq); go_simp; (first | done | with_reducible rfl | (go_at_call 36; refine (HX.out _ hq).mono ?_; rintro e w9 ⟨rfl, rfl⟩; refine ⟨?_, hq⟩; with_reducible rfl)))))); (try simp only [Act.put, List.setIfInBounds_toArray, List.set_cons_zero, List.set_cons_succ]))
              refine cq_nil ?_
              intro wq hq
              (try dsimp only at hq)
              go_wp2_with fail
              go_ret
              exact ⟨by rw [HE.out]; rfl, .inl ⟨by rw [HE.out]; decide, hq⟩⟩
            · have hd : decide (s ≤ z) = false := decide_eq_false hz
              have HLT2 := Mx.hid (show ∀ p ∈ ps.take (i + 1), stampL L p < s by
                rw [HTK.out]
                intro q hq
                rcases List.mem_append.1 hq with hq | hq
                · exact HLT.out q hq
                · rw [List.mem_singleton.1 hq, HS1.out]; omega)
              clear hz HA
              go_wp2_with fail
              refine wp_region_C (fun W' => St w0 W' (xR x vi vp (.slice (some ⟨sb, sf, none⟩) L.length sc) L PV) Q) (by kernel_rfl) (by kernel_rfl) (by exact hs.drew) ?_
              repeat ((first | (refine cq_y0 (v := ?_) (by with_reducible rfl) ?_ ?_; rotate_left 1; (focus (intro wq hq; (try dsimp only at hq); (have y0 := HCC.out _ hq; have y1 := HSC.out _ hq; have y2 := HX2.out _ hq); go_simp; (first | done | with_reducible rfl | (go_at_call 36; refine (HX.out _ hq).mono ?_; rintro e w9 ⟨rfl, rfl⟩; refine ⟨?_, hq⟩; with_reducible rfl))))) | (refine cq_no (by go_simp; first | done | (intro h9; cases h9)) ?_) | (refine cq_yes (v := ?_) (by go_simp) ?_ ?_; rotate_left 1; (focus (intro wq hq; (try dsimp only at hq); (have y0 := HCC.out _ hq; have y1 := HSC.out _ hq; have y2 := HX2.out _ hq); go_simp; (first | done | with_reducible rfl | (go_at_call 36; refine (HX.out _ hq).mono ?_; rintro e w9 ⟨rfl, rfl⟩; refine ⟨?_, hq⟩; with_reducible rfl)))))); (try simp only [Act.put, List.setIfInBounds_toArray, List.set_cons_zero, List.set_cons_succ]))
              refine cq_nil ?_
              intro wq hq
              (try dsimp only at hq)
              go_wp2_with fail
              exact ⟨⟨i + 1, by omega, by go_num, HLT2, hq⟩, by simp [intOf]; omega⟩
          · have := HIN.out
            unfold isIn at this
            rw [e3] at this
            cases this
        · have HLT2 := Mx.hid (show ∀ p ∈ ps, stampL L p < s by have := HLT.out; rwa [List.take_of_length_le (by omega)] at this)
          obtain ⟨io, ic, rfl, _⟩ := _root_.id hs.sl0
          have c0 := hs.rcell (List.mem_cons_of_mem _ (List.mem_cons_of_mem _ (List.mem_cons_of_mem _ (List.mem_cons_self ..)))) (j := 0) rfl
          have c1 := hs.rcell (List.mem_cons_of_mem _ (List.mem_cons_of_mem _ (List.mem_cons_of_mem _ (List.mem_cons_self ..)))) (j := 1) rfl
          have c2 := hs.rcell (List.mem_cons_of_mem _ (List.mem_cons_of_mem _ (List.mem_cons_of_mem _ (List.mem_cons_self ..)))) (j := 2) rfl
          by_cases h0 : s < 0
          · have hd : decide (s < 0) = true := decide_eq_true h0
            have HE := Mx.hid (show addE L id ps s = 1 by rw [HA.out, if_pos (.inr h0)])
            clear h0 HA
            go_wp2_with fail
            go_ret
            exact ⟨by rw [HE.out]; rfl, .inl ⟨by rw [HE.out]; decide, hs⟩⟩
          have hd : decide (s < 0) = false := decide_eq_false h0
          rw [if_neg (by
            rintro (h | h)
            · rw [List.all_eq_true.2 (fun p hp => decide_eq_true (HLT2.out p hp))] at h
              cases h
            · exact h0 h)] at HA
          clear h0
          by_cases hlim : 2000 ≤ L.length
          · have ql : decide ((2000 : Int) ≤ (L.length : Int)) = true := decide_eq_true (by omega)
            have ql2 : decide (2000 ≤ L.length) = true := decide_eq_true hlim
            have HE := Mx.hid (show addE L id ps s = 14 by rw [HA.out, if_pos hlim])
            clear hlim HA
            go_wp2_with fail
            go_ret
            exact ⟨by rw [HE.out]; rfl, .inl ⟨by rw [HE.out]; decide, hs⟩⟩
          · have ql : decide ((2000 : Int) ≤ (L.length : Int)) = false := decide_eq_false (by omega)
            have ql2 : decide (2000 ≤ L.length) = false := decide_eq_false hlim
            have HE := Mx.hid (show addE L id ps s = 0 by rw [HA.out, if_neg hlim])
            have hl2 : L.length < 2000 := by omega
            clear hlim HA
            go_wp2_with fail
            have hc := hs.drew
            (refine wp_region_S (25) (fun W' => W'.cell? ⟨x, 0, none⟩ = some (.slice io L.length ic) ∧ W'.cell? ⟨x, 1, none⟩ = some vp ∧ W'.cell? ⟨x, 2, none⟩ = some vs) (by kernel_rfl) ?_ (fun hHeld => ?_); (focus ((try dsimp only); exact ⟨hc.rcell (by repeat (first | exact List.mem_cons_self .. | apply List.mem_cons_of_mem)) (j := 0) rfl, hc.rcell (by repeat (first | exact List.mem_cons_self .. | apply List.mem_cons_of_mem)) (j := 1) rfl, hc.rcell (by repeat (first | exact List.mem_cons_self .. | apply List.mem_cons_of_mem)) (j := 2) rfl⟩)))
            (refine wpAnyS_takeW (i := 0) (v := ?_) rfl (by kernel_rfl) (by kernel_rfl) (by kernel_rfl) (by kernel_rfl) (fun _ _ _ h => h) (Or.inl ⟨by rfl, ?_⟩) hHeld ?_; rotate_left 1; (focus (intro w' hSw; go_simp; (try with_reducible rfl))); (try simp only [Act.put, List.setIfInBounds_toArray, List.set_cons_zero, List.set_cons_succ]))
            (refine wpAnyS_takeW (i := 1) (v := ?_) rfl (by kernel_rfl) (by kernel_rfl) (by kernel_rfl) (by kernel_rfl) (fun _ _ _ h => h) (Or.inl ⟨by rfl, ?_⟩) hHeld ?_; rotate_left 1; (focus (intro w' hSw; go_simp; (try with_reducible rfl))); (try simp only [Act.put, List.setIfInBounds_toArray, List.set_cons_zero, List.set_cons_succ]))
            (refine wpAnyS_takeW (i := 2) (v := ?_) rfl (by kernel_rfl) (by kernel_rfl) (by kernel_rfl) (by kernel_rfl) (fun _ _ _ h => h) (Or.inl ⟨by rfl, ?_⟩) hHeld ?_; rotate_left 1; (focus (intro w' hSw; go_simp; (try with_reducible rfl))); (try simp only [Act.put, List.setIfInBounds_toArray, List.set_cons_zero, List.set_cons_succ]))
            (refine wpAnyS_takeW (i := 3) (v := ?_) rfl (by kernel_rfl) (by kernel_rfl) (by kernel_rfl) (by kernel_rfl) (fun _ _ _ h => h) (Or.inl ⟨by rfl, ?_⟩) hHeld ?_; rotate_left 1; (focus (intro w' hSw; go_simp; (try with_reducible rfl))); (try simp only [Act.put, List.setIfInBounds_toArray, List.set_cons_zero, List.set_cons_succ]))
            (refine wpAnyS_takeW (i := 4) (v := ?_) rfl (by kernel_rfl) (by kernel_rfl) (by kernel_rfl) (by kernel_rfl) (fun _ _ _ h => h) (Or.inl ⟨by rfl, ?_⟩) hHeld ?_; rotate_left 1; (focus (intro w' hSw; go_simp; (try with_reducible rfl))); (try simp only [Act.put, List.setIfInBounds_toArray, List.set_cons_zero, List.set_cons_succ]))
            (refine wpAnyS_takeW (i := 5) (v := ?_) rfl (by kernel_rfl) (by kernel_rfl) (by kernel_rfl) (by kernel_rfl) (fun _ _ _ h => h) (Or.inl ⟨by rfl, ?_⟩) hHeld ?_; rotate_left 1; (focus (intro w' hSw; go_simp; (try with_reducible rfl))); (try simp only [Act.put, List.setIfInBounds_toArray, List.set_cons_zero, List.set_cons_succ]))
            (refine wpAnyS_takeL (i := 6) (v := ?_) rfl (by kernel_rfl) (by kernel_rfl) (by kernel_rfl) (by kernel_rfl) (by kernel_rfl) (by kernel_rfl) (fun _ _ _ h => h) (Or.inl ⟨by rfl, ?_⟩) hHeld ?_; rotate_left 1; (focus (intro w' hSw; (try dsimp only at hSw); go_simp; (try with_reducible rfl))); (try simp only [Act.put, List.setIfInBounds_toArray, List.set_cons_zero, List.set_cons_succ]))
            (refine wpAnyS_takeW (i := 7) (v := ?_) rfl (by kernel_rfl) (by kernel_rfl) (by kernel_rfl) (by kernel_rfl) (fun _ _ _ h => h) (Or.inl ⟨by rfl, ?_⟩) hHeld ?_; rotate_left 1; (focus (intro w' hSw; go_simp; (try with_reducible rfl))); (try simp only [Act.put, List.setIfInBounds_toArray, List.set_cons_zero, List.set_cons_succ]))
            (refine wpAnyS_takeW (i := 10) (v := ?_) rfl (by kernel_rfl) (by kernel_rfl) (by kernel_rfl) (by kernel_rfl) (fun _ _ _ h => h) (Or.inl ⟨by rfl, ?_⟩) hHeld ?_; rotate_left 1; (focus (intro w' hSw; go_simp; (try with_reducible rfl))); (try simp only [Act.put, List.setIfInBounds_toArray, List.set_cons_zero, List.set_cons_succ]))
            (refine wpAnyS_takeW (i := 11) (v := ?_) rfl (by kernel_rfl) (by kernel_rfl) (by kernel_rfl) (by kernel_rfl) (fun _ _ _ h => h) (Or.inl ⟨by rfl, ?_⟩) hHeld ?_; rotate_left 1; (focus (intro w' hSw; go_simp; (try with_reducible rfl))); (try simp only [Act.put, List.setIfInBounds_toArray, List.set_cons_zero, List.set_cons_succ]))
            (refine wpAnyS_takeW (i := 12) (v := ?_) rfl (by kernel_rfl) (by kernel_rfl) (by kernel_rfl) (by kernel_rfl) (fun _ _ _ h => h) (Or.inl ⟨by rfl, ?_⟩) hHeld ?_; rotate_left 1; (focus (intro w' hSw; go_simp; (try with_reducible rfl))); (try simp only [Act.put, List.setIfInBounds_toArray, List.set_cons_zero, List.set_cons_succ]))
            (refine wpAnyS_takeL (i := 13) (v := ?_) rfl (by kernel_rfl) (by kernel_rfl) (by kernel_rfl) (by kernel_rfl) (by kernel_rfl) (by kernel_rfl) (fun _ _ _ h => h) (Or.inl ⟨by rfl, ?_⟩) hHeld ?_; rotate_left 1; (focus (intro w' hSw; (try dsimp only at hSw); go_simp; (try with_reducible rfl))); (try simp only [Act.put, List.setIfInBounds_toArray, List.set_cons_zero, List.set_cons_succ]))
            (refine wpAnyS_takeW (i := 14) (v := ?_) rfl (by kernel_rfl) (by kernel_rfl) (by kernel_rfl) (by kernel_rfl) (fun _ _ _ h => h) (Or.inl ⟨by rfl, ?_⟩) hHeld ?_; rotate_left 1; (focus (intro w' hSw; go_simp; (try with_reducible rfl))); (try simp only [Act.put, List.setIfInBounds_toArray, List.set_cons_zero, List.set_cons_succ]))
            (refine wpAnyS_takeW (i := 18) (v := ?_) rfl (by kernel_rfl) (by kernel_rfl) (by kernel_rfl) (by kernel_rfl) (fun _ _ _ h => h) (Or.inl ⟨by rfl, ?_⟩) hHeld ?_; rotate_left 1; (focus (intro w' hSw; go_simp; (try with_reducible rfl))); (try simp only [Act.put, List.setIfInBounds_toArray, List.set_cons_zero, List.set_cons_succ]))
            (refine wpAnyS_takeW (i := 19) (v := ?_) rfl (by kernel_rfl) (by kernel_rfl) (by kernel_rfl) (by kernel_rfl) (fun _ _ _ h => h) (Or.inl ⟨by rfl, ?_⟩) hHeld ?_; rotate_left 1; (focus (intro w' hSw; go_simp; (try with_reducible rfl))); (try simp only [Act.put, List.setIfInBounds_toArray, List.set_cons_zero, List.set_cons_succ]))
            (refine wpAnyS_takeW (i := 20) (v := ?_) rfl (by kernel_rfl) (by kernel_rfl) (by kernel_rfl) (by kernel_rfl) (fun _ _ _ h => h) (Or.inl ⟨by rfl, ?_⟩) hHeld ?_; rotate_left 1; (focus (intro w' hSw; go_simp; (try with_reducible rfl))); (try simp only [Act.put, List.setIfInBounds_toArray, List.set_cons_zero, List.set_cons_succ]))
            (refine wpAnyS_takeL (i := 21) (v := ?_) rfl (by kernel_rfl) (by kernel_rfl) (by kernel_rfl) (by kernel_rfl) (by kernel_rfl) (by kernel_rfl) (fun _ _ _ h => h) (Or.inl ⟨by rfl, ?_⟩) hHeld ?_; rotate_left 1; (focus (intro w' hSw; (try dsimp only at hSw); go_simp; (try with_reducible rfl))); (try simp only [Act.put, List.setIfInBounds_toArray, List.set_cons_zero, List.set_cons_succ]))
            (refine wpAnyS_takeW (i := 22) (v := ?_) rfl (by kernel_rfl) (by kernel_rfl) (by kernel_rfl) (by kernel_rfl) (fun _ _ _ h => h) (Or.inl ⟨by rfl, ?_⟩) hHeld ?_; rotate_left 1; (focus (intro w' hSw; go_simp; (try with_reducible rfl))); (try simp only [Act.put, List.setIfInBounds_toArray, List.set_cons_zero, List.set_cons_succ]))
            generalize wr.drew = W at hc hHeld ⊢
            refine wpAnyS_ready (rs := [8, 23]) (by kernel_rfl) (by simp) ?_
            refine AllS.consL rfl (fun K hK => ?_) ?_
            · go_simp
              replace hc := hc.bq (Value.string id) 9
              generalize W.alloc (Obj.cells #[Value.string id] 9) = W1 at hc ⊢
              generalize W.heap.size = g8 at hc ⊢
              (refine hK.out _ _ ?_ (fun hHeld => ?_); (focus ((try dsimp only); exact ⟨hc.rcell (by repeat (first | exact List.mem_cons_self .. | apply List.mem_cons_of_mem)) (j := 0) rfl, hc.rcell (by repeat (first | exact List.mem_cons_self .. | apply List.mem_cons_of_mem)) (j := 1) rfl, hc.rcell (by repeat (first | exact List.mem_cons_self .. | apply List.mem_cons_of_mem)) (j := 2) rfl⟩)); clear hK K; (try simp only [Act.put, List.setIfInBounds_toArray, List.set_cons_zero, List.set_cons_succ]))
              obtain ⟨W, rfl⟩ : ∃ W : World, W = W1 := ⟨_, rfl⟩
              refine wpAnyS_ready (rs := [9, 23]) (by kernel_rfl) (by simp) ?_
              refine AllS.consL rfl (fun K hK => ?_) ?_
              · refine step_app rfl _ _ 23 rfl Tryz.elStr (by exact hc) rfl (by first | exact hc.q0 | exact hc.q1 | exact hc.q2 | exact hc.q3 | exact hc.q3q) (by intro u hu; simp at hu; subst hu; rfl) (by omega) ?_
                intro vX W1 hX _
                obtain ⟨iO, iC, rfl, _⟩ := _root_.id hX.sl0
                replace hc := hX.rot
                clear hX
                (refine hK.out _ _ ?_ (fun hHeld => ?_); (focus ((try dsimp only); exact ⟨hc.rcell (by repeat (first | exact List.mem_cons_self .. | apply List.mem_cons_of_mem)) (j := 0) rfl, hc.rcell (by repeat (first | exact List.mem_cons_self .. | apply List.mem_cons_of_mem)) (j := 1) rfl, hc.rcell (by repeat (first | exact List.mem_cons_self .. | apply List.mem_cons_of_mem)) (j := 2) rfl⟩)); clear hK K; (try simp only [Act.put, List.setIfInBounds_toArray, List.set_cons_zero, List.set_cons_succ]))
                obtain ⟨W, rfl⟩ : ∃ W : World, W = W1 := ⟨_, rfl⟩
                refine wpAnyS_ready (rs := [15, 23]) (by kernel_rfl) (by simp) ?_
                refine AllS.consL rfl (fun K hK => ?_) ?_
                · (go_simp; go_at_call 30; refine (refUnique_any _ ps W (by first | exact hc.rd _ (List.mem_cons_of_mem _ HV.out) | exact hc.rd _ (List.mem_cons_of_mem _ (List.mem_cons_of_mem _ HV.out))) (by omega)).mono ?_; rintro e w' ⟨vu, rfl, hu⟩; go_wp2_with fail)
                  obtain ⟨ua, uc, rfl, _⟩ := _root_.id hu.sl0
                  replace hc := (hc.call1 hu).freeze
                  simp only [] at hc
                  clear hu
                  (refine hK.out _ _ ?_ (fun hHeld => ?_); (focus ((try dsimp only); exact ⟨hc.rcell (by repeat (first | exact List.mem_cons_self .. | apply List.mem_cons_of_mem)) (j := 0) rfl, hc.rcell (by repeat (first | exact List.mem_cons_self .. | apply List.mem_cons_of_mem)) (j := 1) rfl, hc.rcell (by repeat (first | exact List.mem_cons_self .. | apply List.mem_cons_of_mem)) (j := 2) rfl⟩)); clear hK K; (try simp only [Act.put, List.setIfInBounds_toArray, List.set_cons_zero, List.set_cons_succ]))
                  obtain ⟨W, rfl⟩ : ∃ W : World, W = w' := ⟨_, rfl⟩
                  refine wpAnyS_ready (rs := [16, 23]) (by kernel_rfl) (by simp) ?_
                  refine AllS.consL rfl (fun K hK => ?_) ?_
                  · go_simp
                    replace hc := hc.bq (Value.slice ua (uniqL ps).length uc) 23
                    generalize W.alloc (Obj.cells #[Value.slice ua (uniqL ps).length uc] 23) = W1 at hc ⊢
                    generalize W.heap.size = g16 at hc ⊢
                    (refine hK.out _ _ ?_ (fun hHeld => ?_); (focus ((try dsimp only); exact ⟨hc.rcell (by repeat (first | exact List.mem_cons_self .. | apply List.mem_cons_of_mem)) (j := 0) rfl, hc.rcell (by repeat (first | exact List.mem_cons_self .. | apply List.mem_cons_of_mem)) (j := 1) rfl, hc.rcell (by repeat (first | exact List.mem_cons_self .. | apply List.mem_cons_of_mem)) (j := 2) rfl⟩)); clear hK K; (try simp only [Act.put, List.setIfInBounds_toArray, List.set_cons_zero, List.set_cons_succ]))
                    obtain ⟨W, rfl⟩ : ∃ W : World, W = W1 := ⟨_, rfl⟩
                    refine wpAnyS_ready (rs := [17, 23]) (by kernel_rfl) (by simp) ?_
                    refine AllS.consL rfl (fun K hK => ?_) ?_
                    · refine step_app rfl _ _ 42 rfl Tryz.elSs (by exact hc) rfl (by first | exact hc.q0 | exact hc.q1 | exact hc.q2 | exact hc.q3 | exact hc.q3q) (by intro u hu; simp at hu; subst hu; rfl) (by omega) ?_
                      intro vX W1 hX _
                      obtain ⟨pO, pC, rfl, _⟩ := _root_.id hX.sl0
                      replace hc := hX.rot
                      clear hX
                      (refine hK.out _ _ ?_ (fun hHeld => ?_); (focus ((try dsimp only); exact ⟨hc.rcell (by repeat (first | exact List.mem_cons_self .. | apply List.mem_cons_of_mem)) (j := 0) rfl, hc.rcell (by repeat (first | exact List.mem_cons_self .. | apply List.mem_cons_of_mem)) (j := 1) rfl, hc.rcell (by repeat (first | exact List.mem_cons_self .. | apply List.mem_cons_of_mem)) (j := 2) rfl⟩)); clear hK K; (try simp only [Act.put, List.setIfInBounds_toArray, List.set_cons_zero, List.set_cons_succ]))
                      obtain ⟨W, rfl⟩ : ∃ W : World, W = W1 := ⟨_, rfl⟩
                      (refine wpAnyS_ready (rs := [23]) (by kernel_rfl) (by simp) ?_; refine AllS.consL rfl (fun K hK => ?_) AllS.nil)
                      go_simp
                      replace hc := hc.bq (Value.int .i64 s) 3
                      generalize W.alloc (Obj.cells #[Value.int .i64 s] 3) = W1 at hc ⊢
                      generalize W.heap.size = g23 at hc ⊢
                      (refine hK.out _ _ ?_ (fun hHeld => ?_); (focus ((try dsimp only); exact ⟨hc.rcell (by repeat (first | exact List.mem_cons_self .. | apply List.mem_cons_of_mem)) (j := 0) rfl, hc.rcell (by repeat (first | exact List.mem_cons_self .. | apply List.mem_cons_of_mem)) (j := 1) rfl, hc.rcell (by repeat (first | exact List.mem_cons_self .. | apply List.mem_cons_of_mem)) (j := 2) rfl⟩)); clear hK K; (try simp only [Act.put, List.setIfInBounds_toArray, List.set_cons_zero, List.set_cons_succ]))
                      obtain ⟨W, rfl⟩ : ∃ W : World, W = W1 := ⟨_, rfl⟩
                      (refine wpAnyS_ready (rs := [24]) (by kernel_rfl) (by simp) ?_; refine AllS.consL rfl (fun K hK => ?_) AllS.nil)
                      refine step_app rfl _ _ 43 rfl Tryz.elInt (by exact hc) rfl (by first | exact hc.q0 | exact hc.q1 | exact hc.q2 | exact hc.q3 | exact hc.q3q) (by intro u hu; simp at hu; subst hu; rfl) (by omega) ?_
                      intro vX W1 hX _
                      obtain ⟨sO, sC, rfl, _⟩ := _root_.id hX.sl0
                      replace hc := hX.rot
                      clear hX
                      (refine hK.out _ _ ?_ (fun hHeld => ?_); (focus ((try dsimp only); exact ⟨hc.rcell (by repeat (first | exact List.mem_cons_self .. | apply List.mem_cons_of_mem)) (j := 0) rfl, hc.rcell (by repeat (first | exact List.mem_cons_self .. | apply List.mem_cons_of_mem)) (j := 1) rfl, hc.rcell (by repeat (first | exact List.mem_cons_self .. | apply List.mem_cons_of_mem)) (j := 2) rfl⟩)); clear hK K; (try simp only [Act.put, List.setIfInBounds_toArray, List.set_cons_zero, List.set_cons_succ]))
                      obtain ⟨W, rfl⟩ : ∃ W : World, W = W1 := ⟨_, rfl⟩
                      (refine wpAnyS_seq (by rfl) (by kernel_rfl) ?_; simp only [List.drop_succ_cons, List.drop_zero])
                      clear hHeld
                      go_wp2_with (first | ((with_reducible show wpList _ _ _ _ _ _); refine wpl_store1 rfl 23 _ _ rfl hc (0) rfl (.slice iO (L.length + 1) iC) rfl rfl (by kernel_rfl) (by simp) rfl ?_; intro w5 hs5) | ((with_reducible show wpList _ _ _ _ _ _); refine wpl_store1 rfl 42 _ _ rfl hs5 (1) rfl (.slice pO (L.length + 1) pC) rfl rfl (by kernel_rfl) (by simp) rfl ?_; intro w6 hs6) | ((with_reducible show wpList _ _ _ _ _ _); refine wpl_store1 rfl 43 _ _ rfl hs6 (2) rfl (.slice sO (L.length + 1) sC) rfl rfl (by kernel_rfl) (by simp) rfl ?_; intro w7 hs7))
                      go_ret
                      exact ⟨by rw [HE.out]; rfl, .inr ⟨HE.out, .slice iO (L.length + 1) iC, .slice pO (L.length + 1) pC, .slice sO (L.length + 1) sC, .slice ua (uniqL ps).length uc, (hs7.rot.castR (by simp [ss, is])).sub (List.Sublist.refl _) (fun q hq => by rcases List.mem_cons.1 hq with rfl | hq; (first | exact List.mem_cons_self .. | simp); (repeat (first | exact hq | apply List.mem_cons_of_mem)))⟩⟩
                    refine AllS.consL rfl (fun K hK => ?_) ?_
                    · go_simp
                      replace hc := hc.bq (Value.int .i64 s) 3
                      generalize W.alloc (Obj.cells #[Value.int .i64 s] 3) = W1 at hc ⊢
                      generalize W.heap.size = g23 at hc ⊢
                      (refine hK.out _ _ ?_ (fun hHeld => ?_); (focus ((try dsimp only); exact ⟨hc.rcell (by repeat (first | exact List.mem_cons_self .. | apply List.mem_cons_of_mem)) (j := 0) rfl, hc.rcell (by repeat (first | exact List.mem_cons_self .. | apply List.mem_cons_of_mem)) (j := 1) rfl, hc.rcell (by repeat (first | exact List.mem_cons_self .. | apply List.mem_cons_of_mem)) (j := 2) rfl⟩)); clear hK K; (try simp only [Act.put, List.setIfInBounds_toArray, List.set_cons_zero, List.set_cons_succ]))
                      obtain ⟨W, rfl⟩ : ∃ W : World, W = W1 := ⟨_, rfl⟩
                      (refine wpAnyS_ready (rs := [17]) (by kernel_rfl) (by simp) ?_; refine AllS.consL rfl (fun K hK => ?_) AllS.nil)
                      refine step_app rfl _ _ 42 rfl Tryz.elSs (by exact hc) rfl (by first | exact hc.q0 | exact hc.q1 | exact hc.q2 | exact hc.q3 | exact hc.q3q) (by intro u hu; simp at hu; subst hu; rfl) (by omega) ?_
                      intro vX W1 hX _
                      obtain ⟨pO, pC, rfl, _⟩ := _root_.id hX.sl0
                      replace hc := hX.rot
                      clear hX
                      (refine hK.out _ _ ?_ (fun hHeld => ?_); (focus ((try dsimp only); exact ⟨hc.rcell (by repeat (first | exact List.mem_cons_self .. | apply List.mem_cons_of_mem)) (j := 0) rfl, hc.rcell (by repeat (first | exact List.mem_cons_self .. | apply List.mem_cons_of_mem)) (j := 1) rfl, hc.rcell (by repeat (first | exact List.mem_cons_self .. | apply List.mem_cons_of_mem)) (j := 2) rfl⟩)); clear hK K; (try simp only [Act.put, List.setIfInBounds_toArray, List.set_cons_zero, List.set_cons_succ]))
                      obtain ⟨W, rfl⟩ : ∃ W : World, W = W1 := ⟨_, rfl⟩
                      (refine wpAnyS_ready (rs := [24]) (by kernel_rfl) (by simp) ?_; refine AllS.consL rfl (fun K hK => ?_) AllS.nil)
                      refine step_app rfl _ _ 43 rfl Tryz.elInt (by exact hc) rfl (by first | exact hc.q0 | exact hc.q1 | exact hc.q2 | exact hc.q3 | exact hc.q3q) (by intro u hu; simp at hu; subst hu; rfl) (by omega) ?_
                      intro vX W1 hX _
                      obtain ⟨sO, sC, rfl, _⟩ := _root_.id hX.sl0
                      replace hc := hX.rot
                      clear hX
                      (refine hK.out _ _ ?_ (fun hHeld => ?_); (focus ((try dsimp only); exact ⟨hc.rcell (by repeat (first | exact List.mem_cons_self .. | apply List.mem_cons_of_mem)) (j := 0) rfl, hc.rcell (by repeat (first | exact List.mem_cons_self .. | apply List.mem_cons_of_mem)) (j := 1) rfl, hc.rcell (by repeat (first | exact List.mem_cons_self .. | apply List.mem_cons_of_mem)) (j := 2) rfl⟩)); clear hK K; (try simp only [Act.put, List.setIfInBounds_toArray, List.set_cons_zero, List.set_cons_succ]))
                      obtain ⟨W, rfl⟩ : ∃ W : World, W = W1 := ⟨_, rfl⟩
                      (refine wpAnyS_seq (by rfl) (by kernel_rfl) ?_; simp only [List.drop_succ_cons, List.drop_zero])
                      clear hHeld
                      go_wp2_with (first | ((with_reducible show wpList _ _ _ _ _ _); refine wpl_store1 rfl 23 _ _ rfl hc (0) rfl (.slice iO (L.length + 1) iC) rfl rfl (by kernel_rfl) (by simp) rfl ?_; intro w5 hs5) | ((with_reducible show wpList _ _ _ _ _ _); refine wpl_store1 rfl 42 _ _ rfl hs5 (1) rfl (.slice pO (L.length + 1) pC) rfl rfl (by kernel_rfl) (by simp) rfl ?_; intro w6 hs6) | ((with_reducible show wpList _ _ _ _ _ _); refine wpl_store1 rfl 43 _ _ rfl hs6 (2) rfl (.slice sO (L.length + 1) sC) rfl rfl (by kernel_rfl) (by simp) rfl ?_; intro w7 hs7))
                      go_ret
                      exact ⟨by rw [HE.out]; rfl, .inr ⟨HE.out, .slice iO (L.length + 1) iC, .slice pO (L.length + 1) pC, .slice sO (L.length + 1) sC, .slice ua (uniqL ps).length uc, (hs7.rot.castR (by simp [ss, is])).sub (List.Sublist.refl _) (fun q hq => by rcases List.mem_cons.1 hq with rfl | hq; (first | exact List.mem_cons_self .. | simp); (repeat (first | exact hq | apply List.mem_cons_of_mem)))⟩⟩
                    exact AllS.nil
                  refine AllS.consL rfl (fun K hK => ?_) ?_
                  · go_simp
                    replace hc := hc.bq (Value.int .i64 s) 3
                    generalize W.alloc (Obj.cells #[Value.int .i64 s] 3) = W1 at hc ⊢
                    generalize W.heap.size = g23 at hc ⊢
                    (refine hK.out _ _ ?_ (fun hHeld => ?_); (focus ((try dsimp only); exact ⟨hc.rcell (by repeat (first | exact List.mem_cons_self .. | apply List.mem_cons_of_mem)) (j := 0) rfl, hc.rcell (by repeat (first | exact List.mem_cons_self .. | apply List.mem_cons_of_mem)) (j := 1) rfl, hc.rcell (by repeat (first | exact List.mem_cons_self .. | apply List.mem_cons_of_mem)) (j := 2) rfl⟩)); clear hK K; (try simp only [Act.put, List.setIfInBounds_toArray, List.set_cons_zero, List.set_cons_succ]))
                    obtain ⟨W, rfl⟩ : ∃ W : World, W = W1 := ⟨_, rfl⟩
                    (refine wpAnyS_ready (rs := [16]) (by kernel_rfl) (by simp) ?_; refine AllS.consL rfl (fun K hK => ?_) AllS.nil)
                    go_simp
                    replace hc := hc.bq (Value.slice ua (uniqL ps).length uc) 23
                    generalize W.alloc (Obj.cells #[Value.slice ua (uniqL ps).length uc] 23) = W1 at hc ⊢
                    generalize W.heap.size = g16 at hc ⊢
                    (refine hK.out _ _ ?_ (fun hHeld => ?_); (focus ((try dsimp only); exact ⟨hc.rcell (by repeat (first | exact List.mem_cons_self .. | apply List.mem_cons_of_mem)) (j := 0) rfl, hc.rcell (by repeat (first | exact List.mem_cons_self .. | apply List.mem_cons_of_mem)) (j := 1) rfl, hc.rcell (by repeat (first | exact List.mem_cons_self .. | apply List.mem_cons_of_mem)) (j := 2) rfl⟩)); clear hK K; (try simp only [Act.put, List.setIfInBounds_toArray, List.set_cons_zero, List.set_cons_succ]))
                    obtain ⟨W, rfl⟩ : ∃ W : World, W = W1 := ⟨_, rfl⟩
                    (refine wpAnyS_ready (rs := [17]) (by kernel_rfl) (by simp) ?_; refine AllS.consL rfl (fun K hK => ?_) AllS.nil)
                    refine step_app rfl _ _ 42 rfl Tryz.elSs (by exact hc) rfl (by first | exact hc.q0 | exact hc.q1 | exact hc.q2 | exact hc.q3 | exact hc.q3q) (by intro u hu; simp at hu; subst hu; rfl) (by omega) ?_
                    intro vX W1 hX _
                    obtain ⟨pO, pC, rfl, _⟩ := _root_.id hX.sl0
                    replace hc := hX.rot
                    clear hX
                    (refine hK.out _ _ ?_ (fun hHeld => ?_); (focus ((try dsimp only); exact ⟨hc.rcell (by repeat (first | exact List.mem_cons_self .. | apply List.mem_cons_of_mem)) (j := 0) rfl, hc.rcell (by repeat (first | exact List.mem_cons_self .. | apply List.mem_cons_of_mem)) (j := 1) rfl, hc.rcell (by repeat (first | exact List.mem_cons_self .. | apply List.mem_cons_of_mem)) (j := 2) rfl⟩)); clear hK K; (try simp only [Act.put, List.setIfInBounds_toArray, List.set_cons_zero, List.set_cons_succ]))
                    obtain ⟨W, rfl⟩ : ∃ W : World, W = W1 := ⟨_, rfl⟩
                    (refine wpAnyS_ready (rs := [24]) (by kernel_rfl) (by simp) ?_; refine AllS.consL rfl (fun K hK => ?_) AllS.nil)
                    refine step_app rfl _ _ 43 rfl Tryz.elInt (by exact hc) rfl (by first | exact hc.q0 | exact hc.q1 | exact hc.q2 | exact hc.q3 | exact hc.q3q) (by intro u hu; simp at hu; subst hu; rfl) (by omega) ?_
                    intro vX W1 hX _
                    obtain ⟨sO, sC, rfl, _⟩ := _root_.id hX.sl0
                    replace hc := hX.rot
                    clear hX
                    (refine hK.out _ _ ?_ (fun hHeld => ?_); (focus ((try dsimp only); exact ⟨hc.rcell (by repeat (first | exact List.mem_cons_self .. | apply List.mem_cons_of_mem)) (j := 0) rfl, hc.rcell (by repeat (first | exact List.mem_cons_self .. | apply List.mem_cons_of_mem)) (j := 1) rfl, hc.rcell (by repeat (first | exact List.mem_cons_self .. | apply List.mem_cons_of_mem)) (j := 2) rfl⟩)); clear hK K; (try simp only [Act.put, List.setIfInBounds_toArray, List.set_cons_zero, List.set_cons_succ]))
                    obtain ⟨W, rfl⟩ : ∃ W : World, W = W1 := ⟨_, rfl⟩
                    (refine wpAnyS_seq (by rfl) (by kernel_rfl) ?_; simp only [List.drop_succ_cons, List.drop_zero])
                    clear hHeld
                    go_wp2_with (first | ((with_reducible show wpList _ _ _ _ _ _); refine wpl_store1 rfl 23 _ _ rfl hc (0) rfl (.slice iO (L.length + 1) iC) rfl rfl (by kernel_rfl) (by simp) rfl ?_; intro w5 hs5) | ((with_reducible show wpList _ _ _ _ _ _); refine wpl_store1 rfl 42 _ _ rfl hs5 (1) rfl (.slice pO (L.length + 1) pC) rfl rfl (by kernel_rfl) (by simp) rfl ?_; intro w6 hs6) | ((with_reducible show wpList _ _ _ _ _ _); refine wpl_store1 rfl 43 _ _ rfl hs6 (2) rfl (.slice sO (L.length + 1) sC) rfl rfl (by kernel_rfl) (by simp) rfl ?_; intro w7 hs7))
                    go_ret
                    exact ⟨by rw [HE.out]; rfl, .inr ⟨HE.out, .slice iO (L.length + 1) iC, .slice pO (L.length + 1) pC, .slice sO (L.length + 1) sC, .slice ua (uniqL ps).length uc, (hs7.rot.castR (by simp [ss, is])).sub (List.Sublist.refl _) (fun q hq => by rcases List.mem_cons.1 hq with rfl | hq; (first | exact List.mem_cons_self .. | simp); (repeat (first | exact hq | apply List.mem_cons_of_mem)))⟩⟩
                  exact AllS.nil
                refine AllS.consL rfl (fun K hK => ?_) ?_
                · go_simp
                  replace hc := hc.bq (Value.int .i64 s) 3
                  generalize W.alloc (Obj.cells #[Value.int .i64 s] 3) = W1 at hc ⊢
                  generalize W.heap.size = g23 at hc ⊢
                  (refine hK.out _ _ ?_ (fun hHeld => ?_); (focus ((try dsimp only); exact ⟨hc.rcell (by repeat (first | exact List.mem_cons_self .. | apply List.mem_cons_of_mem)) (j := 0) rfl, hc.rcell (by repeat (first | exact List.mem_cons_self .. | apply List.mem_cons_of_mem)) (j := 1) rfl, hc.rcell (by repeat (first | exact List.mem_cons_self .. | apply List.mem_cons_of_mem)) (j := 2) rfl⟩)); clear hK K; (try simp only [Act.put, List.setIfInBounds_toArray, List.set_cons_zero, List.set_cons_succ]))
                  obtain ⟨W, rfl⟩ : ∃ W : World, W = W1 := ⟨_, rfl⟩
                  (refine wpAnyS_ready (rs := [15]) (by kernel_rfl) (by simp) ?_; refine AllS.consL rfl (fun K hK => ?_) AllS.nil)
                  (go_simp; go_at_call 30; refine (refUnique_any _ ps W (by first | exact hc.rd _ (List.mem_cons_of_mem _ HV.out) | exact hc.rd _ (List.mem_cons_of_mem _ (List.mem_cons_of_mem _ HV.out))) (by omega)).mono ?_; rintro e w' ⟨vu, rfl, hu⟩; go_wp2_with fail)
                  obtain ⟨ua, uc, rfl, _⟩ := _root_.id hu.sl0
                  replace hc := (hc.call1 hu).freeze
                  simp only [] at hc
                  clear hu
                  (refine hK.out _ _ ?_ (fun hHeld => ?_); (focus ((try dsimp only); exact ⟨hc.rcell (by repeat (first | exact List.mem_cons_self .. | apply List.mem_cons_of_mem)) (j := 0) rfl, hc.rcell (by repeat (first | exact List.mem_cons_self .. | apply List.mem_cons_of_mem)) (j := 1) rfl, hc.rcell (by repeat (first | exact List.mem_cons_self .. | apply List.mem_cons_of_mem)) (j := 2) rfl⟩)); clear hK K; (try simp only [Act.put, List.setIfInBounds_toArray, List.set_cons_zero, List.set_cons_succ]))
                  obtain ⟨W, rfl⟩ : ∃ W : World, W = w' := ⟨_, rfl⟩
                  (refine wpAnyS_ready (rs := [16]) (by kernel_rfl) (by simp) ?_; refine AllS.consL rfl (fun K hK => ?_) AllS.nil)
                  go_simp
                  replace hc := hc.bq (Value.slice ua (uniqL ps).length uc) 23
                  generalize W.alloc (Obj.cells #[Value.slice ua (uniqL ps).length uc] 23) = W1 at hc ⊢
                  generalize W.heap.size = g16 at hc ⊢
                  (refine hK.out _ _ ?_ (fun hHeld => ?_); (focus ((try dsimp only); exact ⟨hc.rcell (by repeat (first | exact List.mem_cons_self .. | apply List.mem_cons_of_mem)) (j := 0) rfl, hc.rcell (by repeat (first | exact List.mem_cons_self .. | apply List.mem_cons_of_mem)) (j := 1) rfl, hc.rcell (by repeat (first | exact List.mem_cons_self .. | apply List.mem_cons_of_mem)) (j := 2) rfl⟩)); clear hK K; (try simp only [Act.put, List.setIfInBounds_toArray, List.set_cons_zero, List.set_cons_succ]))
                  obtain ⟨W, rfl⟩ : ∃ W : World, W = W1 := ⟨_, rfl⟩
                  (refine wpAnyS_ready (rs := [17]) (by kernel_rfl) (by simp) ?_; refine AllS.consL rfl (fun K hK => ?_) AllS.nil)
                  refine step_app rfl _ _ 42 rfl Tryz.elSs (by exact hc) rfl (by first | exact hc.q0 | exact hc.q1 | exact hc.q2 | exact hc.q3 | exact hc.q3q) (by intro u hu; simp at hu; subst hu; rfl) (by omega) ?_
                  intro vX W1 hX _
                  obtain ⟨pO, pC, rfl, _⟩ := _root_.id hX.sl0
                  replace hc := hX.rot
                  clear hX
                  (refine hK.out _ _ ?_ (fun hHeld => ?_); (focus ((try dsimp only); exact ⟨hc.rcell (by repeat (first | exact List.mem_cons_self .. | apply List.mem_cons_of_mem)) (j := 0) rfl, hc.rcell (by repeat (first | exact List.mem_cons_self .. | apply List.mem_cons_of_mem)) (j := 1) rfl, hc.rcell (by repeat (first | exact List.mem_cons_self .. | apply List.mem_cons_of_mem)) (j := 2) rfl⟩)); clear hK K; (try simp only [Act.put, List.setIfInBounds_toArray, List.set_cons_zero, List.set_cons_succ]))
                  obtain ⟨W, rfl⟩ : ∃ W : World, W = W1 := ⟨_, rfl⟩
                  (refine wpAnyS_ready (rs := [24]) (by kernel_rfl) (by simp) ?_; refine AllS.consL rfl (fun K hK => ?_) AllS.nil)
                  refine step_app rfl _ _ 43 rfl Tryz.elInt (by exact hc) rfl (by first | exact hc.q0 | exact hc.q1 | exact hc.q2 | exact hc.q3 | exact hc.q3q) (by intro u hu; simp at hu; subst hu; rfl) (by omega) ?_
                  intro vX W1 hX _
                  obtain ⟨sO, sC, rfl, _⟩ := _root_.id hX.sl0
                  replace hc := hX.rot
                  clear hX
                  (refine hK.out _ _ ?_ (fun hHeld => ?_); (focus ((try dsimp only); exact ⟨hc.rcell (by repeat (first | exact List.mem_cons_self .. | apply List.mem_cons_of_mem)) (j := 0) rfl, hc.rcell (by repeat (first | exact List.mem_cons_self .. | apply List.mem_cons_of_mem)) (j := 1) rfl, hc.rcell (by repeat (first | exact List.mem_cons_self .. | apply List.mem_cons_of_mem)) (j := 2) rfl⟩)); clear hK K; (try simp only [Act.put, List.setIfInBounds_toArray, List.set_cons_zero, List.set_cons_succ]))
                  obtain ⟨W, rfl⟩ : ∃ W : World, W = W1 := ⟨_, rfl⟩
                  (refine wpAnyS_seq (by rfl) (by kernel_rfl) ?_; simp only [List.drop_succ_cons, List.drop_zero])
                  clear hHeld
                  go_wp2_with (first | ((with_reducible show wpList _ _ _ _ _ _); refine wpl_store1 rfl 23 _ _ rfl hc (0) rfl (.slice iO (L.length + 1) iC) rfl rfl (by kernel_rfl) (by simp) rfl ?_; intro w5 hs5) | ((with_reducible show wpList _ _ _ _ _ _); refine wpl_store1 rfl 42 _ _ rfl hs5 (1) rfl (.slice pO (L.length + 1) pC) rfl rfl (by kernel_rfl) (by simp) rfl ?_; intro w6 hs6) | ((with_reducible show wpList _ _ _ _ _ _); refine wpl_store1 rfl 43 _ _ rfl hs6 (2) rfl (.slice sO (L.length + 1) sC) rfl rfl (by kernel_rfl) (by simp) rfl ?_; intro w7 hs7))
                  go_ret
                  exact ⟨by rw [HE.out]; rfl, .inr ⟨HE.out, .slice iO (L.length + 1) iC, .slice pO (L.length + 1) pC, .slice sO (L.length + 1) sC, .slice ua (uniqL ps).length uc, (hs7.rot.castR (by simp [ss, is])).sub (List.Sublist.refl _) (fun q hq => by rcases List.mem_cons.1 hq with rfl | hq; (first | exact List.mem_cons_self .. | simp); (repeat (first | exact hq | apply List.mem_cons_of_mem)))⟩⟩
                exact AllS.nil
              refine AllS.consL rfl (fun K hK => ?_) ?_
              · go_simp
                replace hc := hc.bq (Value.int .i64 s) 3
                generalize W.alloc (Obj.cells #[Value.int .i64 s] 3) = W1 at hc ⊢
                generalize W.heap.size = g23 at hc ⊢
                (refine hK.out _ _ ?_ (fun hHeld => ?_); (focus ((try dsimp only); exact ⟨hc.rcell (by repeat (first | exact List.mem_cons_self .. | apply List.mem_cons_of_mem)) (j := 0) rfl, hc.rcell (by repeat (first | exact List.mem_cons_self .. | apply List.mem_cons_of_mem)) (j := 1) rfl, hc.rcell (by repeat (first | exact List.mem_cons_self .. | apply List.mem_cons_of_mem)) (j := 2) rfl⟩)); clear hK K; (try simp only [Act.put, List.setIfInBounds_toArray, List.set_cons_zero, List.set_cons_succ]))
                obtain ⟨W, rfl⟩ : ∃ W : World, W = W1 := ⟨_, rfl⟩
                (refine wpAnyS_ready (rs := [9]) (by kernel_rfl) (by simp) ?_; refine AllS.consL rfl (fun K hK => ?_) AllS.nil)
                refine step_app rfl _ _ 23 rfl Tryz.elStr (by exact hc) rfl (by first | exact hc.q0 | exact hc.q1 | exact hc.q2 | exact hc.q3 | exact hc.q3q) (by intro u hu; simp at hu; subst hu; rfl) (by omega) ?_
                intro vX W1 hX _
                obtain ⟨iO, iC, rfl, _⟩ := _root_.id hX.sl0
                replace hc := hX.rot
                clear hX
                (refine hK.out _ _ ?_ (fun hHeld => ?_); (focus ((try dsimp only); exact ⟨hc.rcell (by repeat (first | exact List.mem_cons_self .. | apply List.mem_cons_of_mem)) (j := 0) rfl, hc.rcell (by repeat (first | exact List.mem_cons_self .. | apply List.mem_cons_of_mem)) (j := 1) rfl, hc.rcell (by repeat (first | exact List.mem_cons_self .. | apply List.mem_cons_of_mem)) (j := 2) rfl⟩)); clear hK K; (try simp only [Act.put, List.setIfInBounds_toArray, List.set_cons_zero, List.set_cons_succ]))
                obtain ⟨W, rfl⟩ : ∃ W : World, W = W1 := ⟨_, rfl⟩
                (refine wpAnyS_ready (rs := [15]) (by kernel_rfl) (by simp) ?_; refine AllS.consL rfl (fun K hK => ?_) AllS.nil)
                (go_simp; go_at_call 30; refine (refUnique_any _ ps W (by first | exact hc.rd _ (List.mem_cons_of_mem _ HV.out) | exact hc.rd _ (List.mem_cons_of_mem _ (List.mem_cons_of_mem _ HV.out))) (by omega)).mono ?_; rintro e w' ⟨vu, rfl, hu⟩; go_wp2_with fail)
                obtain ⟨ua, uc, rfl, _⟩ := _root_.id hu.sl0
                replace hc := (hc.call1 hu).freeze
                simp only [] at hc
                clear hu
                (refine hK.out _ _ ?_ (fun hHeld => ?_); (focus ((try dsimp only); exact ⟨hc.rcell (by repeat (first | exact List.mem_cons_self .. | apply List.mem_cons_of_mem)) (j := 0) rfl, hc.rcell (by repeat (first | exact List.mem_cons_self .. | apply List.mem_cons_of_mem)) (j := 1) rfl, hc.rcell (by repeat (first | exact List.mem_cons_self .. | apply List.mem_cons_of_mem)) (j := 2) rfl⟩)); clear hK K; (try simp only [Act.put, List.setIfInBounds_toArray, List.set_cons_zero, List.set_cons_succ]))
                obtain ⟨W, rfl⟩ : ∃ W : World, W = w' := ⟨_, rfl⟩
                (refine wpAnyS_ready (rs := [16]) (by kernel_rfl) (by simp) ?_; refine AllS.consL rfl (fun K hK => ?_) AllS.nil)
                go_simp
                replace hc := hc.bq (Value.slice ua (uniqL ps).length uc) 23
                generalize W.alloc (Obj.cells #[Value.slice ua (uniqL ps).length uc] 23) = W1 at hc ⊢
                generalize W.heap.size = g16 at hc ⊢
                (refine hK.out _ _ ?_ (fun hHeld => ?_); (focus ((try dsimp only); exact ⟨hc.rcell (by repeat (first | exact List.mem_cons_self .. | apply List.mem_cons_of_mem)) (j := 0) rfl, hc.rcell (by repeat (first | exact List.mem_cons_self .. | apply List.mem_cons_of_mem)) (j := 1) rfl, hc.rcell (by repeat (first | exact List.mem_cons_self .. | apply List.mem_cons_of_mem)) (j := 2) rfl⟩)); clear hK K; (try simp only [Act.put, List.setIfInBounds_toArray, List.set_cons_zero, List.set_cons_succ]))
                obtain ⟨W, rfl⟩ : ∃ W : World, W = W1 := ⟨_, rfl⟩
                (refine wpAnyS_ready (rs := [17]) (by kernel_rfl) (by simp) ?_; refine AllS.consL rfl (fun K hK => ?_) AllS.nil)
                refine step_app rfl _ _ 42 rfl Tryz.elSs (by exact hc) rfl (by first | exact hc.q0 | exact hc.q1 | exact hc.q2 | exact hc.q3 | exact hc.q3q) (by intro u hu; simp at hu; subst hu; rfl) (by omega) ?_
                intro vX W1 hX _
                obtain ⟨pO, pC, rfl, _⟩ := _root_.id hX.sl0
                replace hc := hX.rot
                clear hX
                (refine hK.out _ _ ?_ (fun hHeld => ?_); (focus ((try dsimp only); exact ⟨hc.rcell (by repeat (first | exact List.mem_cons_self .. | apply List.mem_cons_of_mem)) (j := 0) rfl, hc.rcell (by repeat (first | exact List.mem_cons_self .. | apply List.mem_cons_of_mem)) (j := 1) rfl, hc.rcell (by repeat (first | exact List.mem_cons_self .. | apply List.mem_cons_of_mem)) (j := 2) rfl⟩)); clear hK K; (try simp only [Act.put, List.setIfInBounds_toArray, List.set_cons_zero, List.set_cons_succ]))
                obtain ⟨W, rfl⟩ : ∃ W : World, W = W1 := ⟨_, rfl⟩
                (refine wpAnyS_ready (rs := [24]) (by kernel_rfl) (by simp) ?_; refine AllS.consL rfl (fun K hK => ?_) AllS.nil)
                refine step_app rfl _ _ 43 rfl Tryz.elInt (by exact hc) rfl (by first | exact hc.q0 | exact hc.q1 | exact hc.q2 | exact hc.q3 | exact hc.q3q) (by intro u hu; simp at hu; subst hu; rfl) (by omega) ?_
                intro vX W1 hX _
                obtain ⟨sO, sC, rfl, _⟩ := _root_.id hX.sl0
                replace hc := hX.rot
                clear hX
                (refine hK.out _ _ ?_ (fun hHeld => ?_); (focus ((try dsimp only); exact ⟨hc.rcell (by repeat (first | exact List.mem_cons_self .. | apply List.mem_cons_of_mem)) (j := 0) rfl, hc.rcell (by repeat (first | exact List.mem_cons_self .. | apply List.mem_cons_of_mem)) (j := 1) rfl, hc.rcell (by repeat (first | exact List.mem_cons_self .. | apply List.mem_cons_of_mem)) (j := 2) rfl⟩)); clear hK K; (try simp only [Act.put, List.setIfInBounds_toArray, List.set_cons_zero, List.set_cons_succ]))
                obtain ⟨W, rfl⟩ : ∃ W : World, W = W1 := ⟨_, rfl⟩
                (refine wpAnyS_seq (by rfl) (by kernel_rfl) ?_; simp only [List.drop_succ_cons, List.drop_zero])
                clear hHeld
                go_wp2_with (first | ((with_reducible show wpList _ _ _ _ _ _); refine wpl_store1 rfl 23 _ _ rfl hc (0) rfl (.slice iO (L.length + 1) iC) rfl rfl (by kernel_rfl) (by simp) rfl ?_; intro w5 hs5) | ((with_reducible show wpList _ _ _ _ _ _); refine wpl_store1 rfl 42 _ _ rfl hs5 (1) rfl (.slice pO (L.length + 1) pC) rfl rfl (by kernel_rfl) (by simp) rfl ?_; intro w6 hs6) | ((with_reducible show wpList _ _ _ _ _ _); refine wpl_store1 rfl 43 _ _ rfl hs6 (2) rfl (.slice sO (L.length + 1) sC) rfl rfl (by kernel_rfl) (by simp) rfl ?_; intro w7 hs7))
                go_ret
                exact ⟨by rw [HE.out]; rfl, .inr ⟨HE.out, .slice iO (L.length + 1) iC, .slice pO (L.length + 1) pC, .slice sO (L.length + 1) sC, .slice ua (uniqL ps).length uc, (hs7.rot.castR (by simp [ss, is])).sub (List.Sublist.refl _) (fun q hq => by rcases List.mem_cons.1 hq with rfl | hq; (first | exact List.mem_cons_self .. | simp); (repeat (first | exact hq | apply List.mem_cons_of_mem)))⟩⟩
              exact AllS.nil
            refine AllS.consL rfl (fun K hK => ?_) ?_
            · go_simp
              replace hc := hc.bq (Value.int .i64 s) 3
              generalize W.alloc (Obj.cells #[Value.int .i64 s] 3) = W1 at hc ⊢
              generalize W.heap.size = g23 at hc ⊢
              (refine hK.out _ _ ?_ (fun hHeld => ?_); (focus ((try dsimp only); exact ⟨hc.rcell (by repeat (first | exact List.mem_cons_self .. | apply List.mem_cons_of_mem)) (j := 0) rfl, hc.rcell (by repeat (first | exact List.mem_cons_self .. | apply List.mem_cons_of_mem)) (j := 1) rfl, hc.rcell (by repeat (first | exact List.mem_cons_self .. | apply List.mem_cons_of_mem)) (j := 2) rfl⟩)); clear hK K; (try simp only [Act.put, List.setIfInBounds_toArray, List.set_cons_zero, List.set_cons_succ]))
              obtain ⟨W, rfl⟩ : ∃ W : World, W = W1 := ⟨_, rfl⟩
              (refine wpAnyS_ready (rs := [8]) (by kernel_rfl) (by simp) ?_; refine AllS.consL rfl (fun K hK => ?_) AllS.nil)
              go_simp
              replace hc := hc.bq (Value.string id) 9
              generalize W.alloc (Obj.cells #[Value.string id] 9) = W1 at hc ⊢
              generalize W.heap.size = g8 at hc ⊢
              (refine hK.out _ _ ?_ (fun hHeld => ?_); (focus ((try dsimp only); exact ⟨hc.rcell (by repeat (first | exact List.mem_cons_self .. | apply List.mem_cons_of_mem)) (j := 0) rfl, hc.rcell (by repeat (first | exact List.mem_cons_self .. | apply List.mem_cons_of_mem)) (j := 1) rfl, hc.rcell (by repeat (first | exact List.mem_cons_self .. | apply List.mem_cons_of_mem)) (j := 2) rfl⟩)); clear hK K; (try simp only [Act.put, List.setIfInBounds_toArray, List.set_cons_zero, List.set_cons_succ]))
              obtain ⟨W, rfl⟩ : ∃ W : World, W = W1 := ⟨_, rfl⟩
              (refine wpAnyS_ready (rs := [9]) (by kernel_rfl) (by simp) ?_; refine AllS.consL rfl (fun K hK => ?_) AllS.nil)
              refine step_app rfl _ _ 23 rfl Tryz.elStr (by exact hc) rfl (by first | exact hc.q0 | exact hc.q1 | exact hc.q2 | exact hc.q3 | exact hc.q3q) (by intro u hu; simp at hu; subst hu; rfl) (by omega) ?_
              intro vX W1 hX _
              obtain ⟨iO, iC, rfl, _⟩ := _root_.id hX.sl0
              replace hc := hX.rot
              clear hX
              (refine hK.out _ _ ?_ (fun hHeld => ?_); (focus ((try dsimp only); exact ⟨hc.rcell (by repeat (first | exact List.mem_cons_self .. | apply List.mem_cons_of_mem)) (j := 0) rfl, hc.rcell (by repeat (first | exact List.mem_cons_self .. | apply List.mem_cons_of_mem)) (j := 1) rfl, hc.rcell (by repeat (first | exact List.mem_cons_self .. | apply List.mem_cons_of_mem)) (j := 2) rfl⟩)); clear hK K; (try simp only [Act.put, List.setIfInBounds_toArray, List.set_cons_zero, List.set_cons_succ]))
              obtain ⟨W, rfl⟩ : ∃ W : World, W = W1 := ⟨_, rfl⟩
              (refine wpAnyS_ready (rs := [15]) (by kernel_rfl) (by simp) ?_; refine AllS.consL rfl (fun K hK => ?_) AllS.nil)
              (go_simp; go_at_call 30; refine (refUnique_any _ ps W (by first | exact hc.rd _ (List.mem_cons_of_mem _ HV.out) | exact hc.rd _ (List.mem_cons_of_mem _ (List.mem_cons_of_mem _ HV.out))) (by omega)).mono ?_; rintro e w' ⟨vu, rfl, hu⟩; go_wp2_with fail)
              obtain ⟨ua, uc, rfl, _⟩ := _root_.id hu.sl0
              replace hc := (hc.call1 hu).freeze
              simp only [] at hc
              clear hu
              (refine hK.out _ _ ?_ (fun hHeld => ?_); (focus ((try dsimp only); exact ⟨hc.rcell (by repeat (first | exact List.mem_cons_self .. | apply List.mem_cons_of_mem)) (j := 0) rfl, hc.rcell (by repeat (first | exact List.mem_cons_self .. | apply List.mem_cons_of_mem)) (j := 1) rfl, hc.rcell (by repeat (first | exact List.mem_cons_self .. | apply List.mem_cons_of_mem)) (j := 2) rfl⟩)); clear hK K; (try simp only [Act.put, List.setIfInBounds_toArray, List.set_cons_zero, List.set_cons_succ]))
              obtain ⟨W, rfl⟩ : ∃ W : World, W = w' := ⟨_, rfl⟩
              (refine wpAnyS_ready (rs := [16]) (by kernel_rfl) (by simp) ?_; refine AllS.consL rfl (fun K hK => ?_) AllS.nil)
              go_simp
              replace hc := hc.bq (Value.slice ua (uniqL ps).length uc) 23
              generalize W.alloc (Obj.cells #[Value.slice ua (uniqL ps).length uc] 23) = W1 at hc ⊢
              generalize W.heap.size = g16 at hc ⊢
              (refine hK.out _ _ ?_ (fun hHeld => ?_); (focus ((try dsimp only); exact ⟨hc.rcell (by repeat (first | exact List.mem_cons_self .. | apply List.mem_cons_of_mem)) (j := 0) rfl, hc.rcell (by repeat (first | exact List.mem_cons_self .. | apply List.mem_cons_of_mem)) (j := 1) rfl, hc.rcell (by repeat (first | exact List.mem_cons_self .. | apply List.mem_cons_of_mem)) (j := 2) rfl⟩)); clear hK K; (try simp only [Act.put, List.setIfInBounds_toArray, List.set_cons_zero, List.set_cons_succ]))
              obtain ⟨W, rfl⟩ : ∃ W : World, W = W1 := ⟨_, rfl⟩
              (refine wpAnyS_ready (rs := [17]) (by kernel_rfl) (by simp) ?_; refine AllS.consL rfl (fun K hK => ?_) AllS.nil)
              refine step_app rfl _ _ 42 rfl Tryz.elSs (by exact hc) rfl (by first | exact hc.q0 | exact hc.q1 | exact hc.q2 | exact hc.q3 | exact hc.q3q) (by intro u hu; simp at hu; subst hu; rfl) (by omega) ?_
              intro vX W1 hX _
              obtain ⟨pO, pC, rfl, _⟩ := _root_.id hX.sl0
              replace hc := hX.rot
              clear hX
              (refine hK.out _ _ ?_ (fun hHeld => ?_); (focus ((try dsimp only); exact ⟨hc.rcell (by repeat (first | exact List.mem_cons_self .. | apply List.mem_cons_of_mem)) (j := 0) rfl, hc.rcell (by repeat (first | exact List.mem_cons_self .. | apply List.mem_cons_of_mem)) (j := 1) rfl, hc.rcell (by repeat (first | exact List.mem_cons_self .. | apply List.mem_cons_of_mem)) (j := 2) rfl⟩)); clear hK K; (try simp only [Act.put, List.setIfInBounds_toArray, List.set_cons_zero, List.set_cons_succ]))
              obtain ⟨W, rfl⟩ : ∃ W : World, W = W1 := ⟨_, rfl⟩
              (refine wpAnyS_ready (rs := [24]) (by kernel_rfl) (by simp) ?_; refine AllS.consL rfl (fun K hK => ?_) AllS.nil)
              refine step_app rfl _ _ 43 rfl Tryz.elInt (by exact hc) rfl (by first | exact hc.q0 | exact hc.q1 | exact hc.q2 | exact hc.q3 | exact hc.q3q) (by intro u hu; simp at hu; subst hu; rfl) (by omega) ?_
              intro vX W1 hX _
              obtain ⟨sO, sC, rfl, _⟩ := _root_.id hX.sl0
              replace hc := hX.rot
              clear hX
              (refine hK.out _ _ ?_ (fun hHeld => ?_); (focus ((try dsimp only); exact ⟨hc.rcell (by repeat (first | exact List.mem_cons_self .. | apply List.mem_cons_of_mem)) (j := 0) rfl, hc.rcell (by repeat (first | exact List.mem_cons_self .. | apply List.mem_cons_of_mem)) (j := 1) rfl, hc.rcell (by repeat (first | exact List.mem_cons_self .. | apply List.mem_cons_of_mem)) (j := 2) rfl⟩)); clear hK K; (try simp only [Act.put, List.setIfInBounds_toArray, List.set_cons_zero, List.set_cons_succ]))
              obtain ⟨W, rfl⟩ : ∃ W : World, W = W1 := ⟨_, rfl⟩
              (refine wpAnyS_seq (by rfl) (by kernel_rfl) ?_; simp only [List.drop_succ_cons, List.drop_zero])
              clear hHeld
              go_wp2_with (first | ((with_reducible show wpList _ _ _ _ _ _); refine wpl_store1 rfl 23 _ _ rfl hc (0) rfl (.slice iO (L.length + 1) iC) rfl rfl (by kernel_rfl) (by simp) rfl ?_; intro w5 hs5) | ((with_reducible show wpList _ _ _ _ _ _); refine wpl_store1 rfl 42 _ _ rfl hs5 (1) rfl (.slice pO (L.length + 1) pC) rfl rfl (by kernel_rfl) (by simp) rfl ?_; intro w6 hs6) | ((with_reducible show wpList _ _ _ _ _ _); refine wpl_store1 rfl 43 _ _ rfl hs6 (2) rfl (.slice sO (L.length + 1) sC) rfl rfl (by kernel_rfl) (by simp) rfl ?_; intro w7 hs7))
              go_ret
              exact ⟨by rw [HE.out]; rfl, .inr ⟨HE.out, .slice iO (L.length + 1) iC, .slice pO (L.length + 1) pC, .slice sO (L.length + 1) sC, .slice ua (uniqL ps).length uc, (hs7.rot.castR (by simp [ss, is])).sub (List.Sublist.refl _) (fun q hq => by rcases List.mem_cons.1 hq with rfl | hq; (first | exact List.mem_cons_self .. | simp); (repeat (first | exact hq | apply List.mem_cons_of_mem)))⟩⟩
            exact AllS.nil
end Go.Proofs.YtloogjdafhjheaaGreat
