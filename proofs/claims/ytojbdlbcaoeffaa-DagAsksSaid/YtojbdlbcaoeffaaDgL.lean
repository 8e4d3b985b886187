/- Walk of the law DagAsks. -/
import Derived.Test.YtojbdlbcaoeffaaDgU
import Derived.Test.YtojbdlbcaoeffaaDgB
import Derived.Test.YtojbdlbcaoeffaaHeldD
namespace Go.Mx
open Go Go.RowKit
theorem Sl.oneCell {w : World} {g : Nat} {u : Value} (h : w.cell? ⟨g, 0, none⟩ = some u) : Sl w 1 (.slice (some ⟨g, 0, none⟩) 1 1) 1 [u] := by
  refine ⟨_, 1, rfl, Nat.le_refl _, by simp [maxLen], rfl, by simp, fun j v hj => ⟨_, rfl, ?_⟩⟩
  match j, hj with
  | 0, hj =>
    have : u = v := by simpa using hj
    subst this
    rw [Addr.add_lit]
    exact h
end Go.Mx
namespace Go.Proofs.Ytojbdlbcaoeffaa
open Go.RowKit Go.Mx
set_option maxRecDepth 200000 in
set_option maxHeartbeats 8000000 in
theorem dagAsksRow {w : World} (v : Value) (l : List Gd) (hl : ND w v l) (hok : ∀ q ∈ l, NdOk q) (vi : Value) (ids : List ByteArray) (hv : Sl w 1 vi ids.length (ss ids)) (_hz : ∀ x ∈ ids, x.size ≤ maxLen) (b : ByteArray) (_hb : b.size ≤ maxLen) (_w : World) :
    Calls Try.prog 7 #[v, vi, .string b] w fun e w' => e = .returned (.bool true) ∧ Below w.heap.size w w' := by
  have HV := Mx.hid hv
  have HF := Mx.hid (fun w' R Q (hs : St w w' R Q) => nfew_any v l w' (hl.old hs))
  obtain ⟨ao, cap, blk, off, rfl, h1, h2, hc⟩ := hl.at
  have HC := Mx.hid hc
  have HP := Mx.hid hl.2
  have HK := Mx.hid hok
  obtain ⟨av, cv, rfl, _⟩ := hv.form
  clear hc hl hv hok _hz
  go_enter Try.func7, Try.ntmps7
  go_wp2_with fail
  refine (first_g _).mono ?_
  rintro e w1 ⟨rfl, hk⟩
  go_wp2_with fail
  refine (new_g w1).mono ?_
  rintro e w2 ⟨g, B, rfl, hB, hg, hr, hs⟩
  have hlB : w.heap.size ≤ B := Nat.le_trans hk.size hB
  replace hk := hk.call0 hs
  have HR := Mx.hid hr
  have hF := HF.out _ _ _ hk
  clear hr hg hB HF hs
  go_wp2_with (((with_reducible show wpList _ _ _ _ _ _); refine wpl_want rfl ?_))
  refine hF.mono ?_
  rintro e w3 ⟨⟨b1, rfl, hb1⟩, rfl⟩
  cases b1 with
  | false =>
    clear hb1 hF
    go_wp2_with (first | ((with_reducible show wpList _ _ _ _ _ _); refine wpl_want rfl ?_) | (go_at_call 8; refine (first_g _).mono ?_; rintro e w9 ⟨rfl, h9⟩; replace hk := hk.call0 h9))
    go_ret
    exact ⟨rfl, hk.below⟩
  | true =>
  have HB := Mx.hid (hb1 rfl)
  clear hb1 hF
  go_wp2_with (((with_reducible show wpList _ _ _ _ _ _); refine wpl_want rfl ?_))
  refine (few_any _ ids _ (hk.old HV.out)).mono ?_
  rintro e w3 ⟨⟨b2, rfl, hb2⟩, rfl⟩
  cases b2 with
  | false =>
    clear hb2
    go_wp2_with (first | ((with_reducible show wpList _ _ _ _ _ _); refine wpl_want rfl ?_) | (go_at_call 8; refine (first_g _).mono ?_; rintro e w9 ⟨rfl, h9⟩; replace hk := hk.call0 h9))
    go_ret
    exact ⟨rfl, hk.below⟩
  | true =>
  have hl20 := hb2 rfl
  clear hb2
  by_cases hb100 : 100 < b.size
  · have hd : decide ((100 : Int) < (b.size : Int)) = true := decide_eq_true (by omega)
    go_wp2_with (first | ((with_reducible show wpList _ _ _ _ _ _); refine wpl_want rfl ?_) | (go_at_call 8; refine (first_g _).mono ?_; rintro e w9 ⟨rfl, h9⟩; replace hk := hk.call0 h9))
    go_ret
    exact ⟨rfl, hk.below⟩
  have hd : decide ((100 : Int) < (b.size : Int)) = false := decide_eq_false (by omega)
  have HK2 := Mx.hid hk
  have HX := Mx.hid (fun (W : World) (gx : Nat) (hx : St w2 W [xrow gx (.slice none 0 0) (.slice none 0 0) (.slice none 0 0)] []) => (show BW w W w2.heap.size g B gx (.slice none 0 0) (.slice none 0 0) (.slice none 0 0) [] [] [⟨.slice (some ⟨g, 0, none⟩) 1 1, 1, 1, [.map (some B)]⟩] w2 from
    { sz := rfl
      base := HK2.out
      st := ((((hx.addNil _ 1).addNil _ 1).addNil _ 1).addQ (q := ⟨.slice (some ⟨g, 0, none⟩) 1 1, 1, 1, [.map (some B)]⟩) (Sl.oneCell HR.out.cell))
      gc := List.mem_cons_self ..
      gq := fun q hq => (by cases hq)
      pq := fun j hj => (by simp at hj)
      mp := HR.out.mp.grow hx.below
      hB := HR.out.mp.lt
      lB := hlB
      few := fun q hq => (by cases hq)
      len := by simp
      wf := .nil
      sb := .nil }))
  clear hk
  go_wp2_with (((with_reducible show wpList _ _ _ _ _ _); refine wpl_box rfl 50 _ rfl (St.refl w2) ([.slice none 0 0, .slice none 0 0, .slice none 0 0]) (by rfl) ?_; intro gx w3 hs3))
  have HBW0 := Mx.hid (HX.out _ _ hs3)
  clear hs3 HX hd hb100
  go_loopw [9] (fun y wr => ∃ (i : Nat) (G : List Gd) (PV : List Value) (vi vp vs : Value) (Q : List Rd) (wb : World), y = .int .i64 i ∧ i ≤ l.length ∧ Hid (G.length ≤ i) ∧ Hid (BW w wr w2.heap.size g B gx vi vp vs G PV Q wb)) (fun y _ => l.length - (intOf y).toNat)
  case atStart => exact ⟨0, [], [], _, _, _, _, w2, rfl, by omega, Mx.hid (by simp), HBW0⟩
  case round =>
    clear HBW0
    obtain ⟨i, G, PV, vi, vp, vs, Q, wb, rfl, hi, HGL, HBW⟩ := hrel
    by_cases hlt : i < l.length
    · obtain ⟨rfl, c1, c2, c3⟩ := HC.out i hlt
      have hs := HBW.out.law
      have HC3 := Mx.hid (fun W' (hs : St w W' [] []) => And.intro (hs.keep c1) (And.intro (hs.keep c2) (hs.keep c3)))
      have hm := List.getElem_mem hlt
      have HSL := Mx.hid (HP.out _ hm)
      obtain ⟨_, hz, _⟩ := HK.out _ hm
      have h8 := HB.out.2 _ hm
      have hii : (i : Int) < (l.length : Int) := by omega
      clear c1 c2 c3
      generalize l[i] = q at *
      obtain ⟨qv, qid, qps, qz⟩ := q
      simp only [] at HC3 HSL hz h8
      obtain ⟨pa, pc, rfl, _⟩ := HSL.out.form
      have hzb : -9223372036854775808 ≤ qz ∧ qz ≤ 9223372036854775807 := by
        simp [Lit.wf] at hz
        have e1 : IntKind.i64.min = -9223372036854775808 := by decide
        have e2 : IntKind.i64.max = 9223372036854775807 := by decide
        omega
      have HSR := Mx.hid (hs.old HSL.out)
      obtain ⟨c1, c2, c3⟩ := HC3.out _ hs
      clear hz hm hs
      go_wp2_with fail
      refine (copyTexts_any _ qps wr HSR.out (by omega)).mono ?_
      rintro e w4 ⟨vn, rfl, h4⟩
      have HN4 := Mx.hid h4.sl0
      have HB4 := Mx.hid (((HBW.out.addF h4).addQ HSL.out).keep (St.refl w4).drew)
      obtain ⟨na, nc, rfl, _⟩ := id h4.sl0
      have HADD := Mx.hid (add_g2 g B G qid _ qps qz w4.drew HB4.out.gg.r HB4.out.gg.r.apart ((St.refl w4).drew.old HN4.out) (by omega) hzb.1 hzb.2 HB4.out.sb)
      have hcell := HC3.out _ HB4.out.law
      clear c1 c2 c3 h4 HBW HSR
      go_wp2_with fail
      (refine wp_region_S (40) (fun W' => W'.cell? ⟨blk, off + i * 3, none⟩ = some (.string qid) ∧ W'.cell? ⟨blk, off + i * 3 + 1, none⟩ = some (.slice pa qps.length pc) ∧ W'.cell? ⟨blk, off + i * 3 + 2, none⟩ = some (.int .i64 qz)) (by kernel_rfl) ?_ (fun hHeld => ?_); (focus ((try dsimp only); exact hcell)))
      clear hcell
      (refine wpAnyS_takeW (i := 0) (v := ?_) rfl (by kernel_rfl) (by kernel_rfl) (by kernel_rfl) (by kernel_rfl) (fun _ _ _ h => h) (Or.inl ⟨by first | rfl | (go_simp; done), ?_⟩) hHeld ?_; rotate_left 1; (focus (intro w' hSw; go_simp; (try with_reducible rfl))); (try simp only [Act.put, List.setIfInBounds_toArray, List.set_cons_zero, List.set_cons_succ]))
      (refine wpAnyS_takeW (i := 1) (v := ?_) rfl (by kernel_rfl) (by kernel_rfl) (by kernel_rfl) (by kernel_rfl) (fun _ _ _ h => h) (Or.inl ⟨by first | rfl | (go_simp; done), ?_⟩) hHeld ?_; rotate_left 1; (focus (intro w' hSw; go_simp; (try with_reducible rfl))); (try simp only [Act.put, List.setIfInBounds_toArray, List.set_cons_zero, List.set_cons_succ]))
      (refine wpAnyS_takeW (i := 2) (v := ?_) rfl (by kernel_rfl) (by kernel_rfl) (by kernel_rfl) (by kernel_rfl) (fun _ _ _ h => h) (Or.inl ⟨by first | rfl | (go_simp; done), ?_⟩) hHeld ?_; rotate_left 1; (focus (intro w' hSw; go_simp; (try with_reducible rfl))); (try simp only [Act.put, List.setIfInBounds_toArray, List.set_cons_zero, List.set_cons_succ]))
      (refine wpAnyS_takeW (i := 3) (v := ?_) rfl (by kernel_rfl) (by kernel_rfl) (by kernel_rfl) (by kernel_rfl) (fun _ _ _ h => h) (Or.inl ⟨by first | rfl | (go_simp; done), ?_⟩) hHeld ?_; rotate_left 1; (focus (intro w' hSw; go_simp; (try with_reducible rfl))); (try simp only [Act.put, List.setIfInBounds_toArray, List.set_cons_zero, List.set_cons_succ]))
      (refine wpAnyS_takeW (i := 4) (v := ?_) rfl (by kernel_rfl) (by kernel_rfl) (by kernel_rfl) (by kernel_rfl) (fun _ _ _ h => h) (Or.inl ⟨by first | rfl | (go_simp; done), ?_⟩) hHeld ?_; rotate_left 1; (focus (intro w' hSw; go_simp; (try with_reducible rfl))); (try simp only [Act.put, List.setIfInBounds_toArray, List.set_cons_zero, List.set_cons_succ]))
      (refine wpAnyS_takeD (i := 5) (v := ?_) rfl (by kernel_rfl) (by kernel_rfl) (by kernel_rfl) (by kernel_rfl) (by kernel_rfl) (fun _ _ _ h => h) (Or.inl ⟨by first | rfl | (go_simp; done), ?_⟩) hHeld ?_; rotate_left 1; (focus (intro w' hSw; (try dsimp only at hSw); go_simp; (try with_reducible rfl))); (try simp only [Act.put, List.setIfInBounds_toArray, List.set_cons_zero, List.set_cons_succ]))
      (refine wpAnyS_takeW (i := 6) (v := ?_) rfl (by kernel_rfl) (by kernel_rfl) (by kernel_rfl) (by kernel_rfl) (fun _ _ _ h => h) (Or.inl ⟨by first | rfl | (go_simp; done), ?_⟩) hHeld ?_; rotate_left 1; (focus (intro w' hSw; go_simp; (try with_reducible rfl))); (try simp only [Act.put, List.setIfInBounds_toArray, List.set_cons_zero, List.set_cons_succ]))
      (refine wpAnyS_takeW (i := 7) (v := ?_) rfl (by kernel_rfl) (by kernel_rfl) (by kernel_rfl) (by kernel_rfl) (fun _ _ _ h => h) (Or.inl ⟨by first | rfl | (go_simp; done), ?_⟩) hHeld ?_; rotate_left 1; (focus (intro w' hSw; go_simp; (try with_reducible rfl))); (try simp only [Act.put, List.setIfInBounds_toArray, List.set_cons_zero, List.set_cons_succ]))
      (refine wpAnyS_takeW (i := 8) (v := ?_) rfl (by kernel_rfl) (by kernel_rfl) (by kernel_rfl) (by kernel_rfl) (fun _ _ _ h => h) (Or.inl ⟨by first | rfl | (go_simp; done), ?_⟩) hHeld ?_; rotate_left 1; (focus (intro w' hSw; go_simp; (try with_reducible rfl))); (try simp only [Act.put, List.setIfInBounds_toArray, List.set_cons_zero, List.set_cons_succ]))
      (refine wpAnyS_takeW (i := 9) (v := ?_) rfl (by kernel_rfl) (by kernel_rfl) (by kernel_rfl) (by kernel_rfl) (fun _ _ _ h => h) (Or.inl ⟨by first | rfl | (go_simp; done), ?_⟩) hHeld ?_; rotate_left 1; (focus (intro w' hSw; go_simp; (try with_reducible rfl))); (try simp only [Act.put, List.setIfInBounds_toArray, List.set_cons_zero, List.set_cons_succ]))
      (refine wpAnyS_takeW (i := 10) (v := ?_) rfl (by kernel_rfl) (by kernel_rfl) (by kernel_rfl) (by kernel_rfl) (fun _ _ _ h => h) (Or.inl ⟨by first | rfl | (go_simp; done), ?_⟩) hHeld ?_; rotate_left 1; (focus (intro w' hSw; go_simp; (try with_reducible rfl))); (try simp only [Act.put, List.setIfInBounds_toArray, List.set_cons_zero, List.set_cons_succ]))
      (refine wpAnyS_takeD (i := 11) (v := ?_) rfl (by kernel_rfl) (by kernel_rfl) (by kernel_rfl) (by kernel_rfl) (by kernel_rfl) (fun _ _ _ h => h) (Or.inl ⟨by first | rfl | (go_simp; done), ?_⟩) hHeld ?_; rotate_left 1; (focus (intro w' hSw; (try dsimp only at hSw); go_simp; (try with_reducible rfl))); (try simp only [Act.put, List.setIfInBounds_toArray, List.set_cons_zero, List.set_cons_succ]))
      (refine wpAnyS_takeW (i := 13) (v := ?_) rfl (by kernel_rfl) (by kernel_rfl) (by kernel_rfl) (by kernel_rfl) (fun _ _ _ h => h) (Or.inl ⟨by first | rfl | (go_simp; done), ?_⟩) hHeld ?_; rotate_left 1; (focus (intro w' hSw; go_simp; (try with_reducible rfl))); (try simp only [Act.put, List.setIfInBounds_toArray, List.set_cons_zero, List.set_cons_succ]))
      (refine wpAnyS_takeW (i := 14) (v := ?_) rfl (by kernel_rfl) (by kernel_rfl) (by kernel_rfl) (by kernel_rfl) (fun _ _ _ h => h) (Or.inl ⟨by first | rfl | (go_simp; done), ?_⟩) hHeld ?_; rotate_left 1; (focus (intro w' hSw; go_simp; (try with_reducible rfl))); (try simp only [Act.put, List.setIfInBounds_toArray, List.set_cons_zero, List.set_cons_succ]))
      (refine wpAnyS_takeW (i := 15) (v := ?_) rfl (by kernel_rfl) (by kernel_rfl) (by kernel_rfl) (by kernel_rfl) (fun _ _ _ h => h) (Or.inl ⟨by first | rfl | (go_simp; done), ?_⟩) hHeld ?_; rotate_left 1; (focus (intro w' hSw; go_simp; (try with_reducible rfl))); (try simp only [Act.put, List.setIfInBounds_toArray, List.set_cons_zero, List.set_cons_succ]))
      (refine wpAnyS_takeW (i := 16) (v := ?_) rfl (by kernel_rfl) (by kernel_rfl) (by kernel_rfl) (by kernel_rfl) (fun _ _ _ h => h) (Or.inl ⟨by first | rfl | (go_simp; done), ?_⟩) hHeld ?_; rotate_left 1; (focus (intro w' hSw; go_simp; (try with_reducible rfl))); (try simp only [Act.put, List.setIfInBounds_toArray, List.set_cons_zero, List.set_cons_succ]))
      (refine wpAnyS_takeW (i := 17) (v := ?_) rfl (by kernel_rfl) (by kernel_rfl) (by kernel_rfl) (by kernel_rfl) (fun _ _ _ h => h) (Or.inl ⟨by first | rfl | (go_simp; done), ?_⟩) hHeld ?_; rotate_left 1; (focus (intro w' hSw; go_simp; (try with_reducible rfl))); (try simp only [Act.put, List.setIfInBounds_toArray, List.set_cons_zero, List.set_cons_succ]))
      (refine wpAnyS_takeD (i := 18) (v := ?_) rfl (by kernel_rfl) (by kernel_rfl) (by kernel_rfl) (by kernel_rfl) (by kernel_rfl) (fun _ _ _ h => h) (Or.inl ⟨by first | rfl | (go_simp; done), ?_⟩) hHeld ?_; rotate_left 1; (focus (intro w' hSw; (try dsimp only at hSw); go_simp; (try with_reducible rfl))); (try simp only [Act.put, List.setIfInBounds_toArray, List.set_cons_zero, List.set_cons_succ]))
      (refine wpAnyS_takeW (i := 19) (v := ?_) rfl (by kernel_rfl) (by kernel_rfl) (by kernel_rfl) (by kernel_rfl) (fun _ _ _ h => h) (Or.inl ⟨by first | rfl | (go_simp; done), ?_⟩) hHeld ?_; rotate_left 1; (focus (intro w' hSw; go_simp; (try with_reducible rfl))); (try simp only [Act.put, List.setIfInBounds_toArray, List.set_cons_zero, List.set_cons_succ]))
      (refine wpAnyS_takeW (i := 20) (v := ?_) rfl (by kernel_rfl) (by kernel_rfl) (by kernel_rfl) (by kernel_rfl) (fun _ _ _ h => h) (Or.inl ⟨by first | rfl | (go_simp; done), ?_⟩) hHeld ?_; rotate_left 1; (focus (intro w' hSw; go_simp; (try with_reducible rfl))); (try simp only [Act.put, List.setIfInBounds_toArray, List.set_cons_zero, List.set_cons_succ]))
      (refine wpAnyS_takeW (i := 21) (v := ?_) rfl (by kernel_rfl) (by kernel_rfl) (by kernel_rfl) (by kernel_rfl) (fun _ _ _ h => h) (Or.inl ⟨by first | rfl | (go_simp; done), ?_⟩) hHeld ?_; rotate_left 1; (focus (intro w' hSw; go_simp; (try with_reducible rfl))); (try simp only [Act.put, List.setIfInBounds_toArray, List.set_cons_zero, List.set_cons_succ]))
      (refine wpAnyS_takeW (i := 22) (v := ?_) rfl (by kernel_rfl) (by kernel_rfl) (by kernel_rfl) (by kernel_rfl) (fun _ _ _ h => h) (Or.inl ⟨by first | rfl | (go_simp; done), ?_⟩) hHeld ?_; rotate_left 1; (focus (intro w' hSw; go_simp; (try with_reducible rfl))); (try simp only [Act.put, List.setIfInBounds_toArray, List.set_cons_zero, List.set_cons_succ]))
      (refine wpAnyS_takeD (i := 23) (v := ?_) rfl (by kernel_rfl) (by kernel_rfl) (by kernel_rfl) (by kernel_rfl) (by kernel_rfl) (fun _ _ _ h => h) (Or.inl ⟨by first | rfl | (go_simp; done), ?_⟩) hHeld ?_; rotate_left 1; (focus (intro w' hSw; (try dsimp only at hSw); go_simp; (try with_reducible rfl))); (try simp only [Act.put, List.setIfInBounds_toArray, List.set_cons_zero, List.set_cons_succ]))
      (refine wpAnyS_takeW (i := 24) (v := ?_) rfl (by kernel_rfl) (by kernel_rfl) (by kernel_rfl) (by kernel_rfl) (fun _ _ _ h => h) (Or.inl ⟨by first | rfl | (go_simp; done), ?_⟩) hHeld ?_; rotate_left 1; (focus (intro w' hSw; go_simp; (try with_reducible rfl))); (try simp only [Act.put, List.setIfInBounds_toArray, List.set_cons_zero, List.set_cons_succ]))
      (refine wpAnyS_takeW (i := 25) (v := ?_) rfl (by kernel_rfl) (by kernel_rfl) (by kernel_rfl) (by kernel_rfl) (fun _ _ _ h => h) (Or.inl ⟨by first | rfl | (go_simp; done), ?_⟩) hHeld ?_; rotate_left 1; (focus (intro w' hSw; go_simp; (try with_reducible rfl))); (try simp only [Act.put, List.setIfInBounds_toArray, List.set_cons_zero, List.set_cons_succ]))
      (refine wpAnyS_takeW (i := 26) (v := ?_) rfl (by kernel_rfl) (by kernel_rfl) (by kernel_rfl) (by kernel_rfl) (fun _ _ _ h => h) (Or.inl ⟨by first | rfl | (go_simp; done), ?_⟩) hHeld ?_; rotate_left 1; (focus (intro w' hSw; go_simp; (try with_reducible rfl))); (try simp only [Act.put, List.setIfInBounds_toArray, List.set_cons_zero, List.set_cons_succ]))
      (refine wpAnyS_takeW (i := 27) (v := ?_) rfl (by kernel_rfl) (by kernel_rfl) (by kernel_rfl) (by kernel_rfl) (fun _ _ _ h => h) (Or.inl ⟨by first | rfl | (go_simp; done), ?_⟩) hHeld ?_; rotate_left 1; (focus (intro w' hSw; go_simp; (try with_reducible rfl))); (try simp only [Act.put, List.setIfInBounds_toArray, List.set_cons_zero, List.set_cons_succ]))
      (refine wpAnyS_takeD (i := 28) (v := ?_) rfl (by kernel_rfl) (by kernel_rfl) (by kernel_rfl) (by kernel_rfl) (by kernel_rfl) (fun _ _ _ h => h) (Or.inl ⟨by first | rfl | (go_simp; done), ?_⟩) hHeld ?_; rotate_left 1; (focus (intro w' hSw; (try dsimp only at hSw); go_simp; (try with_reducible rfl))); (try simp only [Act.put, List.setIfInBounds_toArray, List.set_cons_zero, List.set_cons_succ]))
      (refine wpAnyS_ready (rs := [12]) (by kernel_rfl) (by simp) ?_; refine AllS.consL rfl (fun K hK => ?_) AllS.nil)
      (go_simp; go_at_call 20; refine (HADD.out).mono ?_; rintro e w' ⟨rfl, hgr, hsz, hpost⟩; go_wp2_with fail)
      have HL5 := Mx.hid (HB4.out.law.other HB4.out.mp.noRow HB4.out.lB hgr)
      have HSTEP := Mx.hid (BW.step HB4.out (List.mem_cons_self ..) (by omega) hzb.2 ⟨rfl, hgr, hsz, hpost⟩)
      clear hgr hsz hpost HADD
      (refine hK.out _ _ ?_ (fun hHeld => ?_); (focus ((try dsimp only); exact HC3.out _ HL5.out)); clear hK K; (try simp only [Act.put, List.setIfInBounds_toArray, List.set_cons_zero, List.set_cons_succ]))
      clear HL5
      obtain ⟨w5, rfl⟩ : ∃ W : World, W = w' := ⟨_, rfl⟩
      (refine wpAnyS_ready (rs := [29]) (by kernel_rfl) (by simp) ?_; refine AllS.consL rfl (fun K hK => ?_) AllS.nil)
      (go_simp; go_at_call 27; refine (HSTEP.out).mono ?_; rintro e w' ⟨rfl, hnx⟩; go_wp2_with fail)
      obtain ⟨G6, PV6, vi6, vp6, vs6, Q6, wb6, hgl, hqq, hb6⟩ := hnx
      have HB6 := Mx.hid hb6
      have HTX := Mx.hid (texts_same _ _ qps qps _ (hb6.st.rd _ (hqq _ (List.mem_cons_of_mem _ (List.mem_cons_self ..)))) (hb6.st.rd _ (hqq _ (List.mem_cons_self ..))) (Mx.hid rfl))
      have HGL6 := Mx.hid (show G6.length ≤ i + 1 by have := HGL.out; omega)
      clear hb6 hqq hgl HSTEP
      (refine hK.out _ _ ?_ (fun hHeld => ?_); (focus ((try dsimp only); exact HC3.out _ HB6.out.law)); clear hK K; (try simp only [Act.put, List.setIfInBounds_toArray, List.set_cons_zero, List.set_cons_succ]))
      clear HB4
      generalize addE (List.map (fun x => x.2) G) qid qps qz = E at *
      obtain ⟨w6, rfl⟩ : ∃ W : World, W = w' := ⟨_, rfl⟩
      (refine wpAnyS_takeW (i := 30) (v := ?_) rfl (by kernel_rfl) (by kernel_rfl) (by kernel_rfl) (by kernel_rfl) (fun _ _ _ h => h) (Or.inl ⟨by first | rfl | (go_simp; done), ?_⟩) hHeld ?_; rotate_left 1; (focus (intro w' hSw; go_simp; (try with_reducible rfl))); (try simp only [Act.put, List.setIfInBounds_toArray, List.set_cons_zero, List.set_cons_succ]))
      (refine wpAnyS_takeW (i := 31) (v := ?_) rfl (by kernel_rfl) (by kernel_rfl) (by kernel_rfl) (by kernel_rfl) (fun _ _ _ h => h) (Or.inl ⟨by first | rfl | (go_simp; done), ?_⟩) hHeld ?_; rotate_left 1; (focus (intro w' hSw; go_simp; (try with_reducible rfl))); (try simp only [Act.put, List.setIfInBounds_toArray, List.set_cons_zero, List.set_cons_succ]))
      (refine wpAnyS_takeW (i := 32) (v := ?_) rfl (by kernel_rfl) (by kernel_rfl) (by kernel_rfl) (by kernel_rfl) (fun _ _ _ h => h) (Or.inl ⟨by first | rfl | (go_simp; done), ?_⟩) hHeld ?_; rotate_left 1; (focus (intro w' hSw; go_simp; (try with_reducible rfl))); (try simp only [Act.put, List.setIfInBounds_toArray, List.set_cons_zero, List.set_cons_succ]))
      (refine wpAnyS_takeW (i := 33) (v := ?_) rfl (by kernel_rfl) (by kernel_rfl) (by kernel_rfl) (by kernel_rfl) (fun _ _ _ h => h) (Or.inl ⟨by first | rfl | (go_simp; done), ?_⟩) hHeld ?_; rotate_left 1; (focus (intro w' hSw; go_simp; (try with_reducible rfl))); (try simp only [Act.put, List.setIfInBounds_toArray, List.set_cons_zero, List.set_cons_succ]))
      (refine wpAnyS_takeW (i := 34) (v := ?_) rfl (by kernel_rfl) (by kernel_rfl) (by kernel_rfl) (by kernel_rfl) (fun _ _ _ h => h) (Or.inl ⟨by first | rfl | (go_simp; done), ?_⟩) hHeld ?_; rotate_left 1; (focus (intro w' hSw; go_simp; (try with_reducible rfl))); (try simp only [Act.put, List.setIfInBounds_toArray, List.set_cons_zero, List.set_cons_succ]))
      (refine wpAnyS_takeW (i := 35) (v := ?_) rfl (by kernel_rfl) (by kernel_rfl) (by kernel_rfl) (by kernel_rfl) (fun _ _ _ h => h) (Or.inl ⟨by first | rfl | (go_simp; done), ?_⟩) hHeld ?_; rotate_left 1; (focus (intro w' hSw; go_simp; (try with_reducible rfl))); (try simp only [Act.put, List.setIfInBounds_toArray, List.set_cons_zero, List.set_cons_succ]))
      (refine wpAnyS_takeW (i := 36) (v := ?_) rfl (by kernel_rfl) (by kernel_rfl) (by kernel_rfl) (by kernel_rfl) (fun _ _ _ h => h) (Or.inl ⟨by first | rfl | (go_simp; done), ?_⟩) hHeld ?_; rotate_left 1; (focus (intro w' hSw; go_simp; (try with_reducible rfl))); (try simp only [Act.put, List.setIfInBounds_toArray, List.set_cons_zero, List.set_cons_succ]))
      (refine wpAnyS_takeD (i := 37) (v := ?_) rfl (by kernel_rfl) (by kernel_rfl) (by kernel_rfl) (by kernel_rfl) (by kernel_rfl) (fun _ _ _ h => h) (Or.inl ⟨by first | rfl | (go_simp; done), ?_⟩) hHeld ?_; rotate_left 1; (focus (intro w' hSw; (try dsimp only at hSw); go_simp; (try with_reducible rfl))); (try simp only [Act.put, List.setIfInBounds_toArray, List.set_cons_zero, List.set_cons_succ]))
      (refine wpAnyS_ready (rs := [38]) (by kernel_rfl) (by simp) ?_; refine AllS.consL rfl (fun K hK => ?_) AllS.nil)
      (go_simp; go_at_call 12; refine (HTX.out).mono ?_; rintro e w' ⟨rfl, h7⟩; go_wp2_with fail)
      have HB7 := Mx.hid (HB6.out.keep h7)
      clear h7 HTX HB6
      (refine hK.out _ _ ?_ (fun hHeld => ?_); (focus ((try dsimp only); exact HC3.out _ HB7.out.law)); clear hK K; (try simp only [Act.put, List.setIfInBounds_toArray, List.set_cons_zero, List.set_cons_succ]))
      obtain ⟨w7, rfl⟩ : ∃ W : World, W = w' := ⟨_, rfl⟩
      (refine wpAnyS_takeW (i := 39) (v := ?_) rfl (by kernel_rfl) (by kernel_rfl) (by kernel_rfl) (by kernel_rfl) (fun _ _ _ h => h) (Or.inl ⟨by first | rfl | (go_simp; done), ?_⟩) hHeld ?_; rotate_left 1; (focus (intro w' hSw; go_simp; (try with_reducible rfl))); (try simp only [Act.put, List.setIfInBounds_toArray, List.set_cons_zero, List.set_cons_succ]))
      (refine wpAnyS_seq (by rfl) (by kernel_rfl) ?_; simp only [List.drop_succ_cons, List.drop_zero])
      clear hHeld HGL
      obtain ⟨io, ic, hvi, _⟩ := id HB7.out.st.sl0
      rw [List.length_map] at hvi
      subst hvi
      have HB8 := Mx.hid (HB7.out.keep (St.refl w7).drew)
      have HNX := Mx.hid (show ∀ n ∈ List.map (fun x : Gd => x.2) G6, n.2.1.length ≤ 1000000 from fun n hn => by
        obtain ⟨q, hq, rfl⟩ := List.mem_map.1 hn
        exact HB8.out.few q hq)
      have hcell : w7.drew.cell? ⟨blk, off + i * 3, none⟩ = some (.string qid) ∧ w7.drew.cell? ⟨gx, 0, none⟩ = some (.slice io G6.length ic) := ⟨(HC3.out _ HB8.out.law).1, HB8.out.xg.c0⟩
      clear HB7
      go_wp2_with fail
      (refine wp_region_S (59) (fun W' => W'.cell? ⟨blk, off + i * 3, none⟩ = some (.string qid) ∧ W'.cell? ⟨gx, 0, none⟩ = some (.slice io G6.length ic)) (by kernel_rfl) ?_ (fun hHeld => ?_); (focus ((try dsimp only); exact hcell)))
      clear hcell
      (refine wpAnyS_takeW (i := 0) (v := ?_) rfl (by kernel_rfl) (by kernel_rfl) (by kernel_rfl) (by kernel_rfl) (fun _ _ _ h => h) (Or.inl ⟨by first | rfl | (go_simp; done), ?_⟩) hHeld ?_; rotate_left 1; (focus (intro w' hSw; go_simp; (try with_reducible rfl))); (try simp only [Act.put, List.setIfInBounds_toArray, List.set_cons_zero, List.set_cons_succ]))
      (refine wpAnyS_takeW (i := 2) (v := ?_) rfl (by kernel_rfl) (by kernel_rfl) (by kernel_rfl) (by kernel_rfl) (fun _ _ _ h => h) (Or.inl ⟨by first | rfl | (go_simp; done), ?_⟩) hHeld ?_; rotate_left 1; (focus (intro w' hSw; go_simp; (try with_reducible rfl))); (try simp only [Act.put, List.setIfInBounds_toArray, List.set_cons_zero, List.set_cons_succ]))
      (refine wpAnyS_takeW (i := 3) (v := ?_) rfl (by kernel_rfl) (by kernel_rfl) (by kernel_rfl) (by kernel_rfl) (fun _ _ _ h => h) (Or.inl ⟨by first | rfl | (go_simp; done), ?_⟩) hHeld ?_; rotate_left 1; (focus (intro w' hSw; go_simp; (try with_reducible rfl))); (try simp only [Act.put, List.setIfInBounds_toArray, List.set_cons_zero, List.set_cons_succ]))
      (refine wpAnyS_takeW (i := 4) (v := ?_) rfl (by kernel_rfl) (by kernel_rfl) (by kernel_rfl) (by kernel_rfl) (fun _ _ _ h => h) (Or.inl ⟨by first | rfl | (go_simp; done), ?_⟩) hHeld ?_; rotate_left 1; (focus (intro w' hSw; go_simp; (try with_reducible rfl))); (try simp only [Act.put, List.setIfInBounds_toArray, List.set_cons_zero, List.set_cons_succ]))
      (refine wpAnyS_takeD (i := 5) (v := ?_) rfl (by kernel_rfl) (by kernel_rfl) (by kernel_rfl) (by kernel_rfl) (by kernel_rfl) (fun _ _ _ h => h) (Or.inl ⟨by first | rfl | (go_simp; done), ?_⟩) hHeld ?_; rotate_left 1; (focus (intro w' hSw; (try dsimp only at hSw); go_simp; (try with_reducible rfl))); (try simp only [Act.put, List.setIfInBounds_toArray, List.set_cons_zero, List.set_cons_succ]))
      (refine wpAnyS_takeW (i := 6) (v := ?_) rfl (by kernel_rfl) (by kernel_rfl) (by kernel_rfl) (by kernel_rfl) (fun _ _ _ h => h) (Or.inl ⟨by first | rfl | (go_simp; done), ?_⟩) hHeld ?_; rotate_left 1; (focus (intro w' hSw; go_simp; (try with_reducible rfl))); (try simp only [Act.put, List.setIfInBounds_toArray, List.set_cons_zero, List.set_cons_succ]))
      (refine wpAnyS_ready (rs := [1]) (by kernel_rfl) (by simp) ?_; refine AllS.consL rfl (fun K hK => ?_) AllS.nil)
      (go_simp; go_at_call 19; refine (len_g g B G6 _ HB8.out.gg.r).mono ?_; rintro e w' ⟨rfl, rfl⟩; go_wp2_with fail)
      (refine hK.out _ _ ?_ (fun hHeld => ?_); (focus ((try dsimp only); exact ⟨(HC3.out _ HB8.out.law).1, HB8.out.xg.c0⟩)); clear hK K; (try simp only [Act.put, List.setIfInBounds_toArray, List.set_cons_zero, List.set_cons_succ]))
      (refine wpAnyS_takeW (i := 7) (v := ?_) rfl (by kernel_rfl) (by kernel_rfl) (by kernel_rfl) (by kernel_rfl) (fun _ _ _ h => h) (Or.inl ⟨by first | rfl | (go_simp; done), ?_⟩) hHeld ?_; rotate_left 1; (focus (intro w' hSw; go_simp; (try with_reducible rfl))); (try simp only [Act.put, List.setIfInBounds_toArray, List.set_cons_zero, List.set_cons_succ]))
      (refine wpAnyS_takeW (i := 8) (v := ?_) rfl (by kernel_rfl) (by kernel_rfl) (by kernel_rfl) (by kernel_rfl) (fun _ _ _ h => h) (Or.inl ⟨by first | rfl | (go_simp; done), ?_⟩) hHeld ?_; rotate_left 1; (focus (intro w' hSw; go_simp; (try with_reducible rfl))); (try simp only [Act.put, List.setIfInBounds_toArray, List.set_cons_zero, List.set_cons_succ]))
      (refine wpAnyS_takeW (i := 9) (v := ?_) rfl (by kernel_rfl) (by kernel_rfl) (by kernel_rfl) (by kernel_rfl) (fun _ _ _ h => h) (Or.inl ⟨by first | rfl | (go_simp; done), ?_⟩) hHeld ?_; rotate_left 1; (focus (intro w' hSw; go_simp; (try with_reducible rfl))); (try simp only [Act.put, List.setIfInBounds_toArray, List.set_cons_zero, List.set_cons_succ]))
      (refine wpAnyS_takeW (i := 10) (v := ?_) rfl (by kernel_rfl) (by kernel_rfl) (by kernel_rfl) (by kernel_rfl) (fun _ _ _ h => h) (Or.inl ⟨by first | rfl | (go_simp; done), ?_⟩) hHeld ?_; rotate_left 1; (focus (intro w' hSw; go_simp; (try with_reducible rfl))); (try simp only [Act.put, List.setIfInBounds_toArray, List.set_cons_zero, List.set_cons_succ]))
      (refine wpAnyS_takeW (i := 11) (v := ?_) rfl (by kernel_rfl) (by kernel_rfl) (by kernel_rfl) (by kernel_rfl) (fun _ _ _ h => h) (Or.inl ⟨by first | rfl | (go_simp; done), ?_⟩) hHeld ?_; rotate_left 1; (focus (intro w' hSw; go_simp; (try with_reducible rfl))); (try simp only [Act.put, List.setIfInBounds_toArray, List.set_cons_zero, List.set_cons_succ]))
      (refine wpAnyS_takeW (i := 12) (v := ?_) rfl (by kernel_rfl) (by kernel_rfl) (by kernel_rfl) (by kernel_rfl) (fun _ _ _ h => h) (Or.inl ⟨by first | rfl | (go_simp; done), ?_⟩) hHeld ?_; rotate_left 1; (focus (intro w' hSw; go_simp; (try with_reducible rfl))); (try simp only [Act.put, List.setIfInBounds_toArray, List.set_cons_zero, List.set_cons_succ]))
      (refine wpAnyS_takeW (i := 13) (v := ?_) rfl (by kernel_rfl) (by kernel_rfl) (by kernel_rfl) (by kernel_rfl) (fun _ _ _ h => h) (Or.inl ⟨by first | rfl | (go_simp; done), ?_⟩) hHeld ?_; rotate_left 1; (focus (intro w' hSw; go_simp; (try with_reducible rfl))); (try simp only [Act.put, List.setIfInBounds_toArray, List.set_cons_zero, List.set_cons_succ]))
      (refine wpAnyS_takeD (i := 14) (v := ?_) rfl (by kernel_rfl) (by kernel_rfl) (by kernel_rfl) (by kernel_rfl) (by kernel_rfl) (fun _ _ _ h => h) (Or.inl ⟨by first | rfl | (go_simp; done), ?_⟩) hHeld ?_; rotate_left 1; (focus (intro w' hSw; (try dsimp only at hSw); go_simp; (try with_reducible rfl))); (try simp only [Act.put, List.setIfInBounds_toArray, List.set_cons_zero, List.set_cons_succ]))
      (refine wpAnyS_takeW (i := 16) (v := ?_) rfl (by kernel_rfl) (by kernel_rfl) (by kernel_rfl) (by kernel_rfl) (fun _ _ _ h => h) (Or.inl ⟨by first | rfl | (go_simp; done), ?_⟩) hHeld ?_; rotate_left 1; (focus (intro w' hSw; go_simp; (try with_reducible rfl))); (try simp only [Act.put, List.setIfInBounds_toArray, List.set_cons_zero, List.set_cons_succ]))
      (refine wpAnyS_takeW (i := 17) (v := ?_) rfl (by kernel_rfl) (by kernel_rfl) (by kernel_rfl) (by kernel_rfl) (fun _ _ _ h => h) (Or.inl ⟨by first | rfl | (go_simp; done), ?_⟩) hHeld ?_; rotate_left 1; (focus (intro w' hSw; go_simp; (try with_reducible rfl))); (try simp only [Act.put, List.setIfInBounds_toArray, List.set_cons_zero, List.set_cons_succ]))
      (refine wpAnyS_takeW (i := 18) (v := ?_) rfl (by kernel_rfl) (by kernel_rfl) (by kernel_rfl) (by kernel_rfl) (fun _ _ _ h => h) (Or.inl ⟨by first | rfl | (go_simp; done), ?_⟩) hHeld ?_; rotate_left 1; (focus (intro w' hSw; go_simp; (try with_reducible rfl))); (try simp only [Act.put, List.setIfInBounds_toArray, List.set_cons_zero, List.set_cons_succ]))
      (refine wpAnyS_takeW (i := 19) (v := ?_) rfl (by kernel_rfl) (by kernel_rfl) (by kernel_rfl) (by kernel_rfl) (fun _ _ _ h => h) (Or.inl ⟨by first | rfl | (go_simp; done), ?_⟩) hHeld ?_; rotate_left 1; (focus (intro w' hSw; go_simp; (try with_reducible rfl))); (try simp only [Act.put, List.setIfInBounds_toArray, List.set_cons_zero, List.set_cons_succ]))
      (refine wpAnyS_takeW (i := 20) (v := ?_) rfl (by kernel_rfl) (by kernel_rfl) (by kernel_rfl) (by kernel_rfl) (fun _ _ _ h => h) (Or.inl ⟨by first | rfl | (go_simp; done), ?_⟩) hHeld ?_; rotate_left 1; (focus (intro w' hSw; go_simp; (try with_reducible rfl))); (try simp only [Act.put, List.setIfInBounds_toArray, List.set_cons_zero, List.set_cons_succ]))
      (refine wpAnyS_takeD (i := 21) (v := ?_) rfl (by kernel_rfl) (by kernel_rfl) (by kernel_rfl) (by kernel_rfl) (by kernel_rfl) (fun _ _ _ h => h) (Or.inl ⟨by first | rfl | (go_simp; done), ?_⟩) hHeld ?_; rotate_left 1; (focus (intro w' hSw; (try dsimp only at hSw); go_simp; (try with_reducible rfl))); (try simp only [Act.put, List.setIfInBounds_toArray, List.set_cons_zero, List.set_cons_succ]))
      (refine wpAnyS_ready (rs := [15]) (by kernel_rfl) (by simp) ?_; refine AllS.consL rfl (fun K hK => ?_) AllS.nil)
      (go_simp; go_at_call 11; refine (has_g g B G6 qid _ HB8.out.gg.r).mono ?_; rintro e w' ⟨rfl, h9⟩; go_wp2_with fail)
      have HB9 := Mx.hid (HB8.out.keep h9)
      clear h9
      (refine hK.out _ _ ?_ (fun hHeld => ?_); (focus ((try dsimp only); exact ⟨(HC3.out _ HB9.out.law).1, HB9.out.xg.c0⟩)); clear hK K; (try simp only [Act.put, List.setIfInBounds_toArray, List.set_cons_zero, List.set_cons_succ]))
      obtain ⟨w9, rfl⟩ : ∃ W : World, W = w' := ⟨_, rfl⟩
      (refine wpAnyS_ready (rs := [22]) (by kernel_rfl) (by simp) ?_; refine AllS.consL rfl (fun K hK => ?_) AllS.nil)
      (go_simp; go_at_call 28; refine (xhas_any gx _ _ _ _ PV6 qid _ HB9.out.xg).mono ?_; rintro e w' ⟨rfl, rfl⟩; go_wp2_with fail)
      (refine hK.out _ _ ?_ (fun hHeld => ?_); (focus ((try dsimp only); exact ⟨(HC3.out _ HB9.out.law).1, HB9.out.xg.c0⟩)); clear hK K; (try simp only [Act.put, List.setIfInBounds_toArray, List.set_cons_zero, List.set_cons_succ]))
      generalize isIn (List.map (fun x => x.2) G6) qid = r1 at *
      (refine wpAnyS_takeW (i := 23) (v := ?_) rfl (by kernel_rfl) (by kernel_rfl) (by kernel_rfl) (by kernel_rfl) (fun _ _ _ h => h) (Or.inl ⟨by first | rfl | (go_simp; done), ?_⟩) hHeld ?_; rotate_left 1; (focus (intro w' hSw; go_simp; (try with_reducible rfl))); (try simp only [Act.put, List.setIfInBounds_toArray, List.set_cons_zero, List.set_cons_succ]))
      (refine wpAnyS_takeW (i := 24) (v := ?_) rfl (by kernel_rfl) (by kernel_rfl) (by kernel_rfl) (by kernel_rfl) (fun _ _ _ h => h) (Or.inl ⟨by first | rfl | (go_simp; done), ?_⟩) hHeld ?_; rotate_left 1; (focus (intro w' hSw; go_simp; (try with_reducible rfl))); (try simp only [Act.put, List.setIfInBounds_toArray, List.set_cons_zero, List.set_cons_succ]))
      (refine wpAnyS_takeW (i := 25) (v := ?_) rfl (by kernel_rfl) (by kernel_rfl) (by kernel_rfl) (by kernel_rfl) (fun _ _ _ h => h) (Or.inl ⟨by first | rfl | (go_simp; done), ?_⟩) hHeld ?_; rotate_left 1; (focus (intro w' hSw; go_simp; (try with_reducible rfl))); (try simp only [Act.put, List.setIfInBounds_toArray, List.set_cons_zero, List.set_cons_succ]))
      (refine wpAnyS_takeW (i := 26) (v := ?_) rfl (by kernel_rfl) (by kernel_rfl) (by kernel_rfl) (by kernel_rfl) (fun _ _ _ h => h) (Or.inl ⟨by first | rfl | (go_simp; done), ?_⟩) hHeld ?_; rotate_left 1; (focus (intro w' hSw; go_simp; (try with_reducible rfl))); (try simp only [Act.put, List.setIfInBounds_toArray, List.set_cons_zero, List.set_cons_succ]))
      (refine wpAnyS_takeW (i := 27) (v := ?_) rfl (by kernel_rfl) (by kernel_rfl) (by kernel_rfl) (by kernel_rfl) (fun _ _ _ h => h) (Or.inl ⟨by first | rfl | (go_simp; done), ?_⟩) hHeld ?_; rotate_left 1; (focus (intro w' hSw; go_simp; (try with_reducible rfl))); (try simp only [Act.put, List.setIfInBounds_toArray, List.set_cons_zero, List.set_cons_succ]))
      (refine wpAnyS_takeW (i := 28) (v := ?_) rfl (by kernel_rfl) (by kernel_rfl) (by kernel_rfl) (by kernel_rfl) (fun _ _ _ h => h) (Or.inl ⟨by first | rfl | (go_simp; done), ?_⟩) hHeld ?_; rotate_left 1; (focus (intro w' hSw; go_simp; (try with_reducible rfl))); (try simp only [Act.put, List.setIfInBounds_toArray, List.set_cons_zero, List.set_cons_succ]))
      (refine wpAnyS_takeW (i := 29) (v := ?_) rfl (by kernel_rfl) (by kernel_rfl) (by kernel_rfl) (by kernel_rfl) (fun _ _ _ h => h) (Or.inl ⟨by first | rfl | (go_simp; done), ?_⟩) hHeld ?_; rotate_left 1; (focus (intro w' hSw; go_simp; (try with_reducible rfl))); (try simp only [Act.put, List.setIfInBounds_toArray, List.set_cons_zero, List.set_cons_succ]))
      (refine wpAnyS_takeW (i := 30) (v := ?_) rfl (by kernel_rfl) (by kernel_rfl) (by kernel_rfl) (by kernel_rfl) (fun _ _ _ h => h) (Or.inl ⟨by first | rfl | (go_simp; done), ?_⟩) hHeld ?_; rotate_left 1; (focus (intro w' hSw; go_simp; (try with_reducible rfl))); (try simp only [Act.put, List.setIfInBounds_toArray, List.set_cons_zero, List.set_cons_succ]))
      (refine wpAnyS_takeD (i := 31) (v := ?_) rfl (by kernel_rfl) (by kernel_rfl) (by kernel_rfl) (by kernel_rfl) (by kernel_rfl) (fun _ _ _ h => h) (Or.inl ⟨by first | rfl | (go_simp; done), ?_⟩) hHeld ?_; rotate_left 1; (focus (intro w' hSw; (try dsimp only at hSw); go_simp; (try with_reducible rfl))); (try simp only [Act.put, List.setIfInBounds_toArray, List.set_cons_zero, List.set_cons_succ]))
      (refine wpAnyS_takeW (i := 33) (v := ?_) rfl (by kernel_rfl) (by kernel_rfl) (by kernel_rfl) (by kernel_rfl) (fun _ _ _ h => h) (Or.inl ⟨by first | rfl | (go_simp; done), ?_⟩) hHeld ?_; rotate_left 1; (focus (intro w' hSw; go_simp; (try with_reducible rfl))); (try simp only [Act.put, List.setIfInBounds_toArray, List.set_cons_zero, List.set_cons_succ]))
      (refine wpAnyS_takeW (i := 34) (v := ?_) rfl (by kernel_rfl) (by kernel_rfl) (by kernel_rfl) (by kernel_rfl) (fun _ _ _ h => h) (Or.inl ⟨by first | rfl | (go_simp; done), ?_⟩) hHeld ?_; rotate_left 1; (focus (intro w' hSw; go_simp; (try with_reducible rfl))); (try simp only [Act.put, List.setIfInBounds_toArray, List.set_cons_zero, List.set_cons_succ]))
      (refine wpAnyS_takeW (i := 35) (v := ?_) rfl (by kernel_rfl) (by kernel_rfl) (by kernel_rfl) (by kernel_rfl) (fun _ _ _ h => h) (Or.inl ⟨by first | rfl | (go_simp; done), ?_⟩) hHeld ?_; rotate_left 1; (focus (intro w' hSw; go_simp; (try with_reducible rfl))); (try simp only [Act.put, List.setIfInBounds_toArray, List.set_cons_zero, List.set_cons_succ]))
      (refine wpAnyS_takeW (i := 36) (v := ?_) rfl (by kernel_rfl) (by kernel_rfl) (by kernel_rfl) (by kernel_rfl) (fun _ _ _ h => h) (Or.inl ⟨by first | rfl | (go_simp; done), ?_⟩) hHeld ?_; rotate_left 1; (focus (intro w' hSw; go_simp; (try with_reducible rfl))); (try simp only [Act.put, List.setIfInBounds_toArray, List.set_cons_zero, List.set_cons_succ]))
      (refine wpAnyS_takeW (i := 37) (v := ?_) rfl (by kernel_rfl) (by kernel_rfl) (by kernel_rfl) (by kernel_rfl) (fun _ _ _ h => h) (Or.inl ⟨by first | rfl | (go_simp; done), ?_⟩) hHeld ?_; rotate_left 1; (focus (intro w' hSw; go_simp; (try with_reducible rfl))); (try simp only [Act.put, List.setIfInBounds_toArray, List.set_cons_zero, List.set_cons_succ]))
      (refine wpAnyS_takeD (i := 38) (v := ?_) rfl (by kernel_rfl) (by kernel_rfl) (by kernel_rfl) (by kernel_rfl) (by kernel_rfl) (fun _ _ _ h => h) (Or.inl ⟨by first | rfl | (go_simp; done), ?_⟩) hHeld ?_; rotate_left 1; (focus (intro w' hSw; (try dsimp only at hSw); go_simp; (try with_reducible rfl))); (try simp only [Act.put, List.setIfInBounds_toArray, List.set_cons_zero, List.set_cons_succ]))
      (refine wpAnyS_ready (rs := [32]) (by kernel_rfl) (by simp) ?_; refine AllS.consL rfl (fun K hK => ?_) AllS.nil)
      (go_simp; go_at_call 18; refine (stamp_g g B G6 qid _ HB9.out.gg.r).mono ?_; rintro e w' ⟨rfl, h10⟩; go_wp2_with fail)
      have HB10 := Mx.hid (HB9.out.keep h10)
      clear h10
      (refine hK.out _ _ ?_ (fun hHeld => ?_); (focus ((try dsimp only); exact ⟨(HC3.out _ HB10.out.law).1, HB10.out.xg.c0⟩)); clear hK K; (try simp only [Act.put, List.setIfInBounds_toArray, List.set_cons_zero, List.set_cons_succ]))
      obtain ⟨w10, rfl⟩ : ∃ W : World, W = w' := ⟨_, rfl⟩
      (refine wpAnyS_ready (rs := [39]) (by kernel_rfl) (by simp) ?_; refine AllS.consL rfl (fun K hK => ?_) AllS.nil)
      (go_simp; go_at_call 29; refine (xstamp_any gx _ _ _ _ PV6 qid _ HB10.out.xg).mono ?_; rintro e w' ⟨rfl, h11⟩; go_wp2_with fail)
      have HB11 := Mx.hid (HB10.out.keep h11)
      clear h11
      (refine hK.out _ _ ?_ (fun hHeld => ?_); (focus ((try dsimp only); exact ⟨(HC3.out _ HB11.out.law).1, HB11.out.xg.c0⟩)); clear hK K; (try simp only [Act.put, List.setIfInBounds_toArray, List.set_cons_zero, List.set_cons_succ]))
      obtain ⟨w11, rfl⟩ : ∃ W : World, W = w' := ⟨_, rfl⟩
      generalize stampL (List.map (fun x => x.2) G6) qid = z1 at *
      (refine wpAnyS_takeW (i := 40) (v := ?_) rfl (by kernel_rfl) (by kernel_rfl) (by kernel_rfl) (by kernel_rfl) (fun _ _ _ h => h) (Or.inl ⟨by first | rfl | (go_simp; done), ?_⟩) hHeld ?_; rotate_left 1; (focus (intro w' hSw; go_simp; (try with_reducible rfl))); (try simp only [Act.put, List.setIfInBounds_toArray, List.set_cons_zero, List.set_cons_succ]))
      (refine wpAnyS_takeW (i := 41) (v := ?_) rfl (by kernel_rfl) (by kernel_rfl) (by kernel_rfl) (by kernel_rfl) (fun _ _ _ h => h) (Or.inl ⟨by first | rfl | (go_simp; done), ?_⟩) hHeld ?_; rotate_left 1; (focus (intro w' hSw; go_simp; (try with_reducible rfl))); (try simp only [Act.put, List.setIfInBounds_toArray, List.set_cons_zero, List.set_cons_succ]))
      (refine wpAnyS_takeW (i := 42) (v := ?_) rfl (by kernel_rfl) (by kernel_rfl) (by kernel_rfl) (by kernel_rfl) (fun _ _ _ h => h) (Or.inl ⟨by first | rfl | (go_simp; done), ?_⟩) hHeld ?_; rotate_left 1; (focus (intro w' hSw; go_simp; (try with_reducible rfl))); (try simp only [Act.put, List.setIfInBounds_toArray, List.set_cons_zero, List.set_cons_succ]))
      (refine wpAnyS_takeW (i := 43) (v := ?_) rfl (by kernel_rfl) (by kernel_rfl) (by kernel_rfl) (by kernel_rfl) (fun _ _ _ h => h) (Or.inl ⟨by first | rfl | (go_simp; done), ?_⟩) hHeld ?_; rotate_left 1; (focus (intro w' hSw; go_simp; (try with_reducible rfl))); (try simp only [Act.put, List.setIfInBounds_toArray, List.set_cons_zero, List.set_cons_succ]))
      (refine wpAnyS_takeW (i := 44) (v := ?_) rfl (by kernel_rfl) (by kernel_rfl) (by kernel_rfl) (by kernel_rfl) (fun _ _ _ h => h) (Or.inl ⟨by first | rfl | (go_simp; done), ?_⟩) hHeld ?_; rotate_left 1; (focus (intro w' hSw; go_simp; (try with_reducible rfl))); (try simp only [Act.put, List.setIfInBounds_toArray, List.set_cons_zero, List.set_cons_succ]))
      (refine wpAnyS_takeW (i := 45) (v := ?_) rfl (by kernel_rfl) (by kernel_rfl) (by kernel_rfl) (by kernel_rfl) (fun _ _ _ h => h) (Or.inl ⟨by first | rfl | (go_simp; done), ?_⟩) hHeld ?_; rotate_left 1; (focus (intro w' hSw; go_simp; (try with_reducible rfl))); (try simp only [Act.put, List.setIfInBounds_toArray, List.set_cons_zero, List.set_cons_succ]))
      (refine wpAnyS_takeW (i := 46) (v := ?_) rfl (by kernel_rfl) (by kernel_rfl) (by kernel_rfl) (by kernel_rfl) (fun _ _ _ h => h) (Or.inl ⟨by first | rfl | (go_simp; done), ?_⟩) hHeld ?_; rotate_left 1; (focus (intro w' hSw; go_simp; (try with_reducible rfl))); (try simp only [Act.put, List.setIfInBounds_toArray, List.set_cons_zero, List.set_cons_succ]))
      (refine wpAnyS_takeW (i := 47) (v := ?_) rfl (by kernel_rfl) (by kernel_rfl) (by kernel_rfl) (by kernel_rfl) (fun _ _ _ h => h) (Or.inl ⟨by first | rfl | (go_simp; done), ?_⟩) hHeld ?_; rotate_left 1; (focus (intro w' hSw; go_simp; (try with_reducible rfl))); (try simp only [Act.put, List.setIfInBounds_toArray, List.set_cons_zero, List.set_cons_succ]))
      (refine wpAnyS_takeD (i := 48) (v := ?_) rfl (by kernel_rfl) (by kernel_rfl) (by kernel_rfl) (by kernel_rfl) (by kernel_rfl) (fun _ _ _ h => h) (Or.inl ⟨by first | rfl | (go_simp; done), ?_⟩) hHeld ?_; rotate_left 1; (focus (intro w' hSw; (try dsimp only at hSw); go_simp; (try with_reducible rfl))); (try simp only [Act.put, List.setIfInBounds_toArray, List.set_cons_zero, List.set_cons_succ]))
      (refine wpAnyS_takeW (i := 50) (v := ?_) rfl (by kernel_rfl) (by kernel_rfl) (by kernel_rfl) (by kernel_rfl) (fun _ _ _ h => h) (Or.inl ⟨by first | rfl | (go_simp; done), ?_⟩) hHeld ?_; rotate_left 1; (focus (intro w' hSw; go_simp; (try with_reducible rfl))); (try simp only [Act.put, List.setIfInBounds_toArray, List.set_cons_zero, List.set_cons_succ]))
      (refine wpAnyS_takeW (i := 51) (v := ?_) rfl (by kernel_rfl) (by kernel_rfl) (by kernel_rfl) (by kernel_rfl) (fun _ _ _ h => h) (Or.inl ⟨by first | rfl | (go_simp; done), ?_⟩) hHeld ?_; rotate_left 1; (focus (intro w' hSw; go_simp; (try with_reducible rfl))); (try simp only [Act.put, List.setIfInBounds_toArray, List.set_cons_zero, List.set_cons_succ]))
      (refine wpAnyS_takeW (i := 52) (v := ?_) rfl (by kernel_rfl) (by kernel_rfl) (by kernel_rfl) (by kernel_rfl) (fun _ _ _ h => h) (Or.inl ⟨by first | rfl | (go_simp; done), ?_⟩) hHeld ?_; rotate_left 1; (focus (intro w' hSw; go_simp; (try with_reducible rfl))); (try simp only [Act.put, List.setIfInBounds_toArray, List.set_cons_zero, List.set_cons_succ]))
      (refine wpAnyS_takeW (i := 53) (v := ?_) rfl (by kernel_rfl) (by kernel_rfl) (by kernel_rfl) (by kernel_rfl) (fun _ _ _ h => h) (Or.inl ⟨by first | rfl | (go_simp; done), ?_⟩) hHeld ?_; rotate_left 1; (focus (intro w' hSw; go_simp; (try with_reducible rfl))); (try simp only [Act.put, List.setIfInBounds_toArray, List.set_cons_zero, List.set_cons_succ]))
      (refine wpAnyS_takeW (i := 54) (v := ?_) rfl (by kernel_rfl) (by kernel_rfl) (by kernel_rfl) (by kernel_rfl) (fun _ _ _ h => h) (Or.inl ⟨by first | rfl | (go_simp; done), ?_⟩) hHeld ?_; rotate_left 1; (focus (intro w' hSw; go_simp; (try with_reducible rfl))); (try simp only [Act.put, List.setIfInBounds_toArray, List.set_cons_zero, List.set_cons_succ]))
      (refine wpAnyS_takeD (i := 55) (v := ?_) rfl (by kernel_rfl) (by kernel_rfl) (by kernel_rfl) (by kernel_rfl) (by kernel_rfl) (fun _ _ _ h => h) (Or.inl ⟨by first | rfl | (go_simp; done), ?_⟩) hHeld ?_; rotate_left 1; (focus (intro w' hSw; (try dsimp only at hSw); go_simp; (try with_reducible rfl))); (try simp only [Act.put, List.setIfInBounds_toArray, List.set_cons_zero, List.set_cons_succ]))
      (refine wpAnyS_ready (rs := [49]) (by kernel_rfl) (by simp) ?_; refine AllS.consL rfl (fun K hK => ?_) AllS.nil)
      (go_simp; go_at_call 23; refine (parents_g g B G6 qid _ HB11.out.gg.r).mono ?_; rintro e w' ⟨vg, rfl, h12⟩; go_wp2_with fail)
      have HB12 := Mx.hid (HB11.out.addF h12)
      clear h12
      (refine hK.out _ _ ?_ (fun hHeld => ?_); (focus ((try dsimp only); exact ⟨(HC3.out _ HB12.out.law).1, HB12.out.xg.c0⟩)); clear hK K; (try simp only [Act.put, List.setIfInBounds_toArray, List.set_cons_zero, List.set_cons_succ]))
      obtain ⟨w12, rfl⟩ : ∃ W : World, W = w' := ⟨_, rfl⟩
      (refine wpAnyS_ready (rs := [56]) (by kernel_rfl) (by simp) ?_; refine AllS.consL rfl (fun K hK => ?_) AllS.nil)
      (go_simp; go_at_call 30; refine (xpars_any gx _ _ _ _ PV6 qid _ HB12.out.xg HNX.out).mono ?_; rintro e w' ⟨vx, rfl, h13⟩; go_wp2_with fail)
      have HB13 := Mx.hid (HB12.out.addF h13)
      clear h13
      have HT13 := Mx.hid (texts_same _ _ _ _ _ (HB13.out.st.rd _ (List.mem_cons_of_mem _ (List.mem_cons_self ..))) (HB13.out.st.rd _ (List.mem_cons_self ..)) (Mx.hid rfl))
      (refine hK.out _ _ ?_ (fun hHeld => ?_); (focus ((try dsimp only); exact ⟨(HC3.out _ HB13.out.law).1, HB13.out.xg.c0⟩)); clear hK K; (try simp only [Act.put, List.setIfInBounds_toArray, List.set_cons_zero, List.set_cons_succ]))
      obtain ⟨w13, rfl⟩ : ∃ W : World, W = w' := ⟨_, rfl⟩
      (refine wpAnyS_ready (rs := [57]) (by kernel_rfl) (by simp) ?_; refine AllS.consL rfl (fun K hK => ?_) AllS.nil)
      (go_simp; go_at_call 12; refine (HT13.out).mono ?_; rintro e w' ⟨rfl, h14⟩; go_wp2_with fail)
      have HB14 := Mx.hid (HB13.out.keep h14)
      clear h14 HT13
      (refine hK.out _ _ ?_ (fun hHeld => ?_); (focus ((try dsimp only); exact ⟨(HC3.out _ HB14.out.law).1, HB14.out.xg.c0⟩)); clear hK K; (try simp only [Act.put, List.setIfInBounds_toArray, List.set_cons_zero, List.set_cons_succ]))
      obtain ⟨w14, rfl⟩ : ∃ W : World, W = w' := ⟨_, rfl⟩
      (refine wpAnyS_takeW (i := 58) (v := ?_) rfl (by kernel_rfl) (by kernel_rfl) (by kernel_rfl) (by kernel_rfl) (fun _ _ _ h => h) (Or.inl ⟨by first | rfl | (go_simp; done), ?_⟩) hHeld ?_; rotate_left 1; (focus (intro w' hSw; go_simp; (try with_reducible rfl))); (try simp only [Act.put, List.setIfInBounds_toArray, List.set_cons_zero, List.set_cons_succ]))
      (refine wpAnyS_seq (by rfl) (by kernel_rfl) ?_; simp only [List.drop_succ_cons, List.drop_zero])
      clear hHeld HB8 HB9 HB10 HB11 HB12 HB13
      go_wp2_with fail
      exact ⟨⟨i + 1, G6, PV6, _, vp6, vs6, _, wb6, by go_num, by omega, HGL6, HB14⟩, by simp [intOf]; omega⟩
    · have h40 : G.length ≤ 40 := by have := HGL.out; have := HB.out.1; omega
      have HSI := Mx.hid (HBW.out.law.old HV.out)
      have HBK := Mx.hid (fun W Q' (h : St wr W [] Q') => HBW.out.keep h.bare)
      have HLW := Mx.hid HBW.out.law
      obtain ⟨_, _, ab, af, hvv, _, _, _, hac⟩ := HSI.out.txt
      have HAC := Mx.hid hac
      cases hvv
      clear hac
      go_wp2_with fail
      clear hlt HC HP HK HB HGL
      refine (copyTexts_any _ ids wr HSI.out (by omega)).mono ?_
      rintro e u0 ⟨vn, rfl, k0⟩
      have q0 := ((St.refl wr).call1 k0).freeze
      simp only [] at q0
      clear k0
      go_wp2_with fail
      refine (anc_u (HBK.out _ _ q0).gg (q0.rd ⟨vn, 1, ids.length, ss ids⟩ (by simp)) (by omega)).mono ?_
      rintro e u1 ⟨v1, N1, ε1, rfl, k1, a1⟩
      have q1 := (q0.call1 k1).freeze
      simp only [] at q1
      clear k1
      go_wp2_with fail
      refine (xanc_u (HBK.out _ _ q1).xg (HBK.out _ _ q1).wf (HBK.out _ _ q1).len (q1.old HSI.out) (by omega)).mono ?_
      rintro e u2 ⟨v2, N2, ε2, rfl, k2, a2⟩
      have q2 := (q1.call1 k2).freeze
      simp only [] at q2
      obtain ⟨rfl, rfl⟩ := a1.uniq a2
      clear k2 a1 a2 q1 q0
      go_wp2_with fail
      refine (bases_u (HBK.out _ _ q2).gg (q2.rd ⟨vn, 1, ids.length, ss ids⟩ (by simp)) (by omega)).mono ?_
      rintro e u3 ⟨v3, N3, ε3, rfl, k3, a3⟩
      have q3 := (q2.call1 k3).freeze
      simp only [] at q3
      clear k3
      go_wp2_with fail
      refine (xbases_u (HBK.out _ _ q3).xg (HBK.out _ _ q3).wf (HBK.out _ _ q3).len (HBK.out _ _ q3).few (q3.old HSI.out) (by omega)).mono ?_
      rintro e u4 ⟨v4, N4, ε4, rfl, k4, a4⟩
      have q4 := (q3.call1 k4).freeze
      simp only [] at q4
      obtain ⟨rfl, rfl⟩ := a3.uniq a4
      clear k4 a3 a4 q3 q2
      go_wp2_with fail
      refine (tops_u (HBK.out _ _ q4).gg (q4.rd ⟨vn, 1, ids.length, ss ids⟩ (by simp)) (by omega)).mono ?_
      rintro e u5 ⟨v5, N5, ε5, rfl, k5, a5⟩
      have q5 := (q4.call1 k5).freeze
      simp only [] at q5
      clear k5
      go_wp2_with fail
      refine (xtops_u (HBK.out _ _ q5).xg (HBK.out _ _ q5).wf (HBK.out _ _ q5).len (HBK.out _ _ q5).few (q5.old HSI.out) (by omega)).mono ?_
      rintro e u6 ⟨v6, N6, ε6, rfl, k6, a6⟩
      have q6 := (q5.call1 k6).freeze
      simp only [] at q6
      obtain ⟨rfl, rfl⟩ := a5.uniq a6
      clear k6 a5 a6 q5 q4
      go_wp2_with fail
      refine (order_u (HBK.out _ _ q6).gg h40 (q6.rd ⟨vn, 1, ids.length, ss ids⟩ (by simp)) (by omega)).mono ?_
      rintro e u7 ⟨v7, N7, ε7, rfl, k7, a7⟩
      have q7 := (q6.call1 k7).freeze
      simp only [] at q7
      clear k7
      go_wp2_with fail
      refine (xorder_u (HBK.out _ _ q7).xg (HBK.out _ _ q7).wf (HBK.out _ _ q7).len (q7.old HSI.out) (by omega)).mono ?_
      rintro e u8 ⟨v8, N8, ε8, rfl, k8, a8⟩
      have q8 := (q7.call1 k8).freeze
      simp only [] at q8
      obtain ⟨rfl, rfl⟩ := a7.uniq a8
      clear k8 a7 a8 q7 q6
      have hk := St.refl u8
      have HT1 := Mx.hid (fun W (h : St u8 W [] []) => texts_same v1 v2 N1 N1 W (h.old (q8.rd ⟨v1, 1, N1.length, ss N1⟩ (by simp))) (h.old (q8.rd ⟨v2, 1, N1.length, ss N1⟩ (by simp))) (Mx.hid rfl))
      have HT3 := Mx.hid (fun W (h : St u8 W [] []) => texts_same v3 v4 N3 N3 W (h.old (q8.rd ⟨v3, 1, N3.length, ss N3⟩ (by simp))) (h.old (q8.rd ⟨v4, 1, N3.length, ss N3⟩ (by simp))) (Mx.hid rfl))
      have HT5 := Mx.hid (fun W (h : St u8 W [] []) => texts_same v5 v6 N5 N5 W (h.old (q8.rd ⟨v5, 1, N5.length, ss N5⟩ (by simp))) (h.old (q8.rd ⟨v6, 1, N5.length, ss N5⟩ (by simp))) (Mx.hid rfl))
      have HT7 := Mx.hid (fun W (h : St u8 W [] []) => texts_same v7 v8 N7 N7 W (h.old (q8.rd ⟨v7, 1, N7.length, ss N7⟩ (by simp))) (h.old (q8.rd ⟨v8, 1, N7.length, ss N7⟩ (by simp))) (Mx.hid rfl))
      have HT9 := Mx.hid (fun W (h : St u8 W [] []) => texts_same vn _ ids ids W (h.old (q8.rd ⟨vn, 1, ids.length, ss ids⟩ (by simp))) (h.old (q8.old HSI.out)) (Mx.hid rfl))
      have HBU := Mx.hid (HBK.out _ _ q8)
      have HLU := Mx.hid (HLW.out.call0 q8.bare)
      have HAU := Mx.hid (fun (k : Nat) (hk : k < ids.length) => q8.keep (HAC.out k hk).2)
      have HAV := Mx.hid (fun (hk : 0 < ids.length) => (HAC.out 0 hk).1)
      clear q8 HBK HLW HAC HBW
      go_wp2_with (first | ((with_reducible show wpList _ _ _ _ _ _); refine wpl_want rfl ?_) | (go_at_call 12; (with_reducible show Calls _ _ #[v1, v2] _ _); refine (HT1.out _ hk).mono ?_; rintro e w9 ⟨rfl, h9⟩; replace hk := hk.call0 h9; clear h9) | (go_at_call 12; (with_reducible show Calls _ _ #[v3, v4] _ _); refine (HT3.out _ hk).mono ?_; rintro e w9 ⟨rfl, h9⟩; replace hk := hk.call0 h9; clear h9) | (go_at_call 12; (with_reducible show Calls _ _ #[v5, v6] _ _); refine (HT5.out _ hk).mono ?_; rintro e w9 ⟨rfl, h9⟩; replace hk := hk.call0 h9; clear h9) | (go_at_call 12; (with_reducible show Calls _ _ #[v7, v8] _ _); refine (HT7.out _ hk).mono ?_; rintro e w9 ⟨rfl, h9⟩; replace hk := hk.call0 h9; clear h9) | (go_at_call 12; (with_reducible show Calls _ _ #[vn, _] _ _); refine (HT9.out _ hk).mono ?_; rintro e w9 ⟨rfl, h9⟩; replace hk := hk.call0 h9; clear h9))
      have HIG := Mx.hid (fun a W (h : St u8 W [] []) => is_c g B G a b W (HBU.out.keep h).gg)
      have HIX := Mx.hid (fun a W (h : St u8 W [] []) => xis_any gx _ _ _ _ PV a b W (HBU.out.keep h).xg (HBU.out.keep h).wf (by simpa using (HBU.out.keep h).len))
      by_cases hz0 : 0 < ids.length
      · obtain rfl := HAV.out hz0
        have HA0 := Mx.hid (fun W (h : St u8 W [] []) => (show W.cell? ⟨ab, af, none⟩ = some (.string ids[0]) from h.keep (HAU.out 0 hz0)))
        have HIG0 := Mx.hid (HIG.out ids[0])
        have HIX0 := Mx.hid (HIX.out ids[0])
        clear HIG HIX HAU
        generalize ids[0] = a0 at *
        generalize isB (List.map (fun x => x.2) G) a0 b = r1 at *
        have hl0 : ((ids.length : Int) == 0) = false := by rw [beq_eq_false_iff_ne]; omega
        have hl1 : ¬ (ids.length : Int) = 0 := by omega
        have hl2 : (0 : Int) < (ids.length : Int) := by omega
        go_wp2_with fail
        refine wp_region_C (fun W' => St u8 W' [] []) (by kernel_rfl) (by kernel_rfl) (by exact hk.drew) ?_
        repeat ((first | (refine cq_y0 (v := ?_) (by with_reducible rfl) ?_ ?_; rotate_left 1; (focus (intro wq hq; (try dsimp only at hq); (have y0 := HA0.out _ hq); go_simp; (first | done | with_reducible rfl | (go_at_call 8; refine (first_g _).mono ?_; rintro e w9 ⟨rfl, hk9⟩; refine ⟨?_, hq.call0 hk9⟩; with_reducible rfl) | (go_at_call 13; refine (HIG0.out _ hq).mono ?_; rintro e w9 ⟨rfl, hk9⟩; refine ⟨?_, hq.call0 hk9⟩; with_reducible rfl) | (go_at_call 35; refine (HIX0.out _ hq).mono ?_; rintro e w9 ⟨rfl, hk9⟩; refine ⟨?_, hq.call0 hk9⟩; with_reducible rfl))))) | (refine cq_no (by go_simp; first | done | (intro h9; cases h9)) ?_) | (refine cq_yes (v := ?_) (by go_simp) ?_ ?_; rotate_left 1; (focus (intro wq hq; (try dsimp only at hq); (have y0 := HA0.out _ hq); go_simp; (first | done | with_reducible rfl | (go_at_call 8; refine (first_g _).mono ?_; rintro e w9 ⟨rfl, hk9⟩; refine ⟨?_, hq.call0 hk9⟩; with_reducible rfl) | (go_at_call 13; refine (HIG0.out _ hq).mono ?_; rintro e w9 ⟨rfl, hk9⟩; refine ⟨?_, hq.call0 hk9⟩; with_reducible rfl) | (go_at_call 35; refine (HIX0.out _ hq).mono ?_; rintro e w9 ⟨rfl, hk9⟩; refine ⟨?_, hq.call0 hk9⟩; with_reducible rfl)))))); (try simp only [Act.put, List.setIfInBounds_toArray, List.set_cons_zero, List.set_cons_succ]))
        refine cq_nil ?_
        intro wq hq
        (try dsimp only at hq)
        go_wp2_with fail
        go_ret
        exact ⟨by simp, (HLU.out.call0 hq).below⟩
      · have hl1 : ids.length = 0 := by omega
        clear HIG HIX HAU
        go_wp2_with fail
        refine wp_region_C (fun W' => St u8 W' [] []) (by kernel_rfl) (by kernel_rfl) (by exact hk.drew) ?_
        repeat ((first | (refine cq_y0 (v := ?_) (by with_reducible rfl) ?_ ?_; rotate_left 1; (focus (intro wq hq; (try dsimp only at hq); skip; go_simp; (first | done | with_reducible rfl | (go_at_call 8; refine (first_g _).mono ?_; rintro e w9 ⟨rfl, hk9⟩; refine ⟨?_, hq.call0 hk9⟩; with_reducible rfl))))) | (refine cq_no (by go_simp; first | done | (intro h9; cases h9)) ?_) | (refine cq_yes (v := ?_) (by go_simp) ?_ ?_; rotate_left 1; (focus (intro wq hq; (try dsimp only at hq); skip; go_simp; (first | done | with_reducible rfl | (go_at_call 8; refine (first_g _).mono ?_; rintro e w9 ⟨rfl, hk9⟩; refine ⟨?_, hq.call0 hk9⟩; with_reducible rfl)))))); (try simp only [Act.put, List.setIfInBounds_toArray, List.set_cons_zero, List.set_cons_succ]))
        refine cq_nil ?_
        intro wq hq
        (try dsimp only at hq)
        go_wp2_with fail
        go_ret
        exact ⟨by simp, (HLU.out.call0 hq).below⟩
end Go.Proofs.Ytojbdlbcaoeffaa
