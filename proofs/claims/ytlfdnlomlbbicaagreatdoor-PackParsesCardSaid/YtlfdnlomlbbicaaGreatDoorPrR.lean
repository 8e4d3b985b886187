/- The walks of marref9.Parse, Index; PackParses. -/
import Derived.Test.YtlfdnlomlbbicaaGreatDoorJEPrG
import Derived.Test.YtlfdnlomlbbicaaGreatDoorJBPkO
import Derived.Test.YtlfdnlomlbbicaaGreatDoorJ28PkS
namespace Go.Mx
open Go Go.RowKit
def idxN (X : Int × List (List UInt8 × Nat) × List Nat) : Nat := if X.1 = 0 then X.2.1.length else 0
def idxC (X : Int × List (List UInt8 × Nat) × List Nat) : List Value := if X.1 = 0 then rws X.2.1 X.2.2 else []
theorem rws_at0 : ∀ (pre : List (List UInt8 × Nat)) (pl : List Nat) (k : Nat) (h : k < pre.length), pl.length = pre.length → (rws pre pl)[k * 3]? = some (.string (idB pre[k].1))
  | p :: pre, q :: pl, 0, _, _ => rfl
  | p :: pre, q :: pl, k + 1, h, hl => by
    rw [rws, show (k + 1) * 3 = (rwc p.1 q p.2).length + k * 3 by simp [rwc]; omega, List.getElem?_append_right (by omega), Nat.add_sub_cancel_left]
    exact rws_at0 pre pl k (by simpa using h) (by simpa using hl)
theorem rws_at1 : ∀ (pre : List (List UInt8 × Nat)) (pl : List Nat) (k : Nat) (h : k < pl.length), pl.length = pre.length → (rws pre pl)[k * 3 + 1]? = some (.int .i64 (pl[k] : Int))
  | [], _ :: _, _, _, hl => by simp at hl
  | p :: pre, q :: pl, 0, _, _ => rfl
  | p :: pre, q :: pl, k + 1, h, hl => by
    rw [rws, show (k + 1) * 3 + 1 = (rwc p.1 q p.2).length + (k * 3 + 1) by simp [rwc]; omega, List.getElem?_append_right (by omega), Nat.add_sub_cancel_left]
    exact rws_at1 pre pl k (by simpa using h) (by simpa using hl)
/-- A row of an index: its three cells. -/
def IdxOk (X : Int × List (List UInt8 × Nat) × List Nat) : Prop := ∀ k, k < idxN X → ∃ (s : ByteArray) (p d : Nat), (idxC X)[k * 3]? = some (.string s) ∧ (idxC X)[k * 3 + 1]? = some (.int .i64 (p : Int)) ∧ (idxC X)[k * 3 + 2]? = some (.int .i64 (d : Int))
theorem idx_ok {X : Int × List (List UInt8 × Nat) × List Nat} (h : X.1 = 0 → X.2.2.length = X.2.1.length) : IdxOk X := by
  intro k hk
  unfold idxN at hk
  unfold idxC
  by_cases h0 : X.1 = 0
  · rw [if_pos h0] at hk
    rw [if_pos h0]
    have hl := h h0
    exact ⟨_, _, _, rws_at0 _ _ k hk hl, rws_at1 _ _ k (by omega) hl, rws_get _ _ k hk hl⟩
  · rw [if_neg h0] at hk; omega
end Go.Mx
namespace Go.Proofs.YtlfdnlomlbbicaaGreatDoor
open Go.RowKit Go.Mx
def IdxPost (w : World) (X : Int × List (List UInt8 × Nat) × List Nat) (e : Ending) (w' : World) : Prop :=
  ∃ v, e = .returned (.tuple #[v, .int .i64 X.1]) ∧ St w w' [] [] ∧ Sl w' 3 v (idxN X) (idxC X) ∧ IdxOk X
theorem pindex2 {w : World} {X : Int × List (List UInt8 × Nat) × List Nat} {e : Ending} {w' : World} (h : IndexPost w X e w') : IdxPost w X e w' := by
  unfold IdxPost idxN idxC
  rcases h with ⟨h0, hl, v, rfl, hs⟩ | ⟨h0, rfl, hs⟩
  · rw [if_pos h0, if_pos h0, h0]
    exact ⟨v, rfl, hs.bare, hs.sl0, idx_ok fun _ => hl⟩
  · rw [if_neg h0, if_neg h0]
    exact ⟨_, rfl, hs, Sl.nil _ 3, idx_ok fun h => absurd h h0⟩
theorem rparse2 (w : World) (v : Value) (b : List UInt8) (vi vso : Value) (l : List (List UInt8)) (lie : Bool) (hv : Sl w 1 v b.length (bs b)) (hb : b.length ≤ 140737488351232)
    (hi : Sl w 1 vi l.length (ss (idsT l lie))) (hso : LL w vso l) (hz : ∀ x ∈ l, x.length ≤ 140737488351232) :
    Calls Tryz.prog 14 #[v, stv vi vso] w (ParsePost w (rdPack (srcF l lie) b)) := by
  have HP := Mx.hid (fun wx (h : St w wx [] []) => rparse_any wx v b vi vso l lie (h.old hv) hb (h.old hi) (LL.old h hso) hz)
  obtain ⟨io, ic, rfl, _⟩ := id hi
  obtain ⟨so, sc, _, _, _, rfl, _⟩ := hso.at
  clear hv hi hso hz
  generalize rdPack (srcF l lie) b = X at *
  go_enter Tryz.func14, Tryz.ntmps14
  go_wp2_with fail
  have hx := (St.refl w).alloc (.cells #[.slice io l.length ic, .slice so l.length sc, .pointer none] 40)
  refine (HP.out _ hx).mono ?_
  unfold RParPost
  rintro e w1 ⟨vo, vw, rfl, hs, hc⟩
  replace hs := hx.call0 hs
  go_wp2_with fail
  go_ret3
  refine ⟨vo, rfl, hs, ?_⟩
  rcases hc with ⟨h0, _, hl, _⟩ | ⟨h0, rfl, _⟩
  · rw [if_pos h0]; exact hl
  · rw [if_neg h0]; exact LL.nil _
theorem rindex2 (w : World) (v : Value) (b : List UInt8) (vi vso : Value) (l : List (List UInt8)) (lie : Bool) (hv : Sl w 1 v b.length (bs b)) (hb : b.length ≤ 140737488351232)
    (hi : Sl w 1 vi l.length (ss (idsT l lie))) (hso : LL w vso l) (hz : ∀ x ∈ l, x.length ≤ 140737488351232) :
    Calls Tryz.prog 17 #[v, stv vi vso] w (IdxPost w (rdPack (srcF l lie) b)) := by
  have HP := Mx.hid (fun wx (h : St w wx [] []) => rparse_any wx v b vi vso l lie (h.old hv) hb (h.old hi) (LL.old h hso) hz)
  obtain ⟨io, ic, rfl, _⟩ := id hi
  obtain ⟨so, sc, _, _, _, rfl, _⟩ := hso.at
  clear hv hi hso hz
  generalize rdPack (srcF l lie) b = X at *
  go_enter Tryz.func17, Tryz.ntmps17
  go_wp2_with fail
  have hx := (St.refl w).alloc (.cells #[.slice io l.length ic, .slice so l.length sc, .pointer none] 40)
  refine (HP.out _ hx).mono ?_
  unfold RParPost
  rintro e w1 ⟨vo, vw, rfl, hs, hc⟩
  replace hs := hx.call0 hs
  go_wp2_with fail
  go_ret2
  refine ⟨vw, rfl, hs, ?_⟩
  unfold idxN idxC
  rcases hc with ⟨h0, hl, _, hw⟩ | ⟨h0, _, rfl⟩
  · rw [if_pos h0, if_pos h0]; exact ⟨hw, idx_ok fun _ => hl⟩
  · rw [if_neg h0, if_neg h0]; exact ⟨Sl.nil _ 3, idx_ok fun h => absurd h h0⟩
theorem src_base (g2 g3 g5 : Nat) (l : List (List UInt8)) (lie : Bool) (w : World) (h : SM w g2 g3 g5 l lie) (hz : ∀ x ∈ l, x.length ≤ 140737488351232) (hl : l.length ≤ 1000000) :
    BaseOk 29 #[.pointer (some ⟨g2, 0, none⟩), .pointer (some ⟨g3, 0, none⟩), .pointer (some ⟨g5, 0, none⟩)] (srcF l lie) w where
  ent args w := by
    have hf := Tryz.func29
    have h1 : Tryz.f29.name ≠ "runtime.NumGoroutine" := by decide +kernel
    have h2 : Tryz.f29.body.isNone = false := by kernel_rfl
    have h3 : ¬ Tryz.f29.body = none := fun h => by rw [h] at h2; cases h2
    simp [callFunc, hf, h1, h3]
  ans w R Q id hs := src_any g2 g3 g5 l lie id w (h.keep hs) hz hl
set_option maxRecDepth 200000 in
set_option maxHeartbeats 4000000 in
theorem packParsesRow (vb : Value) (b : List UInt8) {w : World} (hb : Sl w 1 vb b.length (bs b)) (vl : Value) (l : List (List UInt8)) (hl : LL w vl l) (hz : ∀ x ∈ l, x.length ≤ reachBytes) (lie : Bool) (_w : World) (hLd : Laid w) (hId : IndexOk w) :
    Calls Tryz.prog 4 #[vb, vl, .bool lie] w fun e w' => e = .returned (.bool true) ∧ Below w.heap.size w w' := by
  have HL := Mx.hid (fun w' (h : St w w' [] []) => hLd.keep h)
  have HI := Mx.hid (fun w' (h : St w w' [] []) => hId.keep h)
  have HB := Mx.hid hb
  have HV := Mx.hid hl
  have HZ := Mx.hid hz
  obtain ⟨bo, bc, rfl, _⟩ := id hb
  obtain ⟨lo, lc, _, _, _, rfl, _⟩ := hl.at
  clear hb hl hz hLd hId
  go_enter Tryz.func4, Tryz.ntmps4
  go_wp2_with fail
  refine (first10_any _ (HL.out _ (St.refl w)) (HI.out _ (St.refl w))).mono ?_
  rintro e w1 ⟨rfl, hk⟩
  by_cases hb6 : 6000 < b.length
  · have d1 : decide ((6000 : Int) < (b.length : Int)) = true := decide_eq_true (by omega)
    clear hb6
    go_wp2_with (first | ((with_reducible show wpList _ _ _ _ _ _); refine wpl_want rfl ?_) | (go_at_call 5; refine (first10_any _ (HL.out _ hk.bare) (HI.out _ hk.bare)).mono ?_; rintro e wf ⟨rfl, hkf⟩; replace hk := hk.call0 hkf))
    go_ret
    exact ⟨rfl, hk.below⟩
  have d1 : decide ((6000 : Int) < (b.length : Int)) = false := decide_eq_false (by omega)
  have hbl : b.length ≤ 6000 := by omega
  clear hb6
  go_wp2_with (first | ((with_reducible show wpList _ _ _ _ _ _); refine wpl_want rfl ?_))
  refine (few10_any _ l _ (LL.old hk HV.out) (fun x hx => by have := HZ.out x hx; unfold reachBytes at this; omega)).mono ?_
  rintro e w2 ⟨b1, rfl, hk2, hb1⟩
  replace hk := hk.call0 hk2
  clear hk2
  cases b1 with
  | false =>
    go_wp2_with (first | ((with_reducible show wpList _ _ _ _ _ _); refine wpl_want rfl ?_) | (go_at_call 5; refine (first10_any _ (HL.out _ hk.bare) (HI.out _ hk.bare)).mono ?_; rintro e wf ⟨rfl, hkf⟩; replace hk := hk.call0 hkf))
    go_ret
    exact ⟨rfl, hk.below⟩
  | true =>
  obtain ⟨hl40, hl15, _⟩ := hb1 rfl
  clear hb1 d1
  have H15 := Mx.hid hl15
  have HLZ := Mx.hid (show ∀ x ∈ l, x.length ≤ 140737488351232 from fun x hx => by have := hl15 x hx; omega)
  have HFZ := Mx.hid (show ∀ (id : ByteArray) (x : List UInt8), srcF l lie id = some x → x.length ≤ 1000000000 from fun id x h => by have := hl15 x (srcI_mem h); omega)
  clear hl15
  go_wp2_with (first | ((with_reducible show wpList _ _ _ _ _ _); refine wpl_want rfl ?_))
  refine (copyBytes_any _ b _ (hk.old HB.out) (by omega)).mono ?_
  rintro e w3 ⟨vin, rfl, hkc⟩
  replace hk := hk.call1 hkc
  clear hkc
  obtain ⟨X, hX⟩ : ∃ X, rdPack (srcF l lie) b = X := ⟨_, rfl⟩
  have HX := Mx.hid hX
  clear hX
  go_wp2_with fail
  refine (source_any _ l lie _ (LL.old hk HV.out) HLZ.out (by omega)).mono ?_
  unfold SourcePost
  rintro e w4 ⟨g2, g3, g5, rfl, hk4, hsm⟩
  replace hk := hk.call0 hk4
  clear hk4
  go_wp2_with fail
  refine (pparse_any w4 vin b _ _ (srcF l lie) hk.sl0 (by omega) (src_base g2 g3 g5 l lie w4 hsm HLZ.out (by omega)) HFZ.out (HL.out _ hk.bare)).mono ?_
  unfold ParsePost
  rw [HX.out]
  rintro e w5 ⟨x1, rfl, hk5, hx1⟩
  have HX1 := Mx.hid hx1
  replace hk := hk.call0 hk5
  clear hk5 hsm hx1
  go_wp2_with fail
  refine (told_any _ l lie _ (LL.old hk HV.out) HLZ.out (by omega)).mono ?_
  unfold ToldPost
  rintro e w6 ⟨vi, vo, rfl, hk6, hi6, ho6⟩
  have HX1b := Mx.hid (LL.old hk6 HX1.out)
  replace hk := hk.call0 hk6
  clear hk6
  go_wp2_with fail
  refine (rparse2 w6 _ b vi vo l lie (hk.old HB.out) (by omega) hi6 ho6 HLZ.out).mono ?_
  unfold ParsePost
  rw [HX.out]
  rintro e w7 ⟨x2, rfl, hk7, hx2⟩
  have HX1c := Mx.hid (LL.old hk7 HX1b.out)
  have HX2 := Mx.hid hx2
  replace hk := hk.call0 hk7
  clear hk7 hx2 hi6 ho6 HX1 HX1b
  go_wp2_with fail
  refine (source_any _ l lie _ (LL.old hk HV.out) HLZ.out (by omega)).mono ?_
  unfold SourcePost
  rintro e w8 ⟨h2, h3, h5, rfl, hk8, hsm⟩
  have HX1d := Mx.hid (LL.old hk8 HX1c.out)
  have HX2b := Mx.hid (LL.old hk8 HX2.out)
  replace hk := hk.call0 hk8
  clear hk8 HX1c HX2
  go_wp2_with fail
  refine (pindex_any w8 vin b _ _ (srcF l lie) hk.sl0 (by omega) (src_base h2 h3 h5 l lie w8 hsm HLZ.out (by omega)) HFZ.out (HL.out _ hk.bare)).mono ?_
  rw [HX.out]
  intro e w9 he
  obtain ⟨p1, rfl, hk9, hp1, hok⟩ := pindex2 he
  have HX1e := Mx.hid (LL.old hk9 HX1d.out)
  have HX2c := Mx.hid (LL.old hk9 HX2b.out)
  have HP1 := Mx.hid hp1
  have HOK : Hid (∀ k, k < idxN X → ∃ (s : ByteArray) (p d : Nat), (idxC X)[k * 3]? = some (.string s) ∧ (idxC X)[k * 3 + 1]? = some (.int .i64 (p : Int)) ∧ (idxC X)[k * 3 + 2]? = some (.int .i64 (d : Int))) := Mx.hid hok
  replace hk := hk.call0 hk9
  clear hk9 he hp1 hsm HX1d HX2b hok
  go_wp2_with fail
  refine (told_any _ l lie _ (LL.old hk HV.out) HLZ.out (by omega)).mono ?_
  unfold ToldPost
  rintro e wA ⟨vi2, vo2, rfl, hkA, hiA, hoA⟩
  have HX1f := Mx.hid (LL.old hkA HX1e.out)
  have HX2d := Mx.hid (LL.old hkA HX2c.out)
  have HP1b := Mx.hid (hkA.old HP1.out)
  replace hk := hk.call0 hkA
  clear hkA HX1e HX2c HP1
  go_wp2_with fail
  refine (rindex2 wA _ b vi2 vo2 l lie (hk.old HB.out) (by omega) hiA hoA HLZ.out).mono ?_
  rw [HX.out]
  unfold IdxPost
  rintro e wB ⟨q1, rfl, hkB, hq1, _⟩
  have HX1g := Mx.hid (LL.old hkB HX1f.out)
  have HX2e := Mx.hid (LL.old hkB HX2d.out)
  have hp1 := hkB.old HP1b.out
  replace hk := hk.call0 hkB
  clear hkB HX1f HX2d HP1b hiA hoA HX
  have HLS := Mx.hid (fun (wx : World) (h : St wB wx [] []) => lists_same x1 x2 _ wx (LL.old h HX1g.out) (LL.old h HX2e.out))
  have hE : (X.1 != X.1) = false := by simp
  have hN : ((X.2.1.length : Int) != (X.2.1.length : Int)) = false := by simp
  generalize X.1 = er at *
  generalize X.2.1.length = nn at *
  generalize idxN X = N at *
  generalize idxC X = C at *
  obtain ⟨po, pc, rfl, hN1, hN2, _, _, hpc⟩ := hp1.form
  have hNb : N ≤ 9223372036854775807 := by unfold maxLen at hN2; omega
  obtain ⟨qo, qc, rfl, _, _, _, _, hqc⟩ := hq1.form
  have HPC := Mx.hid hpc
  have HQC := Mx.hid hqc
  have hNN : ((N : Int) != (N : Int)) = false := by simp
  have HBY := Mx.hid (fun (wx : World) (h : St wB wx [] []) => (bytes_any vin _ b b wx ((hk.call0 h).sl0) ((hk.call0 h).old HB.out)).mono fun e w' g => (show e = .returned (.bool true) ∧ wx = w' by rw [decide_eq_true (rfl : b = b)] at g; exact g))
  have HK := Mx.hid hk
  clear hpc hqc hp1 hq1 hk
  go_wp2_with (first | ((with_reducible show wpList _ _ _ _ _ _); refine wpl_want rfl ?_) | (go_at_call 11; refine (HLS.out _ (St.refl wB)).mono ?_; rintro e wC ⟨rfl, hkC⟩) | (go_at_call 10; refine (HBY.out _ hkC).mono ?_; rintro e wD ⟨rfl, rfl⟩))
  have HKC := Mx.hid hkC
  clear hkC HLS HBY
  go_loopw [18] (fun y wr => ∃ i : Nat, y = .int .i64 i ∧ i ≤ N ∧ St wB wr [] []) (fun y _ => N - (intOf y).toNat)
  case atStart => exact ⟨0, rfl, by omega, HKC.out⟩
  case round =>
    clear HKC
    obtain ⟨i, rfl, hi, hs⟩ := hrel
    by_cases hlt : i < N
    · as_aux_lemma =>
        obtain ⟨s, p, d, g0, g1, g2⟩ := HOK.out i hlt
        have hne : C ≠ [] := by intro h; rw [h] at g0; cases g0
        obtain ⟨pb, pf, rfl, hcc⟩ := HPC.out hne
        obtain ⟨qb, qf, rfl, hdd⟩ := HQC.out hne
        have e0 := hcc _ _ g0
        have e1 := hcc _ _ g1
        have e2 := hcc _ _ g2
        have f0 := hdd _ _ g0
        have f1 := hdd _ _ g1
        have f2 := hdd _ _ g2
        rw [← Nat.add_assoc] at e1 e2 f1 f2
        have HC6 := Mx.hid (And.intro e0 (And.intro e1 (And.intro e2 (And.intro f0 (And.intro f1 f2)))))
        have ht := tx_beq (x := s) rfl
        have n1 : ((p : Int) != (p : Int)) = false := by simp
        have n2 : ((d : Int) != (d : Int)) = false := by simp
        have hii : (i : Int) < (N : Int) := by omega
        clear g0 g1 g2 hcc hdd e0 e1 e2 f0 f1 f2 hne
        go_wp2_with (first | ((with_reducible show wpList _ _ _ _ _ _); refine wpl_want rfl ?_))
        refine wp_region_C (fun W' => St wB W' [] []) (by kernel_rfl) (by kernel_rfl) (by exact hs.drew) ?_
        repeat ((first | (refine cq_y0 (v := ?_) (by with_reducible rfl) ?_ ?_; rotate_left 1; (focus (intro wq hq; (try dsimp only at hq); (have e0 := hq.keep HC6.out.1; have e1 := hq.keep HC6.out.2.1; have e2 := hq.keep HC6.out.2.2.1; have f0 := hq.keep HC6.out.2.2.2.1; have f1 := hq.keep HC6.out.2.2.2.2.1; have f2 := hq.keep HC6.out.2.2.2.2.2); go_simp; (first | done | with_reducible rfl | fail)))) | (refine cq_no (by go_simp; first | done | (intro h9; cases h9)) ?_) | (refine cq_yes (v := ?_) (by go_simp) ?_ ?_; rotate_left 1; (focus (intro wq hq; (try dsimp only at hq); (have e0 := hq.keep HC6.out.1; have e1 := hq.keep HC6.out.2.1; have e2 := hq.keep HC6.out.2.2.1; have f0 := hq.keep HC6.out.2.2.2.1; have f1 := hq.keep HC6.out.2.2.2.2.1; have f2 := hq.keep HC6.out.2.2.2.2.2); go_simp; (first | done | with_reducible rfl | fail))))); (try simp only [Act.put, List.setIfInBounds_toArray, List.set_cons_zero, List.set_cons_succ]))
        refine cq_nil ?_
        intro wq hq
        (try dsimp only at hq)
        go_wp2_with (first | ((with_reducible show wpList _ _ _ _ _ _); refine wpl_want rfl ?_))
        exact ⟨⟨i + 1, by go_num, by omega, hq⟩, by simp [intOf]; omega⟩
    · obtain rfl : i = N := by omega
      have hk := HK.out.call0 hs
      go_wp2_with (first | ((with_reducible show wpList _ _ _ _ _ _); refine wpl_want rfl ?_) | (go_at_call 5; refine (first10_any _ (HL.out _ hk.bare) (HI.out _ hk.bare)).mono ?_; rintro e wf ⟨rfl, hkf⟩; replace hk := hk.call0 hkf))
      go_ret
      exact ⟨rfl, hk.below⟩
end Go.Proofs.YtlfdnlomlbbicaaGreatDoor
