/- Walk of pkt.read. -/
import Derived.Test.YtloogjdafhjheaaDoorPmE
import Derived.Deep.DeepCutAuto
namespace Go.Mx
open Go Go.RowKit
theorem tx_pcs (l : List UInt8) : (tx (pcs 32 0 l)).length = (pcs 32 0 l).length := tx_len _
theorem pcs_size {l p : List UInt8} (h : p ∈ pcs 32 0 l) : p.length ≤ l.length := pcs_le h
/-- The slices' cells, and what they read. -/
theorem LL.parts {w : World} {v : Value} {ls : List (List UInt8)} (h : LL w v ls) : ∃ vs : List Value, vs.length = ls.length ∧ Sl w 1 v ls.length vs ∧ ∀ (k : Nat) (hk : k < ls.length), ∃ a c, vs[k]? = some (.slice a ls[k].length c) ∧ Sl w 1 (.slice a ls[k].length c) ls[k].length (bs ls[k]) := by
  obtain ⟨vs, h1, h2, h3⟩ := h
  refine ⟨vs, h1, h2, fun k hk => ?_⟩
  have hm : (⟨vs[k]'(by omega), 1, ls[k].length, bs ls[k]⟩ : Rd) ∈ rds vs ls := by
    unfold rds
    rw [List.mem_iff_getElem]
    refine ⟨k, by simp; omega, by simp⟩
  have := h3 _ hm
  obtain ⟨a, c, he, _⟩ := id this
  simp only [] at he this
  rw [he] at this
  exact ⟨a, c, by rw [List.getElem?_eq_getElem (by omega), he], this⟩
/-- A slice's cell, wherever it lies. -/
theorem Sl.cellAny {w : World} {ao : Option Addr} {n cap : Nat} {xs : List Value} (h : Sl w 1 (.slice ao n cap) n xs) {j : Nat} {u : Value} (hj : xs[j]? = some u) : ∃ b o, ao = some ⟨b, o, none⟩ ∧ w.cell? ⟨b, o + j, none⟩ = some u := by
  obtain ⟨ao', cap', he, _, _, _, _, h5⟩ := h.form
  cases he
  obtain ⟨b, o, rfl, hc⟩ := h5 (by rintro rfl; simp at hj)
  exact ⟨b, o, rfl, hc j u hj⟩
end Go.Mx
namespace Go.Proofs.YtloogjdafhjheaaDoor
open Go.RowKit Go.Mx
theorem psplit_any (s : ByteArray) (hs : s.size < 4294967281) (w : World) :
    Calls Tryd.prog 47 #[.string s, .string ⟨#[32]⟩] w fun e w' => ∃ v, e = .returned v ∧ St w w' [⟨v, 9, 1, (pcs 32 0 (bL s)).length, ss (tx (pcs 32 0 (bL s)))⟩] [] := by
  have G := Mx.hid (genSplit_any s hs 32 0 (Nat.zero_le _) w)
  have hl : (pcs 32 0 s.data.toList).length ≤ maxLen := by
    rw [pcs_len]
    have h1 : s.data.toList.count 32 ≤ s.data.toList.length := List.count_le_length
    have h2 : s.data.toList.length = s.size := rfl
    unfold maxLen
    omega
  have HS := Mx.hid ((St.refl w).made (ss (tx (pcs 32 0 s.data.toList))).toArray 9 1 (pcs 32 0 s.data.toList).length (by simp [ss_len, tx_len]) hl)
  clear hl
  go_enter Tryd.func47, Tryd.ntmps47
  go_wp2_with fail
  refine G.out.mono ?_
  rintro e w' ⟨rfl, rfl⟩
  go_wp2_with fail
  go_ret
  exact ⟨_, rfl, HS.out⟩
def ReadP (l : List (List UInt8)) (w : World) (e : Ending) (w' : World) : Prop :=
  ∃ iv dv, e = .returned (MV iv dv (readM l)) ∧ St w w' [] [] ∧ MB w' iv dv (readM l)
set_option maxRecDepth 200000 in
set_option maxHeartbeats 4000000 in
theorem readP_any (v : Value) (l : List (List UInt8)) (w : World) (h : LL w v l) (hz : ∀ p ∈ l, p.length ≤ 1000000) (hl : l.length ≤ 1000000) (hL : LdP w) :
    Calls Tryd.prog 30 #[v] w (ReadP l w) := by
  have HL := Mx.hid (fun wx (hs : St w wx [] []) => hL.keep hs)
  obtain ⟨vs, hvl, hsv, hpv⟩ := h.parts
  obtain ⟨ao, cap, rfl, c1, c2, -⟩ := hsv.form
  unfold maxLen at c2
  have HSV := Mx.hid hsv
  have HPV := Mx.hid hpv
  have HZ := Mx.hid hz
  have HVL := Mx.hid hvl
  have hs0 := (St.refl w).madeAt ([.int .i64 0, .int .i64 0, .int .i64 0, .int .i64 0, .slice none 0 0, .slice none 0 0]).toArray 25 6 1 w.heap.size rfl (by simp [maxLen]) rfl
  clear h hz hL hvl hsv hpv
  go_enter Tryd.func30, Tryd.ntmps30
  by_cases h3 : l.length < 3
  · have HR : Hid (readM l = noMs) := by show _ = _; unfold readM; rw [if_pos h3]
    have q1 : decide ((l.length : Int) < 3) = true := decide_eq_true (by omega)
    go_wp2_with ((with_reducible show wpList _ _ _ _ _ _); refine wpl_storeA rfl 25 _ _ rfl Tryd.aMsg hs0 (0) rfl ([.int .i64 0, .int .i64 0, .int .i64 0, .int .i64 0, .slice none 0 0, .slice none 0 0]) rfl (by rfl) (by simp) (by intro u hu; simp at hu; rcases hu with rfl | rfl | rfl | rfl | rfl | rfl <;> rfl) ?_; intro w9 hs9)
    replace hs9 := hs9.cast rfl (show _ = [.int .i64 0, .int .i64 0, .int .i64 0, .int .i64 0, .slice none 0 0, .slice none 0 0] by simp)
    have hcw : ∀ i u, ([.int .i64 0, .int .i64 0, .int .i64 0, .int .i64 0, .slice none 0 0, .slice none 0 0])[i]? = some u → w9.cell? ⟨w.heap.size, i, none⟩ = some u := fun i u h => hs9.rcell (List.mem_cons_self ..) h
    refine bodyPost_ret (v := .agg ([.int .i64 0, .int .i64 0, .int .i64 0, .int .i64 0, .slice none 0 0, .slice none 0 0]).toArray) (results_cellA Tryd.results30 _ Tryd.aMsg (g := w.heap.size) ([.int .i64 0, .int .i64 0, .int .i64 0, .int .i64 0, .slice none 0 0, .slice none 0 0]) ?_ rfl hcw) ?_ ?_
    · first | (simp; done) | simp [Act.put]
    · first | (simp; done) | simp [Act.put]
    · unfold ReadP
      rw [HR.out]
      exact ⟨.slice none 0 0, .slice none 0 0, rfl, hs9.bare, ⟨Sl.nil _ _, Sl.nil _ _⟩⟩
  have q1 : decide ((l.length : Int) < 3) = false := decide_eq_false (by omega)
  obtain ⟨a0, e0, hv0, hsl0⟩ := HPV.out 0 (by omega)
  obtain ⟨b0, o0, rfl, k0⟩ := Sl.cellAny HSV.out hv0
  obtain ⟨ua, uc, hvd, hsld⟩ := HPV.out (l.length - 1) (by omega)
  obtain ⟨b9, o9, he9, c9⟩ := Sl.cellAny HSV.out hvd
  cases he9
  rw [Nat.add_zero] at k0
  have hz0 := HZ.out l[0] (List.getElem_mem (by omega))
  have hnd := HZ.out l[l.length - 1] (List.getElem_mem (by omega))
  have HRM : Hid (readM l = ⟨numA (pcs 32 0 l[0]) 0, numA (pcs 32 0 l[0]) 1, numA (pcs 32 0 l[0]) 2, numA (pcs 32 0 l[0]) 3, ((l.take (l.length - 2)).drop 1).map str, l[l.length - 1]⟩) := by
    show _ = _
    unfold readM
    rw [if_neg h3, List.getD_eq_getElem?_getD, List.getElem?_eq_getElem (by omega), List.getD_eq_getElem?_getD, List.getElem?_eq_getElem (by omega)]
    rfl
  have HPZ := Mx.hid (fun p (hp : p ∈ pcs 32 0 l[0]) => (show p.length ≤ 140737488355328 by have := pcs_size hp; omega))
  have HSL0 := Mx.hid hsl0
  have HSLD := Mx.hid hsld
  have HVM := Mx.hid (fun (k : Nat) (hk : k < l.length) => HPV.out k hk)
  have hb0 := bL_str l[0]
  have HS0 := Mx.hid (psplit_any (str l[0]) (by rw [str_size]; omega))
  rw [hb0] at HS0
  clear hb0 hvd hv0 hsl0 hsld
  generalize hP : pcs 32 0 l[0] = P at *
  generalize l[l.length - 1] = D at *
  generalize l[0] = L0 at *
  clear hP
  go_upto_region 1 with fail
  change Code.wp _ _ _ _ (w.alloc (.cells #[.int .i64 0, .int .i64 0, .int .i64 0, .int .i64 0, .slice none 0 0, .slice none 0 0] 25))
  change St w (w.alloc (.cells #[.int .i64 0, .int .i64 0, .int .i64 0, .int .i64 0, .slice none 0 0, .slice none 0 0] 25)) _ _ at hs0
  generalize w.alloc (.cells #[.int .i64 0, .int .i64 0, .int .i64 0, .int .i64 0, .slice none 0 0, .slice none 0 0] 25) = w1 at hs0 ⊢
  generalize w.heap.size = gR at hs0 ⊢
  replace k0 := hs0.keep k0
  have hb1 := hs0.old HSL0.out
  go_wp2_with ((with_reducible show wpList _ _ _ _ _ _); refine wpl_b2s rfl 23 9 5 _ rfl Tryd.underlying23 Tryd.underlying5 Tryd.underlying9 (by exact hb1) ?_)
  refine (HS0.out _).mono ?_
  rintro e w2 ⟨v2, rfl, hk2⟩
  have hs2 := (hs0.call1 hk2).freeze
  obtain ⟨sa, sc, rfl, _⟩ := id hk2.sl0
  dsimp only at hs2
  have HSP := Mx.hid (fun (wx : World) (R : List Row) (h : St w wx R [⟨.slice sa P.length sc, 1, P.length, ss (tx P)⟩]) => (show Sl wx 1 (.slice sa P.length sc) P.length (ss (tx P)) from h.q0))
  clear hs0 hk2 k0 hb1 HS0
  generalize hND : D.length = nd at *
  have HND := Mx.hid hND
  clear hND
  go_upto_region 4 with fail
  go_cut [4] (fun s4 wx => ∃ gO, s4 = .pointer (some ⟨gO, 0, none⟩) ∧ St w wx [⟨.slice (some ⟨gO, 0, none⟩) 1 1, 25, 6, 1, [.int .i64 (numA P 0), .int .i64 (numA P 1), .int .i64 (numA P 2), .int .i64 (numA P 3), .slice none 0 0, .slice ua nd uc]⟩, ⟨.slice (some ⟨gR, 0, none⟩) 1 1, 25, 6, 1, [.int .i64 0, .int .i64 0, .int .i64 0, .int .i64 0, .slice none 0 0, .slice none 0 0]⟩] [⟨.slice sa P.length sc, 1, P.length, ss (tx P)⟩])
  case first =>
    have hc := hs2.drew
    have n1 : (0 : Int) ≤ (l.length : Int) - 1 := by omega
    have n2 : (l.length : Int) - 1 < (l.length : Int) := by omega
    have n3 : ((l.length : Int) - 1).toNat = l.length - 1 := by omega
    have n4 : (1 : Int) ≤ (l.length : Int) := by omega
    have n5 : IntKind.i64.wrap ((l.length : Int) - 1) = (l.length : Int) - 1 := IntWalk.i64_in _ (by omega)
    (refine wp_region_S (16) (fun W' => W'.cell? ⟨b0, o0 + (l.length - 1), none⟩ = some (.slice ua nd uc)) (by kernel_rfl) ?_ (fun hHeld => ?_); (focus ((try dsimp only); exact hc.keep c9)))
    (refine wpAnyS_takeW (i := 0) (v := ?_) rfl (by kernel_rfl) (by kernel_rfl) (by kernel_rfl) (by kernel_rfl) (fun _ _ _ h => h) (Or.inl ⟨by rfl, ?_⟩) hHeld ?_; rotate_left 1; (focus (intro w' hSw; go_simp; (try with_reducible rfl))); (try simp only [Act.put, List.setIfInBounds_toArray, List.set_cons_zero, List.set_cons_succ]))
    (refine wpAnyS_takeW (i := 2) (v := ?_) rfl (by kernel_rfl) (by kernel_rfl) (by kernel_rfl) (by kernel_rfl) (fun _ _ _ h => h) (Or.inl ⟨by rfl, ?_⟩) hHeld ?_; rotate_left 1; (focus (intro w' hSw; go_simp; (try with_reducible rfl))); (try simp only [Act.put, List.setIfInBounds_toArray, List.set_cons_zero, List.set_cons_succ]))
    (refine wpAnyS_takeW (i := 4) (v := ?_) rfl (by kernel_rfl) (by kernel_rfl) (by kernel_rfl) (by kernel_rfl) (fun _ _ _ h => h) (Or.inl ⟨by rfl, ?_⟩) hHeld ?_; rotate_left 1; (focus (intro w' hSw; go_simp; (try with_reducible rfl))); (try simp only [Act.put, List.setIfInBounds_toArray, List.set_cons_zero, List.set_cons_succ]))
    (refine wpAnyS_takeW (i := 6) (v := ?_) rfl (by kernel_rfl) (by kernel_rfl) (by kernel_rfl) (by kernel_rfl) (fun _ _ _ h => h) (Or.inl ⟨by rfl, ?_⟩) hHeld ?_; rotate_left 1; (focus (intro w' hSw; go_simp; (try with_reducible rfl))); (try simp only [Act.put, List.setIfInBounds_toArray, List.set_cons_zero, List.set_cons_succ]))
    (refine wpAnyS_takeW (i := 8) (v := ?_) rfl (by kernel_rfl) (by kernel_rfl) (by kernel_rfl) (by kernel_rfl) (fun _ _ _ h => h) (Or.inl ⟨by rfl, ?_⟩) hHeld ?_; rotate_left 1; (focus (intro w' hSw; go_simp; (try with_reducible rfl))); (try simp only [Act.put, List.setIfInBounds_toArray, List.set_cons_zero, List.set_cons_succ]))
    (refine wpAnyS_takeW (i := 9) (v := ?_) rfl (by kernel_rfl) (by kernel_rfl) (by kernel_rfl) (by kernel_rfl) (fun _ _ _ h => h) (Or.inl ⟨by rfl, ?_⟩) hHeld ?_; rotate_left 1; (focus (intro w' hSw; go_simp; (try with_reducible rfl))); (try simp only [Act.put, List.setIfInBounds_toArray, List.set_cons_zero, List.set_cons_succ]))
    (refine wpAnyS_takeW (i := 10) (v := ?_) rfl (by kernel_rfl) (by kernel_rfl) (by kernel_rfl) (by kernel_rfl) (fun _ _ _ h => h) (Or.inl ⟨by rfl, ?_⟩) hHeld ?_; rotate_left 1; (focus (intro w' hSw; go_simp; (try with_reducible rfl))); (try simp only [Act.put, List.setIfInBounds_toArray, List.set_cons_zero, List.set_cons_succ]))
    (refine wpAnyS_takeW (i := 11) (v := ?_) rfl (by kernel_rfl) (by kernel_rfl) (by kernel_rfl) (by kernel_rfl) (fun _ _ _ h => h) (Or.inl ⟨by rfl, ?_⟩) hHeld ?_; rotate_left 1; (focus (intro w' hSw; go_simp; (try with_reducible rfl))); (try simp only [Act.put, List.setIfInBounds_toArray, List.set_cons_zero, List.set_cons_succ]))
    (refine wpAnyS_takeW (i := 12) (v := ?_) rfl (by kernel_rfl) (by kernel_rfl) (by kernel_rfl) (by kernel_rfl) (fun _ _ _ h => h) (Or.inl ⟨by rfl, ?_⟩) hHeld ?_; rotate_left 1; (focus (intro w' hSw; go_simp; (try with_reducible rfl))); (try simp only [Act.put, List.setIfInBounds_toArray, List.set_cons_zero, List.set_cons_succ]))
    (refine wpAnyS_takeL (i := 13) (v := ?_) rfl (by kernel_rfl) (by kernel_rfl) (by kernel_rfl) (by kernel_rfl) (by kernel_rfl) (by kernel_rfl) (fun _ _ _ h => h) (Or.inl ⟨by rfl, ?_⟩) hHeld ?_; rotate_left 1; (focus (intro w' hSw; (try dsimp only at hSw); go_simp; (try with_reducible rfl))); (try simp only [Act.put, List.setIfInBounds_toArray, List.set_cons_zero, List.set_cons_succ]))
    clear n1 n2 n3 n4 n5
    generalize w2.drew = W at hc hHeld ⊢
    refine wpAnyS_ready (rs := [1, 15]) (by kernel_rfl) (by simp) ?_
    refine AllS.consL rfl (fun K hK => ?_) ?_
    · (go_simp; go_at_call 48; refine (number_any _ P 0 W (HL.out _ hc.bare) (by exact HSP.out _ _ hc) HPZ.out (by omega)).mono ?_; rintro e w' ⟨rfl, hk⟩; go_wp2_with fail)
      replace hc := hc.call0 hk
      (refine hK.out _ _ ?_ (fun hHeld => ?_); (focus ((try dsimp only); exact hc.keep c9)); clear hK K; (try simp only [Act.put, List.setIfInBounds_toArray, List.set_cons_zero, List.set_cons_succ]))
      obtain ⟨W, rfl⟩ : ∃ W : World, W = w' := ⟨_, rfl⟩
      clear hk
      refine wpAnyS_ready (rs := [3, 15]) (by kernel_rfl) (by simp) ?_
      refine AllS.consL rfl (fun K hK => ?_) ?_
      · (go_simp; go_at_call 48; refine (number_any _ P 1 W (HL.out _ hc.bare) (by exact HSP.out _ _ hc) HPZ.out (by omega)).mono ?_; rintro e w' ⟨rfl, hk⟩; go_wp2_with fail)
        replace hc := hc.call0 hk
        (refine hK.out _ _ ?_ (fun hHeld => ?_); (focus ((try dsimp only); exact hc.keep c9)); clear hK K; (try simp only [Act.put, List.setIfInBounds_toArray, List.set_cons_zero, List.set_cons_succ]))
        obtain ⟨W, rfl⟩ : ∃ W : World, W = w' := ⟨_, rfl⟩
        clear hk
        refine wpAnyS_ready (rs := [5, 15]) (by kernel_rfl) (by simp) ?_
        refine AllS.consL rfl (fun K hK => ?_) ?_
        · (go_simp; go_at_call 48; refine (number_any _ P 2 W (HL.out _ hc.bare) (by exact HSP.out _ _ hc) HPZ.out (by omega)).mono ?_; rintro e w' ⟨rfl, hk⟩; go_wp2_with fail)
          replace hc := hc.call0 hk
          (refine hK.out _ _ ?_ (fun hHeld => ?_); (focus ((try dsimp only); exact hc.keep c9)); clear hK K; (try simp only [Act.put, List.setIfInBounds_toArray, List.set_cons_zero, List.set_cons_succ]))
          obtain ⟨W, rfl⟩ : ∃ W : World, W = w' := ⟨_, rfl⟩
          clear hk
          refine wpAnyS_ready (rs := [7, 15]) (by kernel_rfl) (by simp) ?_
          refine AllS.consL rfl (fun K hK => ?_) ?_
          · (go_simp; go_at_call 48; refine (number_any _ P 3 W (HL.out _ hc.bare) (by exact HSP.out _ _ hc) HPZ.out (by omega)).mono ?_; rintro e w' ⟨rfl, hk⟩; go_wp2_with fail)
            replace hc := hc.call0 hk
            (refine hK.out _ _ ?_ (fun hHeld => ?_); (focus ((try dsimp only); exact hc.keep c9)); clear hK K; (try simp only [Act.put, List.setIfInBounds_toArray, List.set_cons_zero, List.set_cons_succ]))
            obtain ⟨W, rfl⟩ : ∃ W : World, W = w' := ⟨_, rfl⟩
            clear hk
            (refine wpAnyS_takeW (i := 14) (v := ?_) rfl (by kernel_rfl) (by kernel_rfl) (by kernel_rfl) (by kernel_rfl) (fun _ _ _ h => h) (Or.inl ⟨by rfl, ?_⟩) hHeld ?_; rotate_left 1; (focus (intro w' hSw; go_simp; (try with_reducible rfl))); (try simp only [Act.put, List.setIfInBounds_toArray, List.set_cons_zero, List.set_cons_succ]))
            (refine wpAnyS_ready (rs := [15]) (by kernel_rfl) (by simp) ?_; refine AllS.consL rfl (fun K hK => ?_) AllS.nil)
            go_simp
            replace hc := hc.madeAt ([.int .i64 0, .int .i64 0, .int .i64 0, .int .i64 0, .slice none 0 0, .slice none 0 0]).toArray 25 6 1 W.heap.size rfl (by simp [maxLen]) rfl
            change St w (W.alloc (Obj.cells #[.int .i64 0, .int .i64 0, .int .i64 0, .int .i64 0, .slice none 0 0, .slice none 0 0] 25)) _ _ at hc
            generalize W.alloc (Obj.cells #[.int .i64 0, .int .i64 0, .int .i64 0, .int .i64 0, .slice none 0 0, .slice none 0 0] 25) = W1 at hc ⊢
            generalize W.heap.size = gO at hc ⊢
            (refine hK.out _ _ ?_ (fun hHeld => ?_); (focus ((try dsimp only); exact hc.keep c9)); clear hK K; (try simp only [Act.put, List.setIfInBounds_toArray, List.set_cons_zero, List.set_cons_succ]))
            obtain ⟨W, rfl⟩ : ∃ W : World, W = W1 := ⟨_, rfl⟩
            (refine wpAnyS_seq (by rfl) (by kernel_rfl) ?_; simp only [List.drop_succ_cons, List.drop_zero])
            clear hHeld
            go_wp2_with ((with_reducible show wpList _ _ _ _ _ _); refine wpl_storeA rfl 25 _ _ rfl Tryd.aMsg hc (0) rfl ([.int .i64 (numA P 0), .int .i64 (numA P 1), .int .i64 (numA P 2), .int .i64 (numA P 3), .slice none 0 0, .slice ua nd uc]) rfl (by rfl) (by simp) (by intro u hu; simp at hu; rcases hu with rfl | rfl | rfl | rfl | rfl | rfl <;> rfl) ?_; intro w9 hs9)
            go_meet
            exact ⟨gO, rfl, hs9.cast rfl (by simp)⟩
          refine AllS.consL rfl (fun K hK => ?_) ?_
          · go_simp
            replace hc := hc.madeAt ([.int .i64 0, .int .i64 0, .int .i64 0, .int .i64 0, .slice none 0 0, .slice none 0 0]).toArray 25 6 1 W.heap.size rfl (by simp [maxLen]) rfl
            change St w (W.alloc (Obj.cells #[.int .i64 0, .int .i64 0, .int .i64 0, .int .i64 0, .slice none 0 0, .slice none 0 0] 25)) _ _ at hc
            generalize W.alloc (Obj.cells #[.int .i64 0, .int .i64 0, .int .i64 0, .int .i64 0, .slice none 0 0, .slice none 0 0] 25) = W1 at hc ⊢
            generalize W.heap.size = gO at hc ⊢
            (refine hK.out _ _ ?_ (fun hHeld => ?_); (focus ((try dsimp only); exact hc.keep c9)); clear hK K; (try simp only [Act.put, List.setIfInBounds_toArray, List.set_cons_zero, List.set_cons_succ]))
            obtain ⟨W, rfl⟩ : ∃ W : World, W = W1 := ⟨_, rfl⟩
            (refine wpAnyS_ready (rs := [7]) (by kernel_rfl) (by simp) ?_; refine AllS.consL rfl (fun K hK => ?_) AllS.nil)
            (go_simp; go_at_call 48; refine (number_any _ P 3 W (HL.out _ hc.bare) (by exact HSP.out _ _ hc) HPZ.out (by omega)).mono ?_; rintro e w' ⟨rfl, hk⟩; go_wp2_with fail)
            replace hc := hc.call0 hk
            (refine hK.out _ _ ?_ (fun hHeld => ?_); (focus ((try dsimp only); exact hc.keep c9)); clear hK K; (try simp only [Act.put, List.setIfInBounds_toArray, List.set_cons_zero, List.set_cons_succ]))
            obtain ⟨W, rfl⟩ : ∃ W : World, W = w' := ⟨_, rfl⟩
            clear hk
            (refine wpAnyS_takeW (i := 14) (v := ?_) rfl (by kernel_rfl) (by kernel_rfl) (by kernel_rfl) (by kernel_rfl) (fun _ _ _ h => h) (Or.inl ⟨by rfl, ?_⟩) hHeld ?_; rotate_left 1; (focus (intro w' hSw; go_simp; (try with_reducible rfl))); (try simp only [Act.put, List.setIfInBounds_toArray, List.set_cons_zero, List.set_cons_succ]))
            (refine wpAnyS_seq (by rfl) (by kernel_rfl) ?_; simp only [List.drop_succ_cons, List.drop_zero])
            clear hHeld
            go_wp2_with ((with_reducible show wpList _ _ _ _ _ _); refine wpl_storeA rfl 25 _ _ rfl Tryd.aMsg hc (0) rfl ([.int .i64 (numA P 0), .int .i64 (numA P 1), .int .i64 (numA P 2), .int .i64 (numA P 3), .slice none 0 0, .slice ua nd uc]) rfl (by rfl) (by simp) (by intro u hu; simp at hu; rcases hu with rfl | rfl | rfl | rfl | rfl | rfl <;> rfl) ?_; intro w9 hs9)
            go_meet
            exact ⟨gO, rfl, hs9.cast rfl (by simp)⟩
          exact AllS.nil
        refine AllS.consL rfl (fun K hK => ?_) ?_
        · go_simp
          replace hc := hc.madeAt ([.int .i64 0, .int .i64 0, .int .i64 0, .int .i64 0, .slice none 0 0, .slice none 0 0]).toArray 25 6 1 W.heap.size rfl (by simp [maxLen]) rfl
          change St w (W.alloc (Obj.cells #[.int .i64 0, .int .i64 0, .int .i64 0, .int .i64 0, .slice none 0 0, .slice none 0 0] 25)) _ _ at hc
          generalize W.alloc (Obj.cells #[.int .i64 0, .int .i64 0, .int .i64 0, .int .i64 0, .slice none 0 0, .slice none 0 0] 25) = W1 at hc ⊢
          generalize W.heap.size = gO at hc ⊢
          (refine hK.out _ _ ?_ (fun hHeld => ?_); (focus ((try dsimp only); exact hc.keep c9)); clear hK K; (try simp only [Act.put, List.setIfInBounds_toArray, List.set_cons_zero, List.set_cons_succ]))
          obtain ⟨W, rfl⟩ : ∃ W : World, W = W1 := ⟨_, rfl⟩
          (refine wpAnyS_ready (rs := [5]) (by kernel_rfl) (by simp) ?_; refine AllS.consL rfl (fun K hK => ?_) AllS.nil)
          (go_simp; go_at_call 48; refine (number_any _ P 2 W (HL.out _ hc.bare) (by exact HSP.out _ _ hc) HPZ.out (by omega)).mono ?_; rintro e w' ⟨rfl, hk⟩; go_wp2_with fail)
          replace hc := hc.call0 hk
          (refine hK.out _ _ ?_ (fun hHeld => ?_); (focus ((try dsimp only); exact hc.keep c9)); clear hK K; (try simp only [Act.put, List.setIfInBounds_toArray, List.set_cons_zero, List.set_cons_succ]))
          obtain ⟨W, rfl⟩ : ∃ W : World, W = w' := ⟨_, rfl⟩
          clear hk
          (refine wpAnyS_ready (rs := [7]) (by kernel_rfl) (by simp) ?_; refine AllS.consL rfl (fun K hK => ?_) AllS.nil)
          (go_simp; go_at_call 48; refine (number_any _ P 3 W (HL.out _ hc.bare) (by exact HSP.out _ _ hc) HPZ.out (by omega)).mono ?_; rintro e w' ⟨rfl, hk⟩; go_wp2_with fail)
          replace hc := hc.call0 hk
          (refine hK.out _ _ ?_ (fun hHeld => ?_); (focus ((try dsimp only); exact hc.keep c9)); clear hK K; (try simp only [Act.put, List.setIfInBounds_toArray, List.set_cons_zero, List.set_cons_succ]))
          obtain ⟨W, rfl⟩ : ∃ W : World, W = w' := ⟨_, rfl⟩
          clear hk
          (refine wpAnyS_takeW (i := 14) (v := ?_) rfl (by kernel_rfl) (by kernel_rfl) (by kernel_rfl) (by kernel_rfl) (fun _ _ _ h => h) (Or.inl ⟨by rfl, ?_⟩) hHeld ?_; rotate_left 1; (focus (intro w' hSw; go_simp; (try with_reducible rfl))); (try simp only [Act.put, List.setIfInBounds_toArray, List.set_cons_zero, List.set_cons_succ]))
          (refine wpAnyS_seq (by rfl) (by kernel_rfl) ?_; simp only [List.drop_succ_cons, List.drop_zero])
          clear hHeld
          go_wp2_with ((with_reducible show wpList _ _ _ _ _ _); refine wpl_storeA rfl 25 _ _ rfl Tryd.aMsg hc (0) rfl ([.int .i64 (numA P 0), .int .i64 (numA P 1), .int .i64 (numA P 2), .int .i64 (numA P 3), .slice none 0 0, .slice ua nd uc]) rfl (by rfl) (by simp) (by intro u hu; simp at hu; rcases hu with rfl | rfl | rfl | rfl | rfl | rfl <;> rfl) ?_; intro w9 hs9)
          go_meet
          exact ⟨gO, rfl, hs9.cast rfl (by simp)⟩
        exact AllS.nil
      refine AllS.consL rfl (fun K hK => ?_) ?_
      · go_simp
        replace hc := hc.madeAt ([.int .i64 0, .int .i64 0, .int .i64 0, .int .i64 0, .slice none 0 0, .slice none 0 0]).toArray 25 6 1 W.heap.size rfl (by simp [maxLen]) rfl
        change St w (W.alloc (Obj.cells #[.int .i64 0, .int .i64 0, .int .i64 0, .int .i64 0, .slice none 0 0, .slice none 0 0] 25)) _ _ at hc
        generalize W.alloc (Obj.cells #[.int .i64 0, .int .i64 0, .int .i64 0, .int .i64 0, .slice none 0 0, .slice none 0 0] 25) = W1 at hc ⊢
        generalize W.heap.size = gO at hc ⊢
        (refine hK.out _ _ ?_ (fun hHeld => ?_); (focus ((try dsimp only); exact hc.keep c9)); clear hK K; (try simp only [Act.put, List.setIfInBounds_toArray, List.set_cons_zero, List.set_cons_succ]))
        obtain ⟨W, rfl⟩ : ∃ W : World, W = W1 := ⟨_, rfl⟩
        (refine wpAnyS_ready (rs := [3]) (by kernel_rfl) (by simp) ?_; refine AllS.consL rfl (fun K hK => ?_) AllS.nil)
        (go_simp; go_at_call 48; refine (number_any _ P 1 W (HL.out _ hc.bare) (by exact HSP.out _ _ hc) HPZ.out (by omega)).mono ?_; rintro e w' ⟨rfl, hk⟩; go_wp2_with fail)
        replace hc := hc.call0 hk
        (refine hK.out _ _ ?_ (fun hHeld => ?_); (focus ((try dsimp only); exact hc.keep c9)); clear hK K; (try simp only [Act.put, List.setIfInBounds_toArray, List.set_cons_zero, List.set_cons_succ]))
        obtain ⟨W, rfl⟩ : ∃ W : World, W = w' := ⟨_, rfl⟩
        clear hk
        (refine wpAnyS_ready (rs := [5]) (by kernel_rfl) (by simp) ?_; refine AllS.consL rfl (fun K hK => ?_) AllS.nil)
        (go_simp; go_at_call 48; refine (number_any _ P 2 W (HL.out _ hc.bare) (by exact HSP.out _ _ hc) HPZ.out (by omega)).mono ?_; rintro e w' ⟨rfl, hk⟩; go_wp2_with fail)
        replace hc := hc.call0 hk
        (refine hK.out _ _ ?_ (fun hHeld => ?_); (focus ((try dsimp only); exact hc.keep c9)); clear hK K; (try simp only [Act.put, List.setIfInBounds_toArray, List.set_cons_zero, List.set_cons_succ]))
        obtain ⟨W, rfl⟩ : ∃ W : World, W = w' := ⟨_, rfl⟩
        clear hk
        (refine wpAnyS_ready (rs := [7]) (by kernel_rfl) (by simp) ?_; refine AllS.consL rfl (fun K hK => ?_) AllS.nil)
        (go_simp; go_at_call 48; refine (number_any _ P 3 W (HL.out _ hc.bare) (by exact HSP.out _ _ hc) HPZ.out (by omega)).mono ?_; rintro e w' ⟨rfl, hk⟩; go_wp2_with fail)
        replace hc := hc.call0 hk
        (refine hK.out _ _ ?_ (fun hHeld => ?_); (focus ((try dsimp only); exact hc.keep c9)); clear hK K; (try simp only [Act.put, List.setIfInBounds_toArray, List.set_cons_zero, List.set_cons_succ]))
        obtain ⟨W, rfl⟩ : ∃ W : World, W = w' := ⟨_, rfl⟩
        clear hk
        (refine wpAnyS_takeW (i := 14) (v := ?_) rfl (by kernel_rfl) (by kernel_rfl) (by kernel_rfl) (by kernel_rfl) (fun _ _ _ h => h) (Or.inl ⟨by rfl, ?_⟩) hHeld ?_; rotate_left 1; (focus (intro w' hSw; go_simp; (try with_reducible rfl))); (try simp only [Act.put, List.setIfInBounds_toArray, List.set_cons_zero, List.set_cons_succ]))
        (refine wpAnyS_seq (by rfl) (by kernel_rfl) ?_; simp only [List.drop_succ_cons, List.drop_zero])
        clear hHeld
        go_wp2_with ((with_reducible show wpList _ _ _ _ _ _); refine wpl_storeA rfl 25 _ _ rfl Tryd.aMsg hc (0) rfl ([.int .i64 (numA P 0), .int .i64 (numA P 1), .int .i64 (numA P 2), .int .i64 (numA P 3), .slice none 0 0, .slice ua nd uc]) rfl (by rfl) (by simp) (by intro u hu; simp at hu; rcases hu with rfl | rfl | rfl | rfl | rfl | rfl <;> rfl) ?_; intro w9 hs9)
        go_meet
        exact ⟨gO, rfl, hs9.cast rfl (by simp)⟩
      exact AllS.nil
    refine AllS.consL rfl (fun K hK => ?_) ?_
    · go_simp
      replace hc := hc.madeAt ([.int .i64 0, .int .i64 0, .int .i64 0, .int .i64 0, .slice none 0 0, .slice none 0 0]).toArray 25 6 1 W.heap.size rfl (by simp [maxLen]) rfl
      change St w (W.alloc (Obj.cells #[.int .i64 0, .int .i64 0, .int .i64 0, .int .i64 0, .slice none 0 0, .slice none 0 0] 25)) _ _ at hc
      generalize W.alloc (Obj.cells #[.int .i64 0, .int .i64 0, .int .i64 0, .int .i64 0, .slice none 0 0, .slice none 0 0] 25) = W1 at hc ⊢
      generalize W.heap.size = gO at hc ⊢
      (refine hK.out _ _ ?_ (fun hHeld => ?_); (focus ((try dsimp only); exact hc.keep c9)); clear hK K; (try simp only [Act.put, List.setIfInBounds_toArray, List.set_cons_zero, List.set_cons_succ]))
      obtain ⟨W, rfl⟩ : ∃ W : World, W = W1 := ⟨_, rfl⟩
      (refine wpAnyS_ready (rs := [1]) (by kernel_rfl) (by simp) ?_; refine AllS.consL rfl (fun K hK => ?_) AllS.nil)
      (go_simp; go_at_call 48; refine (number_any _ P 0 W (HL.out _ hc.bare) (by exact HSP.out _ _ hc) HPZ.out (by omega)).mono ?_; rintro e w' ⟨rfl, hk⟩; go_wp2_with fail)
      replace hc := hc.call0 hk
      (refine hK.out _ _ ?_ (fun hHeld => ?_); (focus ((try dsimp only); exact hc.keep c9)); clear hK K; (try simp only [Act.put, List.setIfInBounds_toArray, List.set_cons_zero, List.set_cons_succ]))
      obtain ⟨W, rfl⟩ : ∃ W : World, W = w' := ⟨_, rfl⟩
      clear hk
      (refine wpAnyS_ready (rs := [3]) (by kernel_rfl) (by simp) ?_; refine AllS.consL rfl (fun K hK => ?_) AllS.nil)
      (go_simp; go_at_call 48; refine (number_any _ P 1 W (HL.out _ hc.bare) (by exact HSP.out _ _ hc) HPZ.out (by omega)).mono ?_; rintro e w' ⟨rfl, hk⟩; go_wp2_with fail)
      replace hc := hc.call0 hk
      (refine hK.out _ _ ?_ (fun hHeld => ?_); (focus ((try dsimp only); exact hc.keep c9)); clear hK K; (try simp only [Act.put, List.setIfInBounds_toArray, List.set_cons_zero, List.set_cons_succ]))
      obtain ⟨W, rfl⟩ : ∃ W : World, W = w' := ⟨_, rfl⟩
      clear hk
      (refine wpAnyS_ready (rs := [5]) (by kernel_rfl) (by simp) ?_; refine AllS.consL rfl (fun K hK => ?_) AllS.nil)
      (go_simp; go_at_call 48; refine (number_any _ P 2 W (HL.out _ hc.bare) (by exact HSP.out _ _ hc) HPZ.out (by omega)).mono ?_; rintro e w' ⟨rfl, hk⟩; go_wp2_with fail)
      replace hc := hc.call0 hk
      (refine hK.out _ _ ?_ (fun hHeld => ?_); (focus ((try dsimp only); exact hc.keep c9)); clear hK K; (try simp only [Act.put, List.setIfInBounds_toArray, List.set_cons_zero, List.set_cons_succ]))
      obtain ⟨W, rfl⟩ : ∃ W : World, W = w' := ⟨_, rfl⟩
      clear hk
      (refine wpAnyS_ready (rs := [7]) (by kernel_rfl) (by simp) ?_; refine AllS.consL rfl (fun K hK => ?_) AllS.nil)
      (go_simp; go_at_call 48; refine (number_any _ P 3 W (HL.out _ hc.bare) (by exact HSP.out _ _ hc) HPZ.out (by omega)).mono ?_; rintro e w' ⟨rfl, hk⟩; go_wp2_with fail)
      replace hc := hc.call0 hk
      (refine hK.out _ _ ?_ (fun hHeld => ?_); (focus ((try dsimp only); exact hc.keep c9)); clear hK K; (try simp only [Act.put, List.setIfInBounds_toArray, List.set_cons_zero, List.set_cons_succ]))
      obtain ⟨W, rfl⟩ : ∃ W : World, W = w' := ⟨_, rfl⟩
      clear hk
      (refine wpAnyS_takeW (i := 14) (v := ?_) rfl (by kernel_rfl) (by kernel_rfl) (by kernel_rfl) (by kernel_rfl) (fun _ _ _ h => h) (Or.inl ⟨by rfl, ?_⟩) hHeld ?_; rotate_left 1; (focus (intro w' hSw; go_simp; (try with_reducible rfl))); (try simp only [Act.put, List.setIfInBounds_toArray, List.set_cons_zero, List.set_cons_succ]))
      (refine wpAnyS_seq (by rfl) (by kernel_rfl) ?_; simp only [List.drop_succ_cons, List.drop_zero])
      clear hHeld
      go_wp2_with ((with_reducible show wpList _ _ _ _ _ _); refine wpl_storeA rfl 25 _ _ rfl Tryd.aMsg hc (0) rfl ([.int .i64 (numA P 0), .int .i64 (numA P 1), .int .i64 (numA P 2), .int .i64 (numA P 3), .slice none 0 0, .slice ua nd uc]) rfl (by rfl) (by simp) (by intro u hu; simp at hu; rcases hu with rfl | rfl | rfl | rfl | rfl | rfl <;> rfl) ?_; intro w9 hs9)
      go_meet
      exact ⟨gO, rfl, hs9.cast rfl (by simp)⟩
    exact AllS.nil
  case rest =>
    obtain ⟨gO, rfl, hs⟩ := hcut
    clear hs2
    have hmidl : ((l.take (l.length - 2)).drop 1).length = l.length - 2 - 1 := by rw [List.length_drop, List.length_take]; omega
    have HMG := Mx.hid (fun (k : Nat) (hk : k < l.length - 2 - 1) => (show ((l.take (l.length - 2)).drop 1)[k]? = some (l[k + 1]'(by omega)) by
      rw [List.getElem?_drop, List.getElem?_take, if_pos (by omega), Nat.add_comm 1 k, List.getElem?_eq_getElem (by omega)]))
    have HML := Mx.hid hmidl
    clear hmidl
    generalize (l.take (l.length - 2)).drop 1 = mid at *
    have n5 : IntKind.i64.wrap ((l.length : Int) - 2) = (l.length : Int) - 2 := IntWalk.i64_in _ (by omega)
    go_wp2_with ((with_reducible show wpList _ _ _ _ _ _); refine wpl_cut rfl 43 _ _ _ rfl Tryd.elBs (by exact HSV.out) 1 (l.length - 2) (.inr ⟨.i64, rfl⟩) (.inr ⟨.i64, congrArg some (congrArg (Value.int .i64) (show (l.length : Int) - 2 = ((l.length - 2 : Nat) : Int) by omega))⟩) (by omega) (by omega) ?_; intro v5 hc5; have hv5 := hc5 w HSV.out; obtain ⟨a5, c5, rfl, -⟩ := id hv5)
    have HV5 := Mx.hid hv5
    clear hv5 n5
    go_loopw [37] (fun y wr => ∃ (i : Nat) (iv : Value), y = .int .i64 i ∧ i ≤ l.length - 2 - 1 ∧ St w wr [⟨iv, 9, 1, i, ss ((mid.take i).map str)⟩, ⟨.slice (some ⟨gO, 0, none⟩) 1 1, 25, 6, 1, [.int .i64 (numA P 0), .int .i64 (numA P 1), .int .i64 (numA P 2), .int .i64 (numA P 3), iv, .slice ua nd uc]⟩, ⟨.slice (some ⟨gR, 0, none⟩) 1 1, 25, 6, 1, [.int .i64 0, .int .i64 0, .int .i64 0, .int .i64 0, .slice none 0 0, .slice none 0 0]⟩] []) (fun y _ => (l.length - 2 - 1) - (intOf y).toNat)
    case atStart => exact ⟨0, _, rfl, by omega, hs.noQ.addNil _ _⟩
    case round =>
      clear hs
      obtain ⟨i, iv, rfl, hi, hs⟩ := hrel
      obtain ⟨ia, ic, rfl, -⟩ := id hs.sl0
      have x4 : wr.cell? ⟨gO, 4, none⟩ = some (.slice ia i ic) := hs.rcell (List.mem_cons_of_mem _ (List.mem_cons_self ..)) (j := 4) rfl
      by_cases hlt : i < l.length - 2 - 1
      · obtain ⟨la, lc, hvi, hsi⟩ := HVM.out (i + 1) (by omega)
        obtain ⟨b5, o5, rfl, cc⟩ := Sl.cellAny HV5.out (j := i) (u := .slice la l[i + 1].length lc) (by
          rw [Nat.mul_one, Nat.mul_one, List.getElem?_drop, List.getElem?_take, if_pos (by omega), Nat.add_comm 1 i]
          exact hvi)
        replace cc := hs.keep cc
        have hzi := HZ.out l[i + 1] (List.getElem_mem (by omega))
        have HTK := Mx.hid (show ss ((mid.take (i + 1)).map str) = ss ((mid.take i).map str) ++ [.string (str l[i + 1])] by
          rw [List.take_add_one, HMG.out i hlt, List.map_append, ss_app]
          rfl)
        have hlp := hs.old hsi
        have hii : (i : Int) < ((l.length - 2 - 1 : Nat) : Int) := by omega
        clear hvi hsi
        generalize l[i + 1] = p at *
        go_wp2_with (first | ((with_reducible show wpList _ _ _ _ _ _); refine wpl_b2s rfl 23 9 5 _ rfl Tryd.underlying23 Tryd.underlying5 Tryd.underlying9 (by exact hlp) ?_) | (at_builtin; refine wpl_app rfl _ _ 22 rfl Tryd.elStr (hs.alloc _) rfl (by exact Sl.one _ _ _) (by intro u hu; simp at hu; subst hu; rfl) (by omega) ?_; intro v6 w6 hs6 _; obtain ⟨va6, vc6, rfl, _⟩ := id hs6.sl0) | ((with_reducible show wpList _ _ _ _ _ _); refine wpl_store1 rfl 22 _ _ rfl hs6.swap (4) rfl (.slice va6 (i + 1) vc6) rfl rfl (by kernel_rfl) (by simp) rfl ?_; intro w7 hs7))
        exact ⟨⟨i + 1, .slice va6 (i + 1) vc6, by go_num, by omega, (hs7.cast rfl (show _ = [.int .i64 (numA P 0), .int .i64 (numA P 1), .int .i64 (numA P 2), .int .i64 (numA P 3), .slice va6 (i + 1) vc6, .slice ua nd uc] by simp)).swap.cast rfl HTK.out.symm⟩, by simp [intOf]; omega⟩
      · obtain rfl : i = l.length - 2 - 1 := by omega
        have hmt : mid.take (l.length - 2 - 1) = mid := List.take_of_length_le (by rw [HML.out]; exact Nat.le_refl _)
        rw [hmt] at hs
        have hge : decide (((l.length - 2 - 1 : Nat) : Int) < ((l.length - 2 - 1 : Nat) : Int)) = false := decide_eq_false (by omega)
        clear hmt x4 HMG HV5 hc5
        generalize hN3 : l.length - 2 - 1 = n3 at *
        have hrot := hs.rot.rot
        go_wp2_with (first | ((with_reducible show wpList _ _ _ _ _ _); refine wpl_loadA rfl 25 _ rfl Tryd.aMsg (gO) (0) rfl ([.int .i64 (numA P 0), .int .i64 (numA P 1), .int .i64 (numA P 2), .int .i64 (numA P 3), .slice ia n3 ic, .slice ua nd uc]) rfl (VCof hs (List.mem_cons_of_mem _ (List.mem_cons_self ..))) ?_) | ((with_reducible show wpList _ _ _ _ _ _); refine wpl_storeA rfl 25 _ _ rfl Tryd.aMsg hrot (0) rfl ([.int .i64 (numA P 0), .int .i64 (numA P 1), .int .i64 (numA P 2), .int .i64 (numA P 3), .slice ia n3 ic, .slice ua nd uc]) rfl (by rfl) (by simp) (by intro u hu; simp at hu; rcases hu with rfl | rfl | rfl | rfl | rfl | rfl <;> rfl) ?_; intro w9 hs9))
        replace hs9 := hs9.cast rfl (show _ = [.int .i64 (numA P 0), .int .i64 (numA P 1), .int .i64 (numA P 2), .int .i64 (numA P 3), .slice ia n3 ic, .slice ua nd uc] by simp)
        have hcw : ∀ i u, ([.int .i64 (numA P 0), .int .i64 (numA P 1), .int .i64 (numA P 2), .int .i64 (numA P 3), .slice ia n3 ic, .slice ua nd uc] : List Value)[i]? = some u → w9.cell? ⟨gR, i, none⟩ = some u := fun i u h => hs9.rcell (List.mem_cons_self ..) h
        refine bodyPost_ret (v := .agg ([.int .i64 (numA P 0), .int .i64 (numA P 1), .int .i64 (numA P 2), .int .i64 (numA P 3), .slice ia n3 ic, .slice ua nd uc] : List Value).toArray) (results_cellA Tryd.results30 _ Tryd.aMsg (g := gR) [.int .i64 (numA P 0), .int .i64 (numA P 1), .int .i64 (numA P 2), .int .i64 (numA P 3), .slice ia n3 ic, .slice ua nd uc] ?_ rfl hcw) ?_ ?_
        · first | (simp; done) | simp [Act.put]
        · first | (simp; done) | simp [Act.put]
        · unfold ReadP
          rw [HRM.out]
          have hml : (mid.map str).length = n3 := by rw [List.length_map, HML.out]
          refine ⟨.slice ia n3 ic, .slice ua nd uc, rfl, hs9.bare, ⟨?_, ?_⟩⟩
          · show Sl w9 1 _ (mid.map str).length _
            rw [hml]
            exact hs9.sl1
          · show Sl w9 1 _ D.length (bs D)
            rw [HND.out]
            exact hs9.old HSLD.out
end Go.Proofs.YtloogjdafhjheaaDoor
