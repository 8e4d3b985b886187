/- Walk of pkt.read. Walk of pkt.Decode. -/
import Derived.Test.YtloogjdafhjheaaDoorPmE
import Derived.Deep.DeepCutAuto
namespace Go.Mx
open Go Go.RowKit
theorem tx_pcs (l : List UInt8) : (tx (pcs 32 0 l)).length = (pcs 32 0 l).length := tx_len _
theorem pcs_size {l p : List UInt8} (h : p ∈ pcs 32 0 l) : p.length ≤ l.length := pcs_le h
/-- The slices' cells, and what they read. -/
theorem LL.parts {w : World} {v : Value} {ls : List (List UInt8)} (h : LL w v ls) : ∃ vs : List Value, vs.length = ls.length ∧ Sl w 1 v ls.length vs ∧ ∀ (k : Nat) (hk : k < ls.length), ∃ a c, vs[k]? = some (.slice a ls[k].length c) ∧ Sl w 1 (.slice a ls[k].length c) ls[k].length (bs ls[k]) := by
  obtain ⟨vs, h1, h2, h3⟩ := h
  refine ⟨vs, h1, h2, fun k hk => ?_⟩
  have hm : (⟨vs[k]'(by omega), 1, ls[k].length, bs ls[k]⟩ : Rd) ∈ rds vs ls := by
    unfold rds
    rw [List.mem_iff_getElem]
    refine ⟨k, by simp; omega, by simp⟩
  have := h3 _ hm
  obtain ⟨a, c, he, _⟩ := id this
  simp only [] at he this
  rw [he] at this
  exact ⟨a, c, by rw [List.getElem?_eq_getElem (by omega), he], this⟩
/-- A slice's cell, wherever it lies. -/
theorem Sl.cellAny {w : World} {ao : Option Addr} {n cap : Nat} {xs : List Value} (h : Sl w 1 (.slice ao n cap) n xs) {j : Nat} {u : Value} (hj : xs[j]? = some u) : ∃ b o, ao = some ⟨b, o, none⟩ ∧ w.cell? ⟨b, o + j, none⟩ = some u := by
  obtain ⟨ao', cap', he, _, _, _, _, h5⟩ := h.form
  cases he
  obtain ⟨b, o, rfl, hc⟩ := h5 (by rintro rfl; simp at hj)
  exact ⟨b, o, rfl, hc j u hj⟩
end Go.Mx
namespace Go.Proofs.YtloogjdafhjheaaDoor
open Go.RowKit Go.Mx
theorem psplit_any (s : ByteArray) (hs : s.size < 4294967281) (w : World) :
    Calls Tryd.prog 47 #[.string s, .string ⟨#[32]⟩] w fun e w' => ∃ v, e = .returned v ∧ St w w' [⟨v, 9, 1, (pcs 32 0 (bL s)).length, ss (tx (pcs 32 0 (bL s)))⟩] [] := by
  have G := Mx.hid (genSplit_any s hs 32 0 (Nat.zero_le _) w)
  have hl : (pcs 32 0 s.data.toList).length ≤ maxLen := by
    rw [pcs_len]
    have h1 : s.data.toList.count 32 ≤ s.data.toList.length := List.count_le_length
    have h2 : s.data.toList.length = s.size := rfl
    unfold maxLen
    omega
  have HS := Mx.hid ((St.refl w).made (ss (tx (pcs 32 0 s.data.toList))).toArray 9 1 (pcs 32 0 s.data.toList).length (by simp [ss_len, tx_len]) hl)
  clear hl
  go_enter Tryd.func47, Tryd.ntmps47
  go_wp2_with fail
  refine G.out.mono ?_
  rintro e w' ⟨rfl, rfl⟩
  go_wp2_with fail
  go_ret
  exact ⟨_, rfl, HS.out⟩
def ReadP (l : List (List UInt8)) (w : World) (e : Ending) (w' : World) : Prop :=
  ∃ iv dv, e = .returned (MV iv dv (readM l)) ∧ St w w' [] [] ∧ MB w' iv dv (readM l)
set_option maxRecDepth 200000 in
set_option maxHeartbeats 4000000 in
theorem readP_any (v : Value) (l : List (List UInt8)) (w : World) (h : LL w v l) (hz : ∀ p ∈ l, p.length ≤ 1000000) (hl : l.length ≤ 1000000) (hL : LdP w) :
    Calls Tryd.prog 30 #[v] w (ReadP l w) := by
  have HL := Mx.hid (fun wx (hs : St w wx [] []) => hL.keep hs)
  obtain ⟨vs, hvl, hsv, hpv⟩ := h.parts
  obtain ⟨ao, cap, rfl, c1, c2, -⟩ := hsv.form
  unfold maxLen at c2
  have HSV := Mx.hid hsv
  have HPV := Mx.hid hpv
  have HZ := Mx.hid hz
  have HVL := Mx.hid hvl
  have hs0 := (St.refl w).madeAt ([.int .i64 0, .int .i64 0, .int .i64 0, .int .i64 0, .slice none 0 0, .slice none 0 0]).toArray 25 6 1 w.heap.size rfl (by simp [maxLen]) rfl
  clear h hz hL hvl hsv hpv
  go_enter Tryd.func30, Tryd.ntmps30
  by_cases h3 : l.length < 3
  · have HR : Hid (readM l = noMs) := by show _ = _; unfold readM; rw [if_pos h3]
    have q1 : decide ((l.length : Int) < 3) = true := decide_eq_true (by omega)
    go_wp2_with ((with_reducible show wpList _ _ _ _ _ _); refine wpl_storeA rfl 25 _ _ rfl Tryd.aMsg hs0 (0) rfl ([.int .i64 0, .int .i64 0, .int .i64 0, .int .i64 0, .slice none 0 0, .slice none 0 0]) rfl (by rfl) (by simp) (by intro u hu; simp at hu; rcases hu with rfl | rfl | rfl | rfl | rfl | rfl <;> rfl) ?_; intro w9 hs9)
    replace hs9 := hs9.cast rfl (show _ = [.int .i64 0, .int .i64 0, .int .i64 0, .int .i64 0, .slice none 0 0, .slice none 0 0] by simp)
    have hcw : ∀ i u, ([.int .i64 0, .int .i64 0, .int .i64 0, .int .i64 0, .slice none 0 0, .slice none 0 0])[i]? = some u → w9.cell? ⟨w.heap.size, i, none⟩ = some u := fun i u h => hs9.rcell (List.mem_cons_self ..) h
    refine bodyPost_ret (v := .agg ([.int .i64 0, .int .i64 0, .int .i64 0, .int .i64 0, .slice none 0 0, .slice none 0 0]).toArray) (results_cellA Tryd.results30 _ Tryd.aMsg (g := w.heap.size) ([.int .i64 0, .int .i64 0, .int .i64 0, .int .i64 0, .slice none 0 0, .slice none 0 0]) ?_ rfl hcw) ?_ ?_
    · first | (simp; done) | simp [Act.put]
    · first | (simp; done) | simp [Act.put]
    · unfold ReadP
      rw [HR.out]
      exact ⟨.slice none 0 0, .slice none 0 0, rfl, hs9.bare, ⟨Sl.nil _ _, Sl.nil _ _⟩⟩
  have q1 : decide ((l.length : Int) < 3) = false := decide_eq_false (by omega)
  obtain ⟨a0, e0, hv0, hsl0⟩ := HPV.out 0 (by omega)
  obtain ⟨b0, o0, rfl, k0⟩ := Sl.cellAny HSV.out hv0
  obtain ⟨ua, uc, hvd, hsld⟩ := HPV.out (l.length - 1) (by omega)
  obtain ⟨b9, o9, he9, c9⟩ := Sl.cellAny HSV.out hvd
  cases he9
  rw [Nat.add_zero] at k0
  have hz0 := HZ.out l[0] (List.getElem_mem (by omega))
  have hnd := HZ.out l[l.length - 1] (List.getElem_mem (by omega))
  have HRM : Hid (readM l = ⟨numA (pcs 32 0 l[0]) 0, numA (pcs 32 0 l[0]) 1, numA (pcs 32 0 l[0]) 2, numA (pcs 32 0 l[0]) 3, ((l.take (l.length - 2)).drop 1).map str, l[l.length - 1]⟩) := by
    show _ = _
    unfold readM
    rw [if_neg h3, List.getD_eq_getElem?_getD, List.getElem?_eq_getElem (by omega), List.getD_eq_getElem?_getD, List.getElem?_eq_getElem (by omega)]
    rfl
  have HPZ := Mx.hid (fun p (hp : p ∈ pcs 32 0 l[0]) => (show p.length ≤ 140737488355328 by have := pcs_size hp; omega))
  have HSL0 := Mx.hid hsl0
  have HSLD := Mx.hid hsld
  have HVM := Mx.hid (fun (k : Nat) (hk : k < l.length) => HPV.out k hk)
  have hb0 := bL_str l[0]
  have HS0 := Mx.hid (psplit_any (str l[0]) (by rw [str_size]; omega))
  rw [hb0] at HS0
  clear hb0 hvd hv0 hsl0 hsld
  generalize hP : pcs 32 0 l[0] = P at *
  generalize l[l.length - 1] = D at *
  generalize l[0] = L0 at *
  clear hP
  go_upto_region 1 with fail
  change Code.wp _ _ _ _ (w.alloc (.cells #[.int .i64 0, .int .i64 0, .int .i64 0, .int .i64 0, .slice none 0 0, .slice none 0 0] 25))
  change St w (w.alloc (.cells #[.int .i64 0, .int .i64 0, .int .i64 0, .int .i64 0, .slice none 0 0, .slice none 0 0] 25)) _ _ at hs0
  generalize w.alloc (.cells #[.int .i64 0, .int .i64 0, .int .i64 0, .int .i64 0, .slice none 0 0, .slice none 0 0] 25) = w1 at hs0 ⊢
  generalize w.heap.size = gR at hs0 ⊢
  replace k0 := hs0.keep k0
  have hb1 := hs0.old HSL0.out
  go_wp2_with ((with_reducible show wpList _ _ _ _ _ _); refine wpl_b2s rfl 23 9 5 _ rfl Tryd.underlying23 Tryd.underlying5 Tryd.underlying9 (by exact hb1) ?_)
  refine (HS0.out _).mono ?_
  rintro e w2 ⟨v2, rfl, hk2⟩
  have hs2 := (hs0.call1 hk2).freeze
  obtain ⟨sa, sc, rfl, _⟩ := id hk2.sl0
  dsimp only at hs2
  have HSP := Mx.hid (fun (wx : World) (R : List Row) (h : St w wx R [⟨.slice sa P.length sc, 1, P.length, ss (tx P)⟩]) => (show Sl wx 1 (.slice sa P.length sc) P.length (ss (tx P)) from h.q0))
  clear hs0 hk2 k0 hb1 HS0
  generalize hND : D.length = nd at *
  have HND := Mx.hid hND
  clear hND
  go_upto_region 4 with fail
  go_cut [4] (fun s4 wx => ∃ gO, s4 = .pointer (some ⟨gO, 0, none⟩) ∧ St w wx [⟨.slice (some ⟨gO, 0, none⟩) 1 1, 25, 6, 1, [.int .i64 (numA P 0), .int .i64 (numA P 1), .int .i64 (numA P 2), .int .i64 (numA P 3), .slice none 0 0, .slice ua nd uc]⟩, ⟨.slice (some ⟨gR, 0, none⟩) 1 1, 25, 6, 1, [.int .i64 0, .int .i64 0, .int .i64 0, .int .i64 0, .slice none 0 0, .slice none 0 0]⟩] [⟨.slice sa P.length sc, 1, P.length, ss (tx P)⟩])
  case first =>
    have hc := hs2.drew
    have n1 : (0 : Int) ≤ (l.length : Int) - 1 := by omega
    have n2 : (l.length : Int) - 1 < (l.length : Int) := by omega
    have n3 : ((l.length : Int) - 1).toNat = l.length - 1 := by omega
    have n4 : (1 : Int) ≤ (l.length : Int) := by omega
    have n5 : IntKind.i64.wrap ((l.length : Int) - 1) = (l.length : Int) - 1 := IntWalk.i64_in _ (by omega)
    (refine wp_region_S (16) (fun W' => W'.cell? ⟨b0, o0 + (l.length - 1), none⟩ = some (.slice ua nd uc)) (by kernel_rfl) ?_ (fun hHeld => ?_); (focus ((try dsimp only); exact hc.keep c9)))
    (refine wpAnyS_takeW (i := 0) (v := ?_) rfl (by kernel_rfl) (by kernel_rfl) (by kernel_rfl) (by kernel_rfl) (fun _ _ _ h => h) (Or.inl ⟨by rfl, ?_⟩) hHeld ?_; rotate_left 1; (focus (intro w' hSw; go_simp; (try with_reducible rfl))); (try simp only [Act.put, List.setIfInBounds_toArray, List.set_cons_zero, List.set_cons_succ]))
    (refine wpAnyS_takeW (i := 2) (v := ?_) rfl (by kernel_rfl) (by kernel_rfl) (by kernel_rfl) (by kernel_rfl) (fun _ _ _ h => h) (Or.inl ⟨by rfl, ?_⟩) hHeld ?_; rotate_left 1; (focus (intro w' hSw; go_simp; (try with_reducible rfl))); (try simp only [Act.put, List.setIfInBounds_toArray, List.set_cons_zero, List.set_cons_succ]))
    (refine wpAnyS_takeW (i := 4) (v := ?_) rfl (by kernel_rfl) (by kernel_rfl) (by kernel_rfl) (by kernel_rfl) (fun _ _ _ h => h) (Or.inl ⟨by rfl, ?_⟩) hHeld ?_; rotate_left 1; (focus (intro w' hSw; go_simp; (try with_reducible rfl))); (try simp only [Act.put, List.setIfInBounds_toArray, List.set_cons_zero, List.set_cons_succ]))
    (refine wpAnyS_takeW (i := 6) (v := ?_) rfl (by kernel_rfl) (by kernel_rfl) (by kernel_rfl) (by kernel_rfl) (fun _ _ _ h => h) (Or.inl ⟨by rfl, ?_⟩) hHeld ?_; rotate_left 1; (focus (intro w' hSw; go_simp; (try with_reducible rfl))); (try simp only [Act.put, List.setIfInBounds_toArray, List.set_cons_zero, List.set_cons_succ]))
    (refine wpAnyS_takeW (i := 8) (v := ?_) rfl (by kernel_rfl) (by kernel_rfl) (by kernel_rfl) (by kernel_rfl) (fun _ _ _ h => h) (Or.inl ⟨by rfl, ?_⟩) hHeld ?_; rotate_left 1; (focus (intro w' hSw; go_simp; (try with_reducible rfl))); (try simp only [Act.put, List.setIfInBounds_toArray, List.set_cons_zero, List.set_cons_succ]))
    (refine wpAnyS_takeW (i := 9) (v := ?_) rfl (by kernel_rfl) (by kernel_rfl) (by kernel_rfl) (by kernel_rfl) (fun _ _ _ h => h) (Or.inl ⟨by rfl, ?_⟩) hHeld ?_; rotate_left 1; (focus (intro w' hSw; go_simp; (try with_reducible rfl))); (try simp only [Act.put, List.setIfInBounds_toArray, List.set_cons_zero, List.set_cons_succ]))
    (refine wpAnyS_takeW (i := 10) (v := ?_) rfl (by kernel_rfl) (by kernel_rfl) (by kernel_rfl) (by kernel_rfl) (fun _ _ _ h => h) (Or.inl ⟨by rfl, ?_⟩) hHeld ?_; rotate_left 1; (focus (intro w' hSw; go_simp; (try with_reducible rfl))); (try simp only [Act.put, List.setIfInBounds_toArray, List.set_cons_zero, List.set_cons_succ]))
    (refine wpAnyS_takeW (i := 11) (v := ?_) rfl (by kernel_rfl) (by kernel_rfl) (by kernel_rfl) (by kernel_rfl) (fun _ _ _ h => h) (Or.inl ⟨by rfl, ?_⟩) hHeld ?_; rotate_left 1; (focus (intro w' hSw; go_simp; (try with_reducible rfl))); (try simp only [Act.put, List.setIfInBounds_toArray, List.set_cons_zero, List.set_cons_succ]))
    (refine wpAnyS_takeW (i := 12) (v := ?_) rfl (by kernel_rfl) (by kernel_rfl) (by kernel_rfl) (by kernel_rfl) (fun _ _ _ h => h) (Or.inl ⟨by rfl, ?_⟩) hHeld ?_; rotate_left 1; (focus (intro w' hSw; go_simp; (try with_reducible rfl))); (try simp only [Act.put, List.setIfInBounds_toArray, List.set_cons_zero, List.set_cons_succ]))
    (refine wpAnyS_takeL (i := 13) (v := ?_) rfl (by kernel_rfl) (by kernel_rfl) (by kernel_rfl) (by kernel_rfl) (by kernel_rfl) (by kernel_rfl) (fun _ _ _ h => h) (Or.inl ⟨by rfl, ?_⟩) hHeld ?_; rotate_left 1; (focus (intro w' hSw; (try dsimp only at hSw); go_simp; (try with_reducible rfl))); (try simp only [Act.put, List.setIfInBounds_toArray, List.set_cons_zero, List.set_cons_succ]))
    clear n1 n2 n3 n4 n5
    generalize w2.drew = W at hc hHeld ⊢
    refine wpAnyS_ready (rs := [1, 15]) (by kernel_rfl) (by simp) ?_
    refine AllS.consL rfl (fun K hK => ?_) ?_
    · (go_simp; go_at_call 48; refine (number_any _ P 0 W (HL.out _ hc.bare) (by exact HSP.out _ _ hc) HPZ.out (by omega)).mono ?_; rintro e w' ⟨rfl, hk⟩; go_wp2_with fail)
      replace hc := hc.call0 hk
      (refine hK.out _ _ ?_ (fun hHeld => ?_); (focus ((try dsimp only); exact hc.keep c9)); clear hK K; (try simp only [Act.put, List.setIfInBounds_toArray, List.set_cons_zero, List.set_cons_succ]))
      obtain ⟨W, rfl⟩ : ∃ W : World, W = w' := ⟨_, rfl⟩
      clear hk
      refine wpAnyS_ready (rs := [3, 15]) (by kernel_rfl) (by simp) ?_
      refine AllS.consL rfl (fun K hK => ?_) ?_
      · (go_simp; go_at_call 48; refine (number_any _ P 1 W (HL.out _ hc.bare) (by exact HSP.out _ _ hc) HPZ.out (by omega)).mono ?_; rintro e w' ⟨rfl, hk⟩; go_wp2_with fail)
        replace hc := hc.call0 hk
        (refine hK.out _ _ ?_ (fun hHeld => ?_); (focus ((try dsimp only); exact hc.keep c9)); clear hK K; (try simp only [Act.put, List.setIfInBounds_toArray, List.set_cons_zero, List.set_cons_succ]))
        obtain ⟨W, rfl⟩ : ∃ W : World, W = w' := ⟨_, rfl⟩
        clear hk
        refine wpAnyS_ready (rs := [5, 15]) (by kernel_rfl) (by simp) ?_
        refine AllS.consL rfl (fun K hK => ?_) ?_
        · (go_simp; go_at_call 48; refine (number_any _ P 2 W (HL.out _ hc.bare) (by exact HSP.out _ _ hc) HPZ.out (by omega)).mono ?_; rintro e w' ⟨rfl, hk⟩; go_wp2_with fail)
          replace hc := hc.call0 hk
          (refine hK.out _ _ ?_ (fun hHeld => ?_); (focus ((try dsimp only); exact hc.keep c9)); clear hK K; (try simp only [Act.put, List.setIfInBounds_toArray, List.set_cons_zero, List.set_cons_succ]))
          obtain ⟨W, rfl⟩ : ∃ W : World, W = w' := ⟨_, rfl⟩
          clear hk
          refine wpAnyS_ready (rs := [7, 15]) (by kernel_rfl) (by simp) ?_
          refine AllS.consL rfl (fun K hK => ?_) ?_
          · (go_simp; go_at_call 48; refine (number_any _ P 3 W (HL.out _ hc.bare) (by exact HSP.out _ _ hc) HPZ.out (by omega)).mono ?_; rintro e w' ⟨rfl, hk⟩; go_wp2_with fail)
            replace hc := hc.call0 hk
            (refine hK.out _ _ ?_ (fun hHeld => ?_); (focus ((try dsimp only); exact hc.keep c9)); clear hK K; (try simp only [Act.put, List.setIfInBounds_toArray, List.set_cons_zero, List.set_cons_succ]))
            obtain ⟨W, rfl⟩ : ∃ W : World, W = w' := ⟨_, rfl⟩
            clear hk
            (refine wpAnyS_takeW (i := 14) (v := ?_) rfl (by kernel_rfl) (by kernel_rfl) (by kernel_rfl) (by kernel_rfl) (fun _ _ _ h => h) (Or.inl ⟨by rfl, ?_⟩) hHeld ?_; rotate_left 1; (focus (intro w' hSw; go_simp; (try with_reducible rfl))); (try simp only [Act.put, List.setIfInBounds_toArray, List.set_cons_zero, List.set_cons_succ]))
            (refine wpAnyS_ready (rs := [15]) (by kernel_rfl) (by simp) ?_; refine AllS.consL rfl (fun K hK => ?_) AllS.nil)
            go_simp
            replace hc := hc.madeAt ([.int .i64 0, .int .i64 0, .int .i64 0, .int .i64 0, .slice none 0 0, .slice none 0 0]).toArray 25 6 1 W.heap.size rfl (by simp [maxLen]) rfl
            change St w (W.alloc (Obj.cells #[.int .i64 0, .int .i64 0, .int .i64 0, .int .i64 0, .slice none 0 0, .slice none 0 0] 25)) _ _ at hc
            generalize W.alloc (Obj.cells #[.int .i64 0, .int .i64 0, .int .i64 0, .int .i64 0, .slice none 0 0, .slice none 0 0] 25) = W1 at hc ⊢
            generalize W.heap.size = gO at hc ⊢
            (refine hK.out _ _ ?_ (fun hHeld => ?_); (focus ((try dsimp only); exact hc.keep c9)); clear hK K; (try simp only [Act.put, List.setIfInBounds_toArray, List.set_cons_zero, List.set_cons_succ]))
            obtain ⟨W, rfl⟩ : ∃ W : World, W = W1 := ⟨_, rfl⟩
            (refine wpAnyS_seq (by rfl) (by kernel_rfl) ?_; simp only [List.drop_succ_cons, List.drop_zero])
            clear hHeld
            go_wp2_with ((with_reducible show wpList _ _ _ _ _ _); refine wpl_storeA rfl 25 _ _ rfl Tryd.aMsg hc (0) rfl ([.int .i64 (numA P 0), .int .i64 (numA P 1), .int .i64 (numA P 2), .int .i64 (numA P 3), .slice none 0 0, .slice ua nd uc]) rfl (by rfl) (by simp) (by intro u hu; simp at hu; rcases hu with rfl | rfl | rfl | rfl | rfl | rfl <;> rfl) ?_; intro w9 hs9)
            go_meet
            exact ⟨gO, rfl, hs9.cast rfl (by simp)⟩
          refine AllS.consL rfl (fun K hK => ?_) ?_
          · go_simp
            replace hc := hc.madeAt ([.int .i64 0, .int .i64 0, .int .i64 0, .int .i64 0, .slice none 0 0, .slice none 0 0]).toArray 25 6 1 W.heap.size rfl (by simp [maxLen]) rfl
            change St w (W.alloc (Obj.cells #[.int .i64 0, .int .i64 0, .int .i64 0, .int .i64 0, .slice none 0 0, .slice none 0 0] 25)) _ _ at hc
            generalize W.alloc (Obj.cells #[.int .i64 0, .int .i64 0, .int .i64 0, .int .i64 0, .slice none 0 0, .slice none 0 0] 25) = W1 at hc ⊢
            generalize W.heap.size = gO at hc ⊢
            (refine hK.out _ _ ?_ (fun hHeld => ?_); (focus ((try dsimp only); exact hc.keep c9)); clear hK K; (try simp only [Act.put, List.setIfInBounds_toArray, List.set_cons_zero, List.set_cons_succ]))
            obtain ⟨W, rfl⟩ : ∃ W : World, W = W1 := ⟨_, rfl⟩
            (refine wpAnyS_ready (rs := [7]) (by kernel_rfl) (by simp) ?_; refine AllS.consL rfl (fun K hK => ?_) AllS.nil)
            (go_simp; go_at_call 48; refine (number_any _ P 3 W (HL.out _ hc.bare) (by exact HSP.out _ _ hc) HPZ.out (by omega)).mono ?_; rintro e w' ⟨rfl, hk⟩; go_wp2_with fail)
            replace hc := hc.call0 hk
            (refine hK.out _ _ ?_ (fun hHeld => ?_); (focus ((try dsimp only); exact hc.keep c9)); clear hK K; (try simp only [Act.put, List.setIfInBounds_toArray, List.set_cons_zero, List.set_cons_succ]))
            obtain ⟨W, rfl⟩ : ∃ W : World, W = w' := ⟨_, rfl⟩
            clear hk
            (refine wpAnyS_takeW (i := 14) (v := ?_) rfl (by kernel_rfl) (by kernel_rfl) (by kernel_rfl) (by kernel_rfl) (fun _ _ _ h => h) (Or.inl ⟨by rfl, ?_⟩) hHeld ?_; rotate_left 1; (focus (intro w' hSw; go_simp; (try with_reducible rfl))); (try simp only [Act.put, List.setIfInBounds_toArray, List.set_cons_zero, List.set_cons_succ]))
            (refine wpAnyS_seq (by rfl) (by kernel_rfl) ?_; simp only [List.drop_succ_cons, List.drop_zero])
            clear hHeld
            go_wp2_with ((with_reducible show wpList _ _ _ _ _ _); refine wpl_storeA rfl 25 _ _ rfl Tryd.aMsg hc (0) rfl ([.int .i64 (numA P 0), .int .i64 (numA P 1), .int .i64 (numA P 2), .int .i64 (numA P 3), .slice none 0 0, .slice ua nd uc]) rfl (by rfl) (by simp) (by intro u hu; simp at hu; rcases hu with rfl | rfl | rfl | rfl | rfl | rfl <;> rfl) ?_; intro w9 hs9)
            go_meet
            exact ⟨gO, rfl, hs9.cast rfl (by simp)⟩
          exact AllS.nil
        refine AllS.consL rfl (fun K hK => ?_) ?_
        · go_simp
          replace hc := hc.madeAt ([.int .i64 0, .int .i64 0, .int .i64 0, .int .i64 0, .slice none 0 0, .slice none 0 0]).toArray 25 6 1 W.heap.size rfl (by simp [maxLen]) rfl
          change St w (W.alloc (Obj.cells #[.int .i64 0, .int .i64 0, .int .i64 0, .int .i64 0, .slice none 0 0, .slice none 0 0] 25)) _ _ at hc
          generalize W.alloc (Obj.cells #[.int .i64 0, .int .i64 0, .int .i64 0, .int .i64 0, .slice none 0 0, .slice none 0 0] 25) = W1 at hc ⊢
          generalize W.heap.size = gO at hc ⊢
          (refine hK.out _ _ ?_ (fun hHeld => ?_); (focus ((try dsimp only); exact hc.keep c9)); clear hK K; (try simp only [Act.put, List.setIfInBounds_toArray, List.set_cons_zero, List.set_cons_succ]))
          obtain ⟨W, rfl⟩ : ∃ W : World, W = W1 := ⟨_, rfl⟩
          (refine wpAnyS_ready (rs := [5]) (by kernel_rfl) (by simp) ?_; refine AllS.consL rfl (fun K hK => ?_) AllS.nil)
          (go_simp; go_at_call 48; refine (number_any _ P 2 W (HL.out _ hc.bare) (by exact HSP.out _ _ hc) HPZ.out (by omega)).mono ?_; rintro e w' ⟨rfl, hk⟩; go_wp2_with fail)
          replace hc := hc.call0 hk
          (refine hK.out _ _ ?_ (fun hHeld => ?_); (focus ((try dsimp only); exact hc.keep c9)); clear hK K; (try simp only [Act.put, List.setIfInBounds_toArray, List.set_cons_zero, List.set_cons_succ]))
          obtain ⟨W, rfl⟩ : ∃ W : World, W = w' := ⟨_, rfl⟩
          clear hk
          (refine wpAnyS_ready (rs := [7]) (by kernel_rfl) (by simp) ?_; refine AllS.consL rfl (fun K hK => ?_) AllS.nil)
          (go_simp; go_at_call 48; refine (number_any _ P 3 W (HL.out _ hc.bare) (by exact HSP.out _ _ hc) HPZ.out (by omega)).mono ?_; rintro e w' ⟨rfl, hk⟩; go_wp2_with fail)
          replace hc := hc.call0 hk
          (refine hK.out _ _ ?_ (fun hHeld => ?_); (focus ((try dsimp only); exact hc.keep c9)); clear hK K; (try simp only [Act.put, List.setIfInBounds_toArray, List.set_cons_zero, List.set_cons_succ]))
          obtain ⟨W, rfl⟩ : ∃ W : World, W = w' := ⟨_, rfl⟩
          clear hk
          (refine wpAnyS_takeW (i := 14) (v := ?_) rfl (by kernel_rfl) (by kernel_rfl) (by kernel_rfl) (by kernel_rfl) (fun _ _ _ h => h) (Or.inl ⟨by rfl, ?_⟩) hHeld ?_; rotate_left 1; (focus (intro w' hSw; go_simp; (try with_reducible rfl))); (try simp only [Act.put, List.setIfInBounds_toArray, List.set_cons_zero, List.set_cons_succ]))
          (refine wpAnyS_seq (by rfl) (by kernel_rfl) ?_; simp only [List.drop_succ_cons, List.drop_zero])
          clear hHeld
          go_wp2_with ((with_reducible show wpList _ _ _ _ _ _); refine wpl_storeA rfl 25 _ _ rfl Tryd.aMsg hc (0) rfl ([.int .i64 (numA P 0), .int .i64 (numA P 1), .int .i64 (numA P 2), .int .i64 (numA P 3), .slice none 0 0, .slice ua nd uc]) rfl (by rfl) (by simp) (by intro u hu; simp at hu; rcases hu with rfl | rfl | rfl | rfl | rfl | rfl <;> rfl) ?_; intro w9 hs9)
          go_meet
          exact ⟨gO, rfl, hs9.cast rfl (by simp)⟩
        exact AllS.nil
      refine AllS.consL rfl (fun K hK => ?_) ?_
      · go_simp
        replace hc := hc.madeAt ([.int .i64 0, .int .i64 0, .int .i64 0, .int .i64 0, .slice none 0 0, .slice none 0 0]).toArray 25 6 1 W.heap.size rfl (by simp [maxLen]) rfl
        change St w (W.alloc (Obj.cells #[.int .i64 0, .int .i64 0, .int .i64 0, .int .i64 0, .slice none 0 0, .slice none 0 0] 25)) _ _ at hc
        generalize W.alloc (Obj.cells #[.int .i64 0, .int .i64 0, .int .i64 0, .int .i64 0, .slice none 0 0, .slice none 0 0] 25) = W1 at hc ⊢
        generalize W.heap.size = gO at hc ⊢
        (refine hK.out _ _ ?_ (fun hHeld => ?_); (focus ((try dsimp only); exact hc.keep c9)); clear hK K; (try simp only [Act.put, List.setIfInBounds_toArray, List.set_cons_zero, List.set_cons_succ]))
        obtain ⟨W, rfl⟩ : ∃ W : World, W = W1 := ⟨_, rfl⟩
        (refine wpAnyS_ready (rs := [3]) (by kernel_rfl) (by simp) ?_; refine AllS.consL rfl (fun K hK => ?_) AllS.nil)
        (go_simp; go_at_call 48; refine (number_any _ P 1 W (HL.out _ hc.bare) (by exact HSP.out _ _ hc) HPZ.out (by omega)).mono ?_; rintro e w' ⟨rfl, hk⟩; go_wp2_with fail)
        replace hc := hc.call0 hk
        (refine hK.out _ _ ?_ (fun hHeld => ?_); (focus ((try dsimp only); exact hc.keep c9)); clear hK K; (try simp only [Act.put, List.setIfInBounds_toArray, List.set_cons_zero, List.set_cons_succ]))
        obtain ⟨W, rfl⟩ : ∃ W : World, W = w' := ⟨_, rfl⟩
        clear hk
        (refine wpAnyS_ready (rs := [5]) (by kernel_rfl) (by simp) ?_; refine AllS.consL rfl (fun K hK => ?_) AllS.nil)
        (go_simp; go_at_call 48; refine (number_any _ P 2 W (HL.out _ hc.bare) (by exact HSP.out _ _ hc) HPZ.out (by omega)).mono ?_; rintro e w' ⟨rfl, hk⟩; go_wp2_with fail)
        replace hc := hc.call0 hk
        (refine hK.out _ _ ?_ (fun hHeld => ?_); (focus ((try dsimp only); exact hc.keep c9)); clear hK K; (try simp only [Act.put, List.setIfInBounds_toArray, List.set_cons_zero, List.set_cons_succ]))
        obtain ⟨W, rfl⟩ : ∃ W : World, W = w' := ⟨_, rfl⟩
        clear hk
        (refine wpAnyS_ready (rs := [7]) (by kernel_rfl) (by simp) ?_; refine AllS.consL rfl (fun K hK => ?_) AllS.nil)
        (go_simp; go_at_call 48; refine (number_any _ P 3 W (HL.out _ hc.bare) (by exact HSP.out _ _ hc) HPZ.out (by omega)).mono ?_; rintro e w' ⟨rfl, hk⟩; go_wp2_with fail)
        replace hc := hc.call0 hk
        (refine hK.out _ _ ?_ (fun hHeld => ?_); (focus ((try dsimp only); exact hc.keep c9)); clear hK K; (try simp only [Act.put, List.setIfInBounds_toArray, List.set_cons_zero, List.set_cons_succ]))
        obtain ⟨W, rfl⟩ : ∃ W : World, W = w' := ⟨_, rfl⟩
        clear hk
        (refine wpAnyS_takeW (i := 14) (v := ?_) rfl (by kernel_rfl) (by kernel_rfl) (by kernel_rfl) (by kernel_rfl) (fun _ _ _ h => h) (Or.inl ⟨by rfl, ?_⟩) hHeld ?_; rotate_left 1; (focus (intro w' hSw; go_simp; (try with_reducible rfl))); (try simp only [Act.put, List.setIfInBounds_toArray, List.set_cons_zero, List.set_cons_succ]))
        (refine wpAnyS_seq (by rfl) (by kernel_rfl) ?_; simp only [List.drop_succ_cons, List.drop_zero])
        clear hHeld
        go_wp2_with ((with_reducible show wpList _ _ _ _ _ _); refine wpl_storeA rfl 25 _ _ rfl Tryd.aMsg hc (0) rfl ([.int .i64 (numA P 0), .int .i64 (numA P 1), .int .i64 (numA P 2), .int .i64 (numA P 3), .slice none 0 0, .slice ua nd uc]) rfl (by rfl) (by simp) (by intro u hu; simp at hu; rcases hu with rfl | rfl | rfl | rfl | rfl | rfl <;> rfl) ?_; intro w9 hs9)
        go_meet
        exact ⟨gO, rfl, hs9.cast rfl (by simp)⟩
      exact AllS.nil
    refine AllS.consL rfl (fun K hK => ?_) ?_
    · go_simp
      replace hc := hc.madeAt ([.int .i64 0, .int .i64 0, .int .i64 0, .int .i64 0, .slice none 0 0, .slice none 0 0]).toArray 25 6 1 W.heap.size rfl (by simp [maxLen]) rfl
      change St w (W.alloc (Obj.cells #[.int .i64 0, .int .i64 0, .int .i64 0, .int .i64 0, .slice none 0 0, .slice none 0 0] 25)) _ _ at hc
      generalize W.alloc (Obj.cells #[.int .i64 0, .int .i64 0, .int .i64 0, .int .i64 0, .slice none 0 0, .slice none 0 0] 25) = W1 at hc ⊢
      generalize W.heap.size = gO at hc ⊢
      (refine hK.out _ _ ?_ (fun hHeld => ?_); (focus ((try dsimp only); exact hc.keep c9)); clear hK K; (try simp only [Act.put, List.setIfInBounds_toArray, List.set_cons_zero, List.set_cons_succ]))
      obtain ⟨W, rfl⟩ : ∃ W : World, W = W1 := ⟨_, rfl⟩
      (refine wpAnyS_ready (rs := [1]) (by kernel_rfl) (by simp) ?_; refine AllS.consL rfl (fun K hK => ?_) AllS.nil)
      (go_simp; go_at_call 48; refine (number_any _ P 0 W (HL.out _ hc.bare) (by exact HSP.out _ _ hc) HPZ.out (by omega)).mono ?_; rintro e w' ⟨rfl, hk⟩; go_wp2_with fail)
      replace hc := hc.call0 hk
      (refine hK.out _ _ ?_ (fun hHeld => ?_); (focus ((try dsimp only); exact hc.keep c9)); clear hK K; (try simp only [Act.put, List.setIfInBounds_toArray, List.set_cons_zero, List.set_cons_succ]))
      obtain ⟨W, rfl⟩ : ∃ W : World, W = w' := ⟨_, rfl⟩
      clear hk
      (refine wpAnyS_ready (rs := [3]) (by kernel_rfl) (by simp) ?_; refine AllS.consL rfl (fun K hK => ?_) AllS.nil)
      (go_simp; go_at_call 48; refine (number_any _ P 1 W (HL.out _ hc.bare) (by exact HSP.out _ _ hc) HPZ.out (by omega)).mono ?_; rintro e w' ⟨rfl, hk⟩; go_wp2_with fail)
      replace hc := hc.call0 hk
      (refine hK.out _ _ ?_ (fun hHeld => ?_); (focus ((try dsimp only); exact hc.keep c9)); clear hK K; (try simp only [Act.put, List.setIfInBounds_toArray, List.set_cons_zero, List.set_cons_succ]))
      obtain ⟨W, rfl⟩ : ∃ W : World, W = w' := ⟨_, rfl⟩
      clear hk
      (refine wpAnyS_ready (rs := [5]) (by kernel_rfl) (by simp) ?_; refine AllS.consL rfl (fun K hK => ?_) AllS.nil)
      (go_simp; go_at_call 48; refine (number_any _ P 2 W (HL.out _ hc.bare) (by exact HSP.out _ _ hc) HPZ.out (by omega)).mono ?_; rintro e w' ⟨rfl, hk⟩; go_wp2_with fail)
      replace hc := hc.call0 hk
      (refine hK.out _ _ ?_ (fun hHeld => ?_); (focus ((try dsimp only); exact hc.keep c9)); clear hK K; (try simp only [Act.put, List.setIfInBounds_toArray, List.set_cons_zero, List.set_cons_succ]))
      obtain ⟨W, rfl⟩ : ∃ W : World, W = w' := ⟨_, rfl⟩
      clear hk
      (refine wpAnyS_ready (rs := [7]) (by kernel_rfl) (by simp) ?_; refine AllS.consL rfl (fun K hK => ?_) AllS.nil)
      (go_simp; go_at_call 48; refine (number_any _ P 3 W (HL.out _ hc.bare) (by exact HSP.out _ _ hc) HPZ.out (by omega)).mono ?_; rintro e w' ⟨rfl, hk⟩; go_wp2_with fail)
      replace hc := hc.call0 hk
      (refine hK.out _ _ ?_ (fun hHeld => ?_); (focus ((try dsimp only); exact hc.keep c9)); clear hK K; (try simp only [Act.put, List.setIfInBounds_toArray, List.set_cons_zero, List.set_cons_succ]))
      obtain ⟨W, rfl⟩ : ∃ W : World, W = w' := ⟨_, rfl⟩
      clear hk
      (refine wpAnyS_takeW (i := 14) (v := ?_) rfl (by kernel_rfl) (by kernel_rfl) (by kernel_rfl) (by kernel_rfl) (fun _ _ _ h => h) (Or.inl ⟨by rfl, ?_⟩) hHeld ?_; rotate_left 1; (focus (intro w' hSw; go_simp; (try with_reducible rfl))); (try simp only [Act.put, List.setIfInBounds_toArray, List.set_cons_zero, List.set_cons_succ]))
      (refine wpAnyS_seq (by rfl) (by kernel_rfl) ?_; simp only [List.drop_succ_cons, List.drop_zero])
      clear hHeld
      go_wp2_with ((with_reducible show wpList _ _ _ _ _ _); refine wpl_storeA rfl 25 _ _ rfl Tryd.aMsg hc (0) rfl ([.int .i64 (numA P 0), .int .i64 (numA P 1), .int .i64 (numA P 2), .int .i64 (numA P 3), .slice none 0 0, .slice ua nd uc]) rfl (by rfl) (by simp) (by intro u hu; simp at hu; rcases hu with rfl | rfl | rfl | rfl | rfl | rfl <;> rfl) ?_; intro w9 hs9)
      go_meet
      exact ⟨gO, rfl, hs9.cast rfl (by simp)⟩
    exact AllS.nil
  case rest =>
    obtain ⟨gO, rfl, hs⟩ := hcut
    clear hs2
    have hmidl : ((l.take (l.length - 2)).drop 1).length = l.length - 2 - 1 := by rw [List.length_drop, List.length_take]; omega
    have HMG := Mx.hid (fun (k : Nat) (hk : k < l.length - 2 - 1) => (show ((l.take (l.length - 2)).drop 1)[k]? = some (l[k + 1]'(by omega)) by
      rw [List.getElem?_drop, List.getElem?_take, if_pos (by omega), Nat.add_comm 1 k, List.getElem?_eq_getElem (by omega)]))
    have HML := Mx.hid hmidl
    clear hmidl
    generalize (l.take (l.length - 2)).drop 1 = mid at *
    have n5 : IntKind.i64.wrap ((l.length : Int) - 2) = (l.length : Int) - 2 := IntWalk.i64_in _ (by omega)
    go_wp2_with ((with_reducible show wpList _ _ _ _ _ _); refine wpl_cut rfl 43 _ _ _ rfl Tryd.elBs (by exact HSV.out) 1 (l.length - 2) (.inr ⟨.i64, rfl⟩) (.inr ⟨.i64, congrArg some (congrArg (Value.int .i64) (show (l.length : Int) - 2 = ((l.length - 2 : Nat) : Int) by omega))⟩) (by omega) (by omega) ?_; intro v5 hc5; have hv5 := hc5 w HSV.out; obtain ⟨a5, c5, rfl, -⟩ := id hv5)
    have HV5 := Mx.hid hv5
    clear hv5 n5
    go_loopw [37] (fun y wr => ∃ (i : Nat) (iv : Value), y = .int .i64 i ∧ i ≤ l.length - 2 - 1 ∧ St w wr [⟨iv, 9, 1, i, ss ((mid.take i).map str)⟩, ⟨.slice (some ⟨gO, 0, none⟩) 1 1, 25, 6, 1, [.int .i64 (numA P 0), .int .i64 (numA P 1), .int .i64 (numA P 2), .int .i64 (numA P 3), iv, .slice ua nd uc]⟩, ⟨.slice (some ⟨gR, 0, none⟩) 1 1, 25, 6, 1, [.int .i64 0, .int .i64 0, .int .i64 0, .int .i64 0, .slice none 0 0, .slice none 0 0]⟩] []) (fun y _ => (l.length - 2 - 1) - (intOf y).toNat)
    case atStart => exact ⟨0, _, rfl, by omega, hs.noQ.addNil _ _⟩
    case round =>
      clear hs
      obtain ⟨i, iv, rfl, hi, hs⟩ := hrel
      obtain ⟨ia, ic, rfl, -⟩ := id hs.sl0
      have x4 : wr.cell? ⟨gO, 4, none⟩ = some (.slice ia i ic) := hs.rcell (List.mem_cons_of_mem _ (List.mem_cons_self ..)) (j := 4) rfl
      by_cases hlt : i < l.length - 2 - 1
      · obtain ⟨la, lc, hvi, hsi⟩ := HVM.out (i + 1) (by omega)
        obtain ⟨b5, o5, rfl, cc⟩ := Sl.cellAny HV5.out (j := i) (u := .slice la l[i + 1].length lc) (by
          rw [Nat.mul_one, Nat.mul_one, List.getElem?_drop, List.getElem?_take, if_pos (by omega), Nat.add_comm 1 i]
          exact hvi)
        replace cc := hs.keep cc
        have hzi := HZ.out l[i + 1] (List.getElem_mem (by omega))
        have HTK := Mx.hid (show ss ((mid.take (i + 1)).map str) = ss ((mid.take i).map str) ++ [.string (str l[i + 1])] by
          rw [List.take_add_one, HMG.out i hlt, List.map_append, ss_app]
          rfl)
        have hlp := hs.old hsi
        have hii : (i : Int) < ((l.length - 2 - 1 : Nat) : Int) := by omega
        clear hvi hsi
        generalize l[i + 1] = p at *
        go_wp2_with (first | ((with_reducible show wpList _ _ _ _ _ _); refine wpl_b2s rfl 23 9 5 _ rfl Tryd.underlying23 Tryd.underlying5 Tryd.underlying9 (by exact hlp) ?_) | (at_builtin; refine wpl_app rfl _ _ 22 rfl Tryd.elStr (hs.alloc _) rfl (by exact Sl.one _ _ _) (by intro u hu; simp at hu; subst hu; rfl) (by omega) ?_; intro v6 w6 hs6 _; obtain ⟨va6, vc6, rfl, _⟩ := id hs6.sl0) | ((with_reducible show wpList _ _ _ _ _ _); refine wpl_store1 rfl 22 _ _ rfl hs6.swap (4) rfl (.slice va6 (i + 1) vc6) rfl rfl (by kernel_rfl) (by simp) rfl ?_; intro w7 hs7))
        exact ⟨⟨i + 1, .slice va6 (i + 1) vc6, by go_num, by omega, (hs7.cast rfl (show _ = [.int .i64 (numA P 0), .int .i64 (numA P 1), .int .i64 (numA P 2), .int .i64 (numA P 3), .slice va6 (i + 1) vc6, .slice ua nd uc] by simp)).swap.cast rfl HTK.out.symm⟩, by simp [intOf]; omega⟩
      · obtain rfl : i = l.length - 2 - 1 := by omega
        have hmt : mid.take (l.length - 2 - 1) = mid := List.take_of_length_le (by rw [HML.out]; exact Nat.le_refl _)
        rw [hmt] at hs
        have hge : decide (((l.length - 2 - 1 : Nat) : Int) < ((l.length - 2 - 1 : Nat) : Int)) = false := decide_eq_false (by omega)
        clear hmt x4 HMG HV5 hc5
        generalize hN3 : l.length - 2 - 1 = n3 at *
        have hrot := hs.rot.rot
        go_wp2_with (first | ((with_reducible show wpList _ _ _ _ _ _); refine wpl_loadA rfl 25 _ rfl Tryd.aMsg (gO) (0) rfl ([.int .i64 (numA P 0), .int .i64 (numA P 1), .int .i64 (numA P 2), .int .i64 (numA P 3), .slice ia n3 ic, .slice ua nd uc]) rfl (VCof hs (List.mem_cons_of_mem _ (List.mem_cons_self ..))) ?_) | ((with_reducible show wpList _ _ _ _ _ _); refine wpl_storeA rfl 25 _ _ rfl Tryd.aMsg hrot (0) rfl ([.int .i64 (numA P 0), .int .i64 (numA P 1), .int .i64 (numA P 2), .int .i64 (numA P 3), .slice ia n3 ic, .slice ua nd uc]) rfl (by rfl) (by simp) (by intro u hu; simp at hu; rcases hu with rfl | rfl | rfl | rfl | rfl | rfl <;> rfl) ?_; intro w9 hs9))
        replace hs9 := hs9.cast rfl (show _ = [.int .i64 (numA P 0), .int .i64 (numA P 1), .int .i64 (numA P 2), .int .i64 (numA P 3), .slice ia n3 ic, .slice ua nd uc] by simp)
        have hcw : ∀ i u, ([.int .i64 (numA P 0), .int .i64 (numA P 1), .int .i64 (numA P 2), .int .i64 (numA P 3), .slice ia n3 ic, .slice ua nd uc] : List Value)[i]? = some u → w9.cell? ⟨gR, i, none⟩ = some u := fun i u h => hs9.rcell (List.mem_cons_self ..) h
        refine bodyPost_ret (v := .agg ([.int .i64 (numA P 0), .int .i64 (numA P 1), .int .i64 (numA P 2), .int .i64 (numA P 3), .slice ia n3 ic, .slice ua nd uc] : List Value).toArray) (results_cellA Tryd.results30 _ Tryd.aMsg (g := gR) [.int .i64 (numA P 0), .int .i64 (numA P 1), .int .i64 (numA P 2), .int .i64 (numA P 3), .slice ia n3 ic, .slice ua nd uc] ?_ rfl hcw) ?_ ?_
        · first | (simp; done) | simp [Act.put]
        · first | (simp; done) | simp [Act.put]
        · unfold ReadP
          rw [HRM.out]
          have hml : (mid.map str).length = n3 := by rw [List.length_map, HML.out]
          refine ⟨.slice ia n3 ic, .slice ua nd uc, rfl, hs9.bare, ⟨?_, ?_⟩⟩
          · show Sl w9 1 _ (mid.map str).length _
            rw [hml]
            exact hs9.sl1
          · show Sl w9 1 _ D.length (bs D)
            rw [HND.out]
            exact hs9.old HSLD.out
end Go.Proofs.YtloogjdafhjheaaDoor

namespace Go.Mx
open Go Go.RowKit
theorem linesS_le : ∀ (n : Nat) (b : List UInt8) (k : Nat) (acc : List (List UInt8)), b.length - k ≤ n → (∀ p ∈ acc, p.length ≤ b.length) → (∀ p ∈ (linesS b k acc).1, p.length ≤ b.length) ∧ (linesS b k acc).1.length ≤ acc.length + (b.length - k)
  | 0, b, k, acc, hn, ha => by
    rw [linesS, dif_neg (by omega)]
    exact ⟨ha, by simp⟩
  | n + 1, b, k, acc, hn, ha => by
    rw [linesS]
    by_cases h : k < b.length
    · rw [dif_pos h]
      by_cases h1 : b.length - k < 4
      · rw [if_pos h1]; exact ⟨by simp, by simp⟩
      rw [if_neg h1]
      simp only []
      generalize hm : lenI ((b.take (k + 4)).drop k) 0 = m
      by_cases h2 : m = 0
      · rw [if_pos h2]; exact ⟨ha, by simp⟩
      rw [if_neg h2]
      by_cases h3 : m < 4
      · rw [if_pos h3]; exact ⟨by simp, by simp⟩
      rw [if_neg h3]
      by_cases h4 : ((b.length - k : Nat) : Int) < m
      · rw [if_pos h4]; exact ⟨by simp, by simp⟩
      rw [if_neg h4]
      have ih := linesS_le n b (k + m.toNat) (acc ++ [(b.take (k + m.toNat)).drop (k + 4)]) (by omega) (fun p hp => by
        rcases List.mem_append.1 hp with hp | hp
        · exact ha p hp
        · rw [List.mem_singleton.1 hp, List.length_drop, List.length_take]; omega)
      refine ⟨ih.1, ?_⟩
      have := ih.2
      rw [List.length_append, List.length_singleton] at this
      omega
    · rw [dif_neg h]
      exact ⟨ha, by simp⟩
theorem read_sizes {ls : List (List UInt8)} {n : Nat} (h : ∀ p ∈ ls, p.length ≤ n) : ∀ x ∈ (readM ls).ids, x.size ≤ n := by
  unfold readM
  split
  · simp [noMs]
  · intro x hx
    simp only [] at hx
    obtain ⟨p, hp, rfl⟩ := List.mem_map.1 hx
    rw [str_size]
    exact h p (List.mem_of_mem_take (List.mem_of_mem_drop hp))
theorem results_cellA2 {P : Program} {fn : Func} {p q : Tmp} {ty : TypeId} (h : fn.results = #[.cell p ty, .tmp q]) (tmps : Array Value) {n : Nat} (A : Ag P ty n) {w : World} {g : Nat} (cs : List Value) (hp : tmps.getD p undef = .pointer (some ⟨g, 0, none⟩)) (hn : cs.length = n)
    (hc : ∀ i u, cs[i]? = some u → w.cell? ⟨g, i, none⟩ = some u) {u : Value} (hq : tmps.getD q undef = u) : (results fn tmps).run P w = .ok (.tuple #[.agg cs.toArray, u]) w := by
  have hp' : tmps[p]?.getD undef = .pointer (some ⟨g, 0, none⟩) := by simpa using hp
  have hq' : tmps[q]?.getD undef = u := by simpa using hq
  simp [results, h, hp', hq', asAddr, run_loadA A hn (g := g) (j := 0) (by simpa using hc)]
theorem St.addApart {w0 w : World} {R : List Row} {Q : List Rd} (h : St w0 w R Q) {q : Rd} (hq : Sl w q.size q.v q.n q.xs) (ha : ∀ r ∈ R, q.xs ≠ [] → ∀ b, r.v.ownBlock = some b → q.v.ownBlock ≠ some b) : St w0 w R (q :: Q) where
  below := h.below
  own := h.own
  sep := h.sep
  rd p hp := by
    rcases List.mem_cons.1 hp with rfl | hp
    · exact hq
    · exact h.rd p hp
  apart p hp r hr hne b hb := by
    rcases List.mem_cons.1 hp with rfl | hp
    · exact ha r hr hne b hb
    · exact h.apart p hp r hr hne b hb
/-- Cells of another kind lie elsewhere. -/
theorem kind_apart {w : World} {base g n k size : Nat} {e : TypeId} {zs : List Value} (ho : Ow w base e size (.slice (some ⟨g, 0, none⟩) n n) n zs) {v : Value} {xs : List Value} (hq : Sl w 1 v k xs) (hno : ∀ u ∈ xs, u ∉ zs) (hne : xs ≠ []) : v.ownBlock ≠ some g := by
  intro hb
  obtain ⟨u, l, rfl⟩ : ∃ u l, xs = u :: l := by
    cases xs with
    | nil => exact absurd rfl hne
    | cons u l => exact ⟨u, l, rfl⟩
  obtain ⟨ao, cap, rfl, _, _, _, _, h5⟩ := hq.form
  obtain ⟨b, off, rfl, hc⟩ := h5 (by simp)
  have hc0 := hc 0 u rfl
  obtain rfl : b = g := by simpa [Value.ownBlock] using hb
  rcases ho.2 with ⟨h1, _⟩ | ⟨g', cap', cur, fr, hv, _, hg, _, hn, hm, hcs, htk⟩
  · cases h1
  · cases hv
    have hcell := cell_of_row w b (off + 0) cur e fr hg
    rw [hc0] at hcell
    have hmem : u ∈ cur.toList := by
      rw [List.mem_iff_getElem?]
      exact ⟨off + 0, by simpa using hcell.symm⟩
    have hall : cur.toList = zs := by
      rw [← htk, List.take_of_length_le (by rw [Array.length_toList, hcs]; exact Nat.le_refl _)]
    rw [hall] at hmem
    exact hno u (List.mem_cons_self ..) hmem
end Go.Mx
namespace Go.Proofs.YtloogjdafhjheaaDoor
open Go.RowKit Go.Mx
def DecPp (b : List UInt8) (w : World) (e : Ending) (w' : World) : Prop :=
  ∃ iv dv M er, e = .returned (.tuple #[MV iv dv M, .int .i64 er]) ∧ St w w' [] [] ∧ MB w' iv dv M ∧ DecM b M er
set_option maxRecDepth 200000 in
set_option maxHeartbeats 4000000 in
theorem decP_any (v : Value) (b : List UInt8) (w : World) (hv : Sl w 1 v b.length (bs b)) (hb : b.length ≤ 1000000) (hL : LdP w) :
    Calls Tryd.prog 12 #[v] w (DecPp b w) := by
  have HL := Mx.hid (fun wx (hs : St w wx [] []) => hL.keep hs)
  have HV := Mx.hid hv
  obtain ⟨ao, cap, rfl, c1, c2, -⟩ := hv.form
  unfold maxLen at c2
  have hs0 := (St.refl w).madeAt ([.int .i64 0, .int .i64 0, .int .i64 0, .int .i64 0, .slice none 0 0, .slice none 0 0]).toArray 25 6 1 w.heap.size rfl (by simp [maxLen]) rfl
  clear hv hL
  go_enter Tryd.func12, Tryd.ntmps12
  go_upto_region 1 with fail
  change Code.wp _ _ _ _ (w.alloc (.cells #[.int .i64 0, .int .i64 0, .int .i64 0, .int .i64 0, .slice none 0 0, .slice none 0 0] 25))
  change St w (w.alloc (.cells #[.int .i64 0, .int .i64 0, .int .i64 0, .int .i64 0, .slice none 0 0, .slice none 0 0] 25)) _ _ at hs0
  generalize w.alloc (.cells #[.int .i64 0, .int .i64 0, .int .i64 0, .int .i64 0, .slice none 0 0, .slice none 0 0] 25) = w1 at hs0 ⊢
  generalize w.heap.size = gR at hs0 ⊢
  by_cases h8 : b.length < 8
  · have q1 : decide ((b.length : Int) < 8) = true := decide_eq_true (by omega)
    have HD := Mx.hid (dec_short h8)
    go_wp2_with ((with_reducible show wpList _ _ _ _ _ _); refine wpl_storeA rfl 25 _ _ rfl Tryd.aMsg hs0 (0) rfl ([.int .i64 0, .int .i64 0, .int .i64 0, .int .i64 0, .slice none 0 0, .slice none 0 0]) rfl (by rfl) (by simp) (by intro u hu; simp at hu; rcases hu with rfl | rfl | rfl | rfl | rfl | rfl <;> rfl) ?_; intro w9 hs9)
    replace hs9 := hs9.cast rfl (show _ = [.int .i64 0, .int .i64 0, .int .i64 0, .int .i64 0, .slice none 0 0, .slice none 0 0] by simp)
    have hcw : ∀ i u, ([.int .i64 0, .int .i64 0, .int .i64 0, .int .i64 0, .slice none 0 0, .slice none 0 0])[i]? = some u → w9.cell? ⟨gR, i, none⟩ = some u := fun i u h => hs9.rcell (List.mem_cons_self ..) h
    refine bodyPost_ret (v := .tuple #[.agg ([.int .i64 0, .int .i64 0, .int .i64 0, .int .i64 0, .slice none 0 0, .slice none 0 0]).toArray, .int .i64 2]) (results_cellA2 Tryd.results12 _ Tryd.aMsg (g := gR) ([.int .i64 0, .int .i64 0, .int .i64 0, .int .i64 0, .slice none 0 0, .slice none 0 0]) ?_ rfl hcw ?_) ?_ ?_
    · first | (simp; done) | simp [Act.put]
    · first | (simp; done) | simp [Act.put]
    · first | (simp; done) | simp [Act.put]
    · exact ⟨.slice none 0 0, .slice none 0 0, noMs, 2, rfl, hs9.bare, ⟨Sl.nil _ _, Sl.nil _ _⟩, HD.out⟩
  have H8 := Mx.hid h8
  have q1 : decide ((b.length : Int) < 8) = false := decide_eq_false (by omega)
  obtain ⟨nb, hnb⟩ : ∃ nb, nb = b.length - 4 := ⟨_, rfl⟩
  have hnb4 : 4 ≤ nb := by omega
  have HNB := Mx.hid hnb
  have HNI := Mx.hid (show (b.length : Int) - 4 = (nb : Int) by omega)
  have hnle : nb ≤ b.length := by omega
  have hnbl : nb ≤ 1000000 := by omega
  clear hnb
  have n5 : IntKind.i64.wrap ((b.length : Int) - 4) = (b.length : Int) - 4 := IntWalk.i64_in _ (by omega)
  have hv1 := hs0.old HV.out
  go_upto_region 4 with ((with_reducible show wpList _ _ _ _ _ _); refine wpl_cut rfl 23 _ _ _ rfl Tryd.elU8 (by exact hv1) 0 nb (.inl ⟨rfl, rfl⟩) (.inr ⟨.i64, congrArg some (congrArg (Value.int .i64) HNI.out)⟩) (by omega) (by omega) ?_; intro v4 hc4; have hv4 := hc4 w HV.out; rw [Nat.sub_zero] at hv4; obtain ⟨a4, c4, rfl, -⟩ := id hv4)
  have hbt : (b.take nb).length = nb := by rw [List.length_take]; omega
  have e4 : ((bs b).take (nb * 1)).drop (0 * 1) = bs (b.take nb) := by rw [bs_cut]; simp
  rw [e4] at hv4
  have HBT := Mx.hid hbt
  have HV4 := Mx.hid hv4
  obtain ⟨x9, p9, q9⟩ := HV.out.cutRun (P := Tryd.prog) Tryd.elU8 (some (.int .i64 (nb : Int))) none nb b.length (.inr ⟨.i64, rfl⟩) (.inl ⟨rfl, rfl⟩) (by omega) (Nat.le_refl _)
  have hx9 := q9 w HV.out
  have e9 : ((bs b).take (b.length * 1)).drop (nb * 1) = bs (b.drop nb) := by rw [bs_cut, List.take_length]
  rw [e9] at hx9
  have HDL := Mx.hid (show (b.drop nb).length = b.length - nb from List.length_drop)
  have HX9 := Mx.hid hx9
  obtain ⟨xa, xc, rfl, -⟩ := id hx9
  have HERR := Mx.hid (show b.length - 4 = nb from HNB.out.symm)
  clear hbt e4 hv4 hc4 q9 hx9 e9 n5 hv1
  have hc := hs0.drew
  have HSUM := Mx.hid (fun wx (R : List Row) (Q : List Rd) (h : St w wx R Q) => sum_any (.slice a4 nb c4) (b.take nb) wx (by rw [HBT.out]; exact h.old HV4.out) (by rw [HBT.out]; omega))
  have HFL := Mx.hid (fourL_len (crcS (b.take nb)))
  have HBTK : Hid (∃ F, F = fourL (crcS (b.take nb))) := ⟨_, rfl⟩
  obtain ⟨F, hF⟩ := HBTK.out
  rw [← hF] at HSUM HFL
  have HF := Mx.hid hF
  clear hF HBTK
  (refine wp_region_S (7) (fun _ => True) (by kernel_rfl) ?_ (fun hHeld => ?_); (focus ((try dsimp only); (first | done | trivial))))
  (refine wpAnyS_takeW (i := 0) (v := ?_) rfl (by kernel_rfl) (by kernel_rfl) (by kernel_rfl) (by kernel_rfl) (fun _ _ _ h => h) (Or.inl ⟨by rfl, ?_⟩) hHeld ?_; rotate_left 1; (focus (intro w' hSw; go_simp; (try with_reducible rfl))); (try simp only [Act.put, List.setIfInBounds_toArray, List.set_cons_zero, List.set_cons_succ]))
  (refine wpAnyS_takeW (i := 2) (v := ?_) rfl (by kernel_rfl) (by kernel_rfl) (by kernel_rfl) (by kernel_rfl) (fun _ _ _ h => h) (Or.inl ⟨by rfl, ?_⟩) hHeld ?_; rotate_left 1; (focus (intro w' hSw; go_simp; (try with_reducible rfl))); (try simp only [Act.put, List.setIfInBounds_toArray, List.set_cons_zero, List.set_cons_succ]))
  (refine wpAnyS_takeW (i := 3) (v := ?_) rfl (by kernel_rfl) (by kernel_rfl) (by kernel_rfl) (by kernel_rfl) (fun _ _ _ h => h) (Or.inl ⟨by rfl, ?_⟩) hHeld ?_; rotate_left 1; (focus (intro w' hSw; go_simp; (try with_reducible rfl))); (try simp only [Act.put, List.setIfInBounds_toArray, List.set_cons_zero, List.set_cons_succ]))
  (refine wpAnyS_takeW (i := 4) (v := ?_) rfl (by kernel_rfl) (by kernel_rfl) (by kernel_rfl) (by kernel_rfl) (fun _ _ _ h => h) (Or.inl ⟨by rfl, ?_⟩) hHeld ?_; rotate_left 1; (focus (intro w' hSw; go_simp; (try with_reducible rfl))); (try simp only [Act.put, List.setIfInBounds_toArray, List.set_cons_zero, List.set_cons_succ]))
  (refine wpAnyS_takeW (i := 5) (v := ?_) rfl (by kernel_rfl) (by kernel_rfl) (by kernel_rfl) (by kernel_rfl) (fun _ _ _ h => h) (Or.inl ⟨by rfl, ?_⟩) hHeld ?_; rotate_left 1; (focus (intro w' hSw; go_simp; (try with_reducible rfl))); (try simp only [Act.put, List.setIfInBounds_toArray, List.set_cons_zero, List.set_cons_succ]))
  (refine wpAnyS_ready (rs := [1]) (by kernel_rfl) (by simp) ?_; refine AllS.consL rfl (fun K hK => ?_) AllS.nil)
  (go_simp; go_at_call 24; refine (HSUM.out _ _ _ hc).mono ?_; rintro e w' ⟨vS, rfl, hkS⟩; go_wp2_with fail)
  have hc2 := hc.call1 hkS
  obtain ⟨sA, sC, rfl, -⟩ := id hkS.sl0
  have hkF := hkS.sl0
  rw [show (4 : Nat) = F.length from HFL.out.symm] at hkF
  (refine hK.out _ _ ?_ (fun hHeld => ?_); (focus ((try dsimp only); (first | done | trivial))); clear hK K; (try simp only [Act.put, List.setIfInBounds_toArray, List.set_cons_zero, List.set_cons_succ]))
  obtain ⟨w3, rfl⟩ : ∃ W : World, W = w' := ⟨_, rfl⟩
  have HEQ := Mx.hid (beq_any _ _ F (b.drop nb) w3 hkF (by rw [HDL.out]; exact hc2.old HX9.out))
  rw [HFL.out] at HEQ
  (refine wpAnyS_ready (rs := [6]) (by kernel_rfl) (by simp) ?_; refine AllS.consL rfl (fun K hK => ?_) AllS.nil)
  (go_simp; go_at_call 29; refine (HEQ.out).mono ?_; rintro e w' ⟨rfl, rfl⟩; go_wp2_with fail)
  (refine hK.out _ _ ?_ (fun hHeld => ?_); (focus ((try dsimp only); (first | done | trivial))); clear hK K; (try simp only [Act.put, List.setIfInBounds_toArray, List.set_cons_zero, List.set_cons_succ]))
  (refine wpAnyS_seq (by rfl) (by kernel_rfl) ?_; simp only [List.drop_succ_cons, List.drop_zero])
  clear hHeld HEQ hkF hkS hc hs0 p9
  have hs2 := hc2.tail
  clear hc2
  by_cases hsum : F = b.drop nb
  case neg =>
    have HD := Mx.hid (show DecM b noMs 5 from dec_sum H8.out (by rw [HERR.out, ← HF.out]; exact hsum))
    rw [decide_eq_false hsum]
    clear hsum
    go_wp2_with ((with_reducible show wpList _ _ _ _ _ _); refine wpl_storeA rfl 25 _ _ rfl Tryd.aMsg hs2 (0) rfl ([.int .i64 0, .int .i64 0, .int .i64 0, .int .i64 0, .slice none 0 0, .slice none 0 0]) rfl (by rfl) (by simp) (by intro u hu; simp at hu; rcases hu with rfl | rfl | rfl | rfl | rfl | rfl <;> rfl) ?_; intro w9 hs9)
    replace hs9 := hs9.cast rfl (show _ = [.int .i64 0, .int .i64 0, .int .i64 0, .int .i64 0, .slice none 0 0, .slice none 0 0] by simp)
    have hcw : ∀ i u, ([.int .i64 0, .int .i64 0, .int .i64 0, .int .i64 0, .slice none 0 0, .slice none 0 0])[i]? = some u → w9.cell? ⟨gR, i, none⟩ = some u := fun i u h => hs9.rcell (List.mem_cons_self ..) h
    refine bodyPost_ret (v := .tuple #[.agg ([.int .i64 0, .int .i64 0, .int .i64 0, .int .i64 0, .slice none 0 0, .slice none 0 0]).toArray, .int .i64 5]) (results_cellA2 Tryd.results12 _ Tryd.aMsg (g := gR) ([.int .i64 0, .int .i64 0, .int .i64 0, .int .i64 0, .slice none 0 0, .slice none 0 0]) ?_ rfl hcw ?_) ?_ ?_
    · first | (simp; done) | simp [Act.put]
    · first | (simp; done) | simp [Act.put]
    · first | (simp; done) | simp [Act.put]
    · exact ⟨.slice none 0 0, .slice none 0 0, noMs, 5, rfl, hs9.bare, ⟨Sl.nil _ _, Sl.nil _ _⟩, HD.out⟩
  case pos =>
  have HFORM := Mx.hid (fun (h : ∀ m, mayM m = true → encM m ≠ b) => (show DecM b noMs 4 from dec_form H8.out (by rw [HERR.out, ← HF.out]; exact hsum) h))
  rw [decide_eq_true hsum]
  clear hsum HF HX9
  have hlin := Lines_any (.slice a4 nb c4) (b.take nb) w3 (by rw [HBT.out]; exact hs2.old HV4.out) (by rw [HBT.out]; omega)
  have hle := linesS_le (b.take nb).length (b.take nb) 0 [] (by omega) (by simp)
  obtain ⟨ls, pl, el, hls⟩ : ∃ ls pl el, linesS (b.take nb) 0 [] = (ls, pl, el) := ⟨_, _, _, rfl⟩
  unfold LinesPost at hlin
  rw [hls] at hlin hle
  simp only [] at hlin hle
  rw [HBT.out] at hle
  have HLN := Mx.hid hlin
  have HRD := Mx.hid (fun (m : Ms) (h : mayM m = true) (he : encM m = b) => dec_read (show linesS (b.take (b.length - 4)) 0 [] = (ls, pl, el) by rw [HERR.out]; exact hls) h he)
  have HZ := Mx.hid hle.1
  have hll : ls.length ≤ 1000000 := by have := hle.2; simp at this; omega
  clear hlin hls hle
  go_wp2_with fail
  refine HLN.out.mono ?_
  rintro e w5 ⟨vl, rfl, hk5, hLL⟩
  have hs5 := hs2.call0 hk5
  clear hs2 hk5 HLN
  obtain ⟨_, _, _, _, _, hvl, _⟩ := hLL.at
  subst hvl
  by_cases hel : el = 0
  case neg =>
    have HD := Mx.hid (HFORM.out (fun m h he => hel (HRD.out m h he).1))
    have q3 : decide (el = 0) = false := decide_eq_false hel
    have q4 : (el == 0) = false := by simpa using hel
    clear hel
    go_wp2_with ((with_reducible show wpList _ _ _ _ _ _); refine wpl_storeA rfl 25 _ _ rfl Tryd.aMsg hs5 (0) rfl ([.int .i64 0, .int .i64 0, .int .i64 0, .int .i64 0, .slice none 0 0, .slice none 0 0]) rfl (by rfl) (by simp) (by intro u hu; simp at hu; rcases hu with rfl | rfl | rfl | rfl | rfl | rfl <;> rfl) ?_; intro w9 hs9)
    replace hs9 := hs9.cast rfl (show _ = [.int .i64 0, .int .i64 0, .int .i64 0, .int .i64 0, .slice none 0 0, .slice none 0 0] by simp)
    have hcw : ∀ i u, ([.int .i64 0, .int .i64 0, .int .i64 0, .int .i64 0, .slice none 0 0, .slice none 0 0])[i]? = some u → w9.cell? ⟨gR, i, none⟩ = some u := fun i u h => hs9.rcell (List.mem_cons_self ..) h
    refine bodyPost_ret (v := .tuple #[.agg ([.int .i64 0, .int .i64 0, .int .i64 0, .int .i64 0, .slice none 0 0, .slice none 0 0]).toArray, .int .i64 4]) (results_cellA2 Tryd.results12 _ Tryd.aMsg (g := gR) ([.int .i64 0, .int .i64 0, .int .i64 0, .int .i64 0, .slice none 0 0, .slice none 0 0]) ?_ rfl hcw ?_) ?_ ?_
    · first | (simp; done) | simp [Act.put]
    · first | (simp; done) | simp [Act.put]
    · first | (simp; done) | simp [Act.put]
    · exact ⟨.slice none 0 0, .slice none 0 0, noMs, 4, rfl, hs9.bare, ⟨Sl.nil _ _, Sl.nil _ _⟩, HD.out⟩
  case pos =>
  subst hel
  have HRP := Mx.hid (readP_any _ ls w5 hLL (fun p hp => by have := HZ.out p hp; omega) hll (HL.out _ hs5.bare))
  have HSZ := Mx.hid (read_sizes HZ.out)
  have HRM := Mx.hid (fun (m : Ms) (h : mayM m = true) (he : encM m = b) => (HRD.out m h he).2.2)
  clear hLL HRD
  unfold ReadP at HRP
  generalize readM ls = r at *
  go_wp2_with fail
  refine HRP.out.mono ?_
  rintro e w6 ⟨iv, dv, rfl, hk6, hMB⟩
  have hs6 := hs5.call0 hk6
  have HEN := Mx.hid (fun wx (h : St w6 wx [] []) => encP_any iv dv r wx (hMB.old h) (fun x hx => by have := HSZ.out x hx; omega) (HL.out _ (hs6.bare.call0 h)))
  have HMB := Mx.hid hMB
  have HDF := Mx.hid (fun (h : ¬ (mayM r = true ∧ encM r = b)) => HFORM.out (fun m hm he => h (by rw [HRM.out m hm he]; exact ⟨hm, he⟩)))
  have hi0 := hMB.i
  have hd0 := hMB.d
  obtain ⟨R, hR⟩ : ∃ R, R = r := ⟨_, rfl⟩
  have HRR := Mx.hid hR
  obtain ⟨kind, seq, n, mm, ids, data⟩ := r
  simp only [] at hi0 hd0
  obtain ⟨io, ic, rfl, -⟩ := hi0.form
  obtain ⟨dq, dc, rfl, -⟩ := hd0.form
  rw [← hR] at HEN HMB HDF ⊢
  have hE : MV (.slice io ids.length ic) (.slice dq data.length dc) R = .agg #[.int .i64 kind, .int .i64 seq, .int .i64 n, .int .i64 mm, .slice io ids.length ic, .slice dq data.length dc] := by
    rw [hR]
    rfl
  have HE := Mx.hid hE
  rw [hE] at HEN ⊢
  have hsQ := (hs6.addApart (q := ⟨.slice dq data.length dc, 1, data.length, bs data⟩) hd0 (fun r hr hne b hb => by
    obtain rfl := List.mem_singleton.1 hr
    obtain rfl : b = gR := by simpa [Value.ownBlock] using hb.symm
    exact kind_apart (hs6.own _ (List.mem_singleton.2 rfl)) hd0 (fun u hu => by obtain ⟨x, _, rfl⟩ := List.mem_map.1 hu; simp) hne)).addApart (q := ⟨.slice io ids.length ic, 1, ids.length, ss ids⟩) hi0 (fun r hr hne b hb => by
    obtain rfl := List.mem_singleton.1 hr
    obtain rfl : b = gR := by simpa [Value.ownBlock] using hb.symm
    exact kind_apart (hs6.own _ (List.mem_singleton.2 rfl)) hi0 (fun u hu => by obtain ⟨x, _, rfl⟩ := List.mem_map.1 hu; simp) hne)
  have HID : Hid (R.ids = ids ∧ R.data = data) := by
    show _ ∧ _
    rw [hR]
    exact ⟨rfl, rfl⟩
  clear hE hR hi0 hd0 hMB HRP HRM HSZ HFORM hs5 hk6 hs6
  go_upto_region 10 with (((with_reducible show wpList _ _ _ _ _ _); refine wpl_storeA rfl 25 _ _ rfl Tryd.aMsg ((St.refl w6).madeAt ([.int .i64 0, .int .i64 0, .int .i64 0, .int .i64 0, .slice none 0 0, .slice none 0 0]).toArray 25 6 1 _ rfl (by simp [maxLen]) rfl) (0) rfl ([.int .i64 kind, .int .i64 seq, .int .i64 n, .int .i64 mm, .slice io ids.length ic, .slice dq data.length dc]) rfl (by rfl) (by simp) (by intro u hu; simp at hu; rcases hu with rfl | rfl | rfl | rfl | rfl | rfl <;> rfl) ?_; intro w7 hs7))
  replace hs7 := hs7.cast rfl (show _ = [.int .i64 kind, .int .i64 seq, .int .i64 n, .int .i64 mm, .slice io ids.length ic, .slice dq data.length dc] by simp)
  generalize w6.heap.size = gM at *
  have hsA := hsQ.call hs7
  have hcM := VCof hs7 (List.mem_cons_self ..)
  go_wp2_with ((with_reducible show wpList _ _ _ _ _ _); refine wpl_loadA rfl 25 _ rfl Tryd.aMsg (gM) (0) rfl ([.int .i64 kind, .int .i64 seq, .int .i64 n, .int .i64 mm, .slice io ids.length ic, .slice dq data.length dc]) rfl hcM ?_)
  refine (HEN.out _ hs7.bare).mono ?_
  rintro e w8 (⟨hmay, vx, rfl, hk8⟩ | ⟨hmay, rfl, hk8⟩)
  case inr =>
    have HD := Mx.hid (HDF.out (fun h => by rw [hmay] at h; cases h.1))
    have hs8 := (hsA.call0 hk8).swap
    clear hmay hk8 hsA hsQ hs7 hcM
    go_wp2_with (first | ((with_reducible show wpList _ _ _ _ _ _); refine wpl_want rfl ?_) | ((with_reducible show wpList _ _ _ _ _ _); refine wpl_storeA rfl 25 _ _ rfl Tryd.aMsg hs8 (0) rfl ([.int .i64 0, .int .i64 0, .int .i64 0, .int .i64 0, .slice none 0 0, .slice none 0 0]) rfl (by rfl) (by simp) (by intro u hu; simp at hu; rcases hu with rfl | rfl | rfl | rfl | rfl | rfl <;> rfl) ?_; intro w9 hs9))
    replace hs9 := hs9.cast rfl (show _ = [.int .i64 0, .int .i64 0, .int .i64 0, .int .i64 0, .slice none 0 0, .slice none 0 0] by simp)
    have hcw : ∀ i u, ([.int .i64 0, .int .i64 0, .int .i64 0, .int .i64 0, .slice none 0 0, .slice none 0 0])[i]? = some u → w9.cell? ⟨gR, i, none⟩ = some u := fun i u h => hs9.rcell (List.mem_cons_self ..) h
    refine bodyPost_ret (v := .tuple #[.agg ([.int .i64 0, .int .i64 0, .int .i64 0, .int .i64 0, .slice none 0 0, .slice none 0 0]).toArray, .int .i64 4]) (results_cellA2 Tryd.results12 _ Tryd.aMsg (g := gR) ([.int .i64 0, .int .i64 0, .int .i64 0, .int .i64 0, .slice none 0 0, .slice none 0 0]) ?_ rfl hcw ?_) ?_ ?_
    · first | (simp; done) | simp [Act.put]
    · first | (simp; done) | simp [Act.put]
    · first | (simp; done) | simp [Act.put]
    · exact ⟨.slice none 0 0, .slice none 0 0, noMs, 4, rfl, hs9.bare, ⟨Sl.nil _ _, Sl.nil _ _⟩, HD.out⟩
  case inl =>
  have hs8 := (hsA.call0 hk8.bare).swap
  obtain ⟨xA, xC, rfl, -⟩ := id hk8.sl0
  have HEQ := Mx.hid (beq_any _ _ (encM R) b w8 hk8.sl0 (hs8.old HV.out))
  have HMAY := Mx.hid hmay
  clear hmay hk8 hsA hsQ hs7 hcM
  by_cases henc : encM R = b
  case neg =>
    have HD := Mx.hid (HDF.out (fun h => henc h.2))
    rw [decide_eq_false henc] at HEQ
    clear henc
    go_wp2_with (first | ((with_reducible show wpList _ _ _ _ _ _); refine wpl_want rfl ?_) | (go_at_call 29; refine HEQ.out.mono ?_; rintro e w' ⟨rfl, rfl⟩) | ((with_reducible show wpList _ _ _ _ _ _); refine wpl_storeA rfl 25 _ _ rfl Tryd.aMsg hs8 (0) rfl ([.int .i64 0, .int .i64 0, .int .i64 0, .int .i64 0, .slice none 0 0, .slice none 0 0]) rfl (by rfl) (by simp) (by intro u hu; simp at hu; rcases hu with rfl | rfl | rfl | rfl | rfl | rfl <;> rfl) ?_; intro w9 hs9))
    replace hs9 := hs9.cast rfl (show _ = [.int .i64 0, .int .i64 0, .int .i64 0, .int .i64 0, .slice none 0 0, .slice none 0 0] by simp)
    have hcw : ∀ i u, ([.int .i64 0, .int .i64 0, .int .i64 0, .int .i64 0, .slice none 0 0, .slice none 0 0])[i]? = some u → w9.cell? ⟨gR, i, none⟩ = some u := fun i u h => hs9.rcell (List.mem_cons_self ..) h
    refine bodyPost_ret (v := .tuple #[.agg ([.int .i64 0, .int .i64 0, .int .i64 0, .int .i64 0, .slice none 0 0, .slice none 0 0]).toArray, .int .i64 4]) (results_cellA2 Tryd.results12 _ Tryd.aMsg (g := gR) ([.int .i64 0, .int .i64 0, .int .i64 0, .int .i64 0, .slice none 0 0, .slice none 0 0]) ?_ rfl hcw ?_) ?_ ?_
    · first | (simp; done) | simp [Act.put]
    · first | (simp; done) | simp [Act.put]
    · first | (simp; done) | simp [Act.put]
    · exact ⟨.slice none 0 0, .slice none 0 0, noMs, 4, rfl, hs9.bare, ⟨Sl.nil _ _, Sl.nil _ _⟩, HD.out⟩
  case pos =>
  have HENC := Mx.hid henc
  rw [decide_eq_true henc] at HEQ
  clear henc
  have hcM8 := VCof hs8 (List.mem_cons_of_mem _ (List.mem_cons_self ..))
  go_wp2_with (first | ((with_reducible show wpList _ _ _ _ _ _); refine wpl_want rfl ?_) | (go_at_call 29; refine HEQ.out.mono ?_; rintro e w' ⟨rfl, rfl⟩) | ((with_reducible show wpList _ _ _ _ _ _); refine wpl_loadA rfl 25 _ rfl Tryd.aMsg (gM) (0) rfl ([.int .i64 kind, .int .i64 seq, .int .i64 n, .int .i64 mm, .slice io ids.length ic, .slice dq data.length dc]) rfl hcM8 ?_) | ((with_reducible show wpList _ _ _ _ _ _); refine wpl_storeA rfl 25 _ _ rfl Tryd.aMsg hs8 (0) rfl ([.int .i64 kind, .int .i64 seq, .int .i64 n, .int .i64 mm, .slice io ids.length ic, .slice dq data.length dc]) rfl (by rfl) (by simp) (by intro u hu; simp at hu; rcases hu with rfl | rfl | rfl | rfl | rfl | rfl <;> rfl) ?_; intro w9 hs9))
  replace hs9 := hs9.cast rfl (show _ = [.int .i64 kind, .int .i64 seq, .int .i64 n, .int .i64 mm, .slice io ids.length ic, .slice dq data.length dc] by simp)
  have hcw : ∀ i u, ([.int .i64 kind, .int .i64 seq, .int .i64 n, .int .i64 mm, .slice io ids.length ic, .slice dq data.length dc] : List Value)[i]? = some u → w9.cell? ⟨gR, i, none⟩ = some u := fun i u h => hs9.rcell (List.mem_cons_self ..) h
  refine bodyPost_ret (v := .tuple #[.agg ([.int .i64 kind, .int .i64 seq, .int .i64 n, .int .i64 mm, .slice io ids.length ic, .slice dq data.length dc] : List Value).toArray, .int .i64 0]) (results_cellA2 Tryd.results12 _ Tryd.aMsg (g := gR) [.int .i64 kind, .int .i64 seq, .int .i64 n, .int .i64 mm, .slice io ids.length ic, .slice dq data.length dc] ?_ rfl hcw ?_) ?_ ?_
  · first | (simp; done) | simp [Act.put]
  · first | (simp; done) | simp [Act.put]
  · first | (simp; done) | simp [Act.put]
  · refine ⟨.slice io ids.length ic, .slice dq data.length dc, R, 0, ?_, hs9.bare, ⟨?_, ?_⟩, .inl ⟨rfl, HMAY.out, HENC.out⟩⟩
    · rw [HE.out]
    · rw [HID.out.1]; exact hs9.q0
    · rw [HID.out.2]; exact hs9.q1
end Go.Proofs.YtloogjdafhjheaaDoor
