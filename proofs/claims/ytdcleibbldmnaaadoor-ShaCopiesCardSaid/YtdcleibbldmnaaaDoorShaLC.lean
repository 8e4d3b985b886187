/- marlaw1.ShaCopies. -/
import Derived.Test.YtdcleibbldmnaaaDoorShaX
import Derived.Test.YtdcleibbldmnaaaDoorShaY
import Derived.Test.YtdcleibbldmnaaaDoorHeld
namespace Go.Proofs.YtdcleibbldmnaaaDoor
open Go.RowKit Go.Mx

/-- The reads of a state, in any order, fewer. -/
theorem Mx.reads {w0 w : World} {R : List Row} {Q Q' : List Rd} (h : St w0 w R Q) (hq : ∀ q ∈ Q', q ∈ Q) : St w0 w R Q' := h.sub (List.Sublist.refl _) hq

theorem step_appW {P : Program} {w0 w : World} {R : List Row} {Qs : List Rd} {ops : Array Oper} {o : Oper} {a : Act} {K : Act → World → Prop} {Q : Exit → Act → World → Prop} {E : Prop} (hw : Region.wanted o (yielded ops a.tmps) = true) (s x : Operand) (t : TypeId)
    (ho : o.op = .call { callee := .builtin .append, args := #[s, x], argTypes := #[t, t] })
    {v : Value} {e : TypeId} {size bytes n : Nat} (El : El P t e size bytes) {xs : List Value} (hst : St w0 w (⟨v, e, size, n, xs⟩ :: R) Qs) (hs : a.eval s = v)
    {m : Nat} {news : List Value} (hx : Sl w size (a.eval x) m news) (h1 : ∀ u ∈ news, u.oneCell' = true) (hbytes : (n + m) * bytes ≤ 140737488355328)
    (h : ∀ v' w', St w0 w' (⟨v', e, size, n + m, xs ++ news⟩ :: R) Qs → (v' = .slice none 0 0 ↔ v = .slice none 0 0 ∧ m = 0) → K (a.put o.dst v') w') :
    if Region.wanted o (yielded ops a.tmps) = true then Oper.wp P o a w K Q else E := by
  rw [if_pos hw]
  obtain ⟨i, z, h2, h3, h4, h5, h6⟩ := El.hi
  have hl : news.length = m * size := hx.len
  obtain ⟨v', w', hr, g2, g3, g4, g5⟩ := run_append_src (P := P) w0.heap.size t t o.type e i z size bytes El.ht (.slice e) El.ht (.inr ⟨_, rfl⟩) h2 h3 h4 h5 h6 v n xs (hst.own _ (List.mem_cons_self ..)) (a.eval x) m news hl (lenOf_sl hx) (firstCells_sl hx) h1 (len_of_bytes El.hb hbytes) hbytes hst.size
  unfold Oper.wp execOp
  simp only [ho, resolve, invoke, builtin, Sem.run_bind, Sem.run_pure, Result.andThen_ok, List.map_toArray, List.map_cons, List.map_nil, hs, hr]
  exact h v' w' (hst.turn g2 g3 g4) g5

set_option maxRecDepth 100000 in
set_option maxHeartbeats 2000000 in
theorem shaCopiesRow (vb : Value) (b : List UInt8) {w : World} (hb : Sl w 1 vb b.length (bs b)) (vm : Value) (m : List UInt8) (hm : Sl w 1 vm m.length (bs m)) (k : Int) (hk : (Lit.int .i64 k).wf = true) (_w : World) (hL : Laid w) :
    Calls Tryd.prog 5 #[vb, vm, .int .i64 k] w fun e w' => e = .returned (.bool true) ∧ Below w.heap.size w w' := by
  have HB := Mx.hid hb
  have HM := Mx.hid hm
  have HL := Mx.hid (fun w' (R : List Row) (Q : List Rd) (h : St w w' R Q) => hL.keep h)
  obtain ⟨bo, bc, rfl, _⟩ := id hb
  obtain ⟨mo, mc, rfl, _⟩ := id hm
  clear hb hm
  go_enter Tryd.func5, Tryd.ntmps5
  go_wp2_with fail
  refine (first_any _ hL).mono ?_
  rintro e w1 ⟨rfl, hs1⟩
  clear hL
  have hend : Calls Tryd.prog 9 #[] w1 fun e w' => e = .returned (.bool true) ∧ St w w' [] [] := (first_any _ (HL.out _ _ _ hs1)).mono fun _ _ h => ⟨h.1, hs1.call0 h.2⟩
  have HE := Mx.hid hend
  clear hend
  have g1 : (6000 : Int) < (b.length : Int) ∨ ¬ (6000 : Int) < (b.length : Int) := by omega
  have g2 : (6000 : Int) < (m.length : Int) ∨ ¬ (6000 : Int) < (m.length : Int) := by omega
  have g3 : k < 0 ∨ ¬ k < 0 := by omega
  have g4 : (b.length : Int) < k ∨ ¬ (b.length : Int) < k := by omega
  rcases g1 with b1 | b1
  · go_wp2_with fail
    refine HE.out.mono ?_
    rintro e w2 ⟨rfl, hs2⟩
    go_wp2_with fail
    go_ret
    exact ⟨rfl, hs2.below⟩
  rcases g2 with b2 | b2
  · go_wp2_with (first | ((with_reducible show wpList _ _ _ _ _ _); refine wpl_want rfl ?_))
    refine HE.out.mono ?_
    rintro e w2 ⟨rfl, hs2⟩
    go_wp2_with fail
    go_ret
    exact ⟨rfl, hs2.below⟩
  rcases g3 with b3 | b3
  · go_wp2_with (first | ((with_reducible show wpList _ _ _ _ _ _); refine wpl_want rfl ?_))
    refine HE.out.mono ?_
    rintro e w2 ⟨rfl, hs2⟩
    go_wp2_with fail
    go_ret
    exact ⟨rfl, hs2.below⟩
  rcases g4 with b4 | b4
  · go_wp2_with (first | ((with_reducible show wpList _ _ _ _ _ _); refine wpl_want rfl ?_))
    refine HE.out.mono ?_
    rintro e w2 ⟨rfl, hs2⟩
    go_wp2_with fail
    go_ret
    exact ⟨rfl, hs2.below⟩
  obtain ⟨k, rfl⟩ := Int.eq_ofNat_of_zero_le (show 0 ≤ k by omega)
  clear hk
  have hbl : b.length ≤ 6000 := by omega
  have hml : m.length ≤ 6000 := by omega
  have hkb : k ≤ b.length := by omega
  go_wp2_with (first | ((with_reducible show wpList _ _ _ _ _ _); refine wpl_want rfl ?_))
  refine (newM w w1 [] [] hs1 (fun w' h => HL.out _ _ _ h)).mono ?_
  rintro e w2 ⟨g, gc, v0, rfl, hs2⟩
  obtain ⟨xo, xc, px, qx⟩ := cutT HB.out hkb
  obtain ⟨yo, yc, py, qy⟩ := cutD HB.out hkb
  have HX := Mx.hid (qx _ HB.out)
  have HY := Mx.hid (qy _ HB.out)
  have hs3 := Mx.reads (Q' := rst v0 [] :: [rdb (.slice xo k xc) (b.take k), rdb (.slice yo (b.length - k) yc) (b.drop k), rdb (.slice mo m.length mc) m, cq gc]) (((hs2.addQ (q := rdb (.slice xo k xc) (b.take k)) HX.out).addQ (q := rdb (.slice yo (b.length - k) yc) (b.drop k)) HY.out).addQ (q := rdb (.slice mo m.length mc) m) HM.out) (by simp only [List.mem_cons, List.not_mem_nil, or_false]; grind)
  clear hs1 hs2 HE qx qy
  have Hx1 := Mx.hid (show (b.take k).length ≤ 1000000000 by rw [List.length_take]; omega)
  have Hy1 := Mx.hid (show (b.drop k).length ≤ 1000000000 by rw [List.length_drop]; omega)
  have HA := Mx.hid (List.take_append_drop k b)
  go_wp2_with (first | ((with_reducible show wpList _ _ _ _ _ _); refine wpl_want rfl ?_))
  refine (writeM w w2 [] _ g gc v0 _ [] (b.take k) hs3 (by simp) (by simp) (by simp) Hx1.out).mono ?_
  rintro e w3 ⟨v1, rfl, hs4⟩
  rw [List.nil_append] at hs4
  clear hs3
  go_wp2_with (first | ((with_reducible show wpList _ _ _ _ _ _); refine wpl_want rfl ?_))
  refine (copyM w w3 [] _ g gc v1 _ hs4).mono ?_
  rintro e w4 ⟨g', v2, rfl, hs5⟩
  clear hs4
  go_wp2_with (first | ((with_reducible show wpList _ _ _ _ _ _); refine wpl_want rfl ?_))
  have hs6 := Mx.reads (Q' := rst v1 (b.take k) :: [rst v2 (b.take k), rdb (.slice xo k xc) (b.take k), rdb (.slice yo (b.length - k) yc) (b.drop k), rdb (.slice mo m.length mc) m, cq gc]) hs5.swap (by simp only [List.mem_cons, List.not_mem_nil, or_false]; grind)
  clear hs5
  refine (writeM w w4 _ _ g gc v1 _ (b.take k) (b.drop k) hs6 (by simp) (by simp) Hx1.out Hy1.out).mono ?_
  rintro e w5 ⟨v3, rfl, hs7⟩
  rw [HA.out] at hs7
  clear hs6
  have hs8 := Mx.reads (Q' := rst v2 (b.take k) :: [rst v3 b, rdb (.slice xo k xc) (b.take k), rdb (.slice mo m.length mc) m, cq gc]) hs7.swap (by simp only [List.mem_cons, List.not_mem_nil, or_false]; grind)
  clear hs7
  go_wp2_with (first | ((with_reducible show wpList _ _ _ _ _ _); refine wpl_want rfl ?_))
  refine (writeM w w5 _ _ g' gc v2 _ (b.take k) m hs8 (by simp) (by simp) Hx1.out (by omega)).mono ?_
  rintro e w6 ⟨v4, rfl, hs9⟩
  clear hs8
  have Hd := Mx.hid (show (b.take k ++ m).length ≤ 1000000000 by rw [List.length_append, List.length_take]; omega)
  have Hdl := Mx.hid (show (b.take k ++ m).length = k + m.length by rw [List.length_append, List.length_take]; omega)
  generalize hdd : b.take k ++ m = d at *
  have HDD := Mx.hid hdd
  clear hdd
  have hsA := Mx.reads (Q' := rst v3 b :: [rst v4 d, rdb (.slice xo k xc) (b.take k), rdb (.slice mo m.length mc) m, cq gc]) hs9.swap (by simp only [List.mem_cons, List.not_mem_nil, or_false]; grind)
  clear hs9
  go_wp2_with (first | ((with_reducible show wpList _ _ _ _ _ _); refine wpl_want rfl ?_))
  refine (sumM w w6 _ _ g gc v3 b hsA (by simp) (by omega)).mono ?_
  rintro e w7 ⟨s, rfl, hsB⟩
  have hsC := hsB.swap
  have hsC := hsC.addQ (q := rdb (.slice none 0 0) []) ⟨none, 0, rfl, by simp, by simp, rfl, fun _ => rfl, fun j u hj => by simp [bs] at hj⟩
  have hsD := Mx.reads (Q' := rst v3 b :: [rdb (.slice none 0 0) [], rst v4 d, rdb (.slice xo k xc) (b.take k), rdb (.slice mo m.length mc) m, cq gc]) hsC (by simp only [List.mem_cons, List.not_mem_nil, or_false]; grind)
  clear hsA hsB hsC
  go_wp2_with (first | ((with_reducible show wpList _ _ _ _ _ _); refine wpl_want rfl ?_))
  refine (writeM w w7 _ _ g gc v3 _ b [] hsD (by simp) (by simp) (by omega) (by simp)).mono ?_
  rintro e w8 ⟨v5, rfl, hsE⟩
  rw [List.append_nil] at hsE
  clear hsD
  go_wp2_with (first | ((with_reducible show wpList _ _ _ _ _ _); refine wpl_want rfl ?_))
  refine (sumM w w8 _ _ g gc v5 b hsE (by simp) (by omega)).mono ?_
  rintro e w9 ⟨s2, rfl, hsF⟩
  clear hsE
  go_wp2_with (first | ((with_reducible show wpList _ _ _ _ _ _); refine wpl_want rfl ?_))
  (refine wp_region_S (40) (fun _ => True) (by kernel_rfl) ?_ (fun hHeld => ?_); (focus ((try dsimp only); (all_goals (intros; trivial)))))
  (refine wpAnyS_ready (rs := [0]) (by kernel_rfl) (by simp) ?_; refine AllS.consL rfl (fun K hK => ?_) AllS.nil)
  (go_simp; go_at_call 9; refine (first_any _ (HL.out _ _ _ hsF.drew)).mono ?_; rintro e w' ⟨rfl, hkG⟩; go_wp2_with fail)
  have hsG := hsF.drew.call0 hkG
  (refine hK.out _ _ ?_ (fun hHeld => ?_); (focus ((try dsimp only); all_goals trivial)); clear hK K; (try simp only [Act.put, List.setIfInBounds_toArray, List.set_cons_zero, List.set_cons_succ]))
  clear hkG hsF
  (refine wpAnyS_takeW (i := 1) (v := ?_) rfl (by kernel_rfl) (by kernel_rfl) (by kernel_rfl) (by kernel_rfl) (fun _ _ _ h => h) (Or.inl ⟨by rfl, ?_⟩) hHeld ?_; rotate_left 1; (focus (intro w' hSw; go_simp; (try with_reducible rfl))); (try simp only [Act.put, List.setIfInBounds_toArray, List.set_cons_zero, List.set_cons_succ]))
  (refine wpAnyS_takeW (i := 2) (v := ?_) rfl (by kernel_rfl) (by kernel_rfl) (by kernel_rfl) (by kernel_rfl) (fun _ _ _ h => h) (Or.inl ⟨by rfl, ?_⟩) hHeld ?_; rotate_left 1; (focus (intro w' hSw; go_simp; (try with_reducible rfl))); (try simp only [Act.put, List.setIfInBounds_toArray, List.set_cons_zero, List.set_cons_succ]))
  (refine wpAnyS_takeW (i := 3) (v := ?_) rfl (by kernel_rfl) (by kernel_rfl) (by kernel_rfl) (by kernel_rfl) (fun _ _ _ h => h) (Or.inl ⟨by rfl, ?_⟩) hHeld ?_; rotate_left 1; (focus (intro w' hSw; go_simp; (try with_reducible rfl))); (try simp only [Act.put, List.setIfInBounds_toArray, List.set_cons_zero, List.set_cons_succ]))
  (refine wpAnyS_ready (rs := [4]) (by kernel_rfl) (by simp) ?_; refine AllS.consL rfl (fun K hK => ?_) AllS.nil)
  (go_simp; go_at_call 13; refine (sum_any _ _ b (hsG.old HB.out) (by omega) (fun w' h => HL.out _ _ _ (hsG.call0 h))).mono ?_; rintro e w' ⟨y1, rfl, hkH⟩; go_wp2_with fail)
  have hkH' : St _ _ [byr y1 (sha b)] [] := hkH.cast (sha_len b).symm rfl
  have hsH := hsG.call1 hkH'
  (refine hK.out _ _ ?_ (fun hHeld => ?_); (focus ((try dsimp only); all_goals trivial)); clear hK K; (try simp only [Act.put, List.setIfInBounds_toArray, List.set_cons_zero, List.set_cons_succ]))
  clear hkH hkH' hsG
  (refine wpAnyS_ready (rs := [5]) (by kernel_rfl) (by simp) ?_; refine AllS.consL rfl (fun K hK => ?_) AllS.nil)
  (go_simp; go_at_call 15; refine (bytes_any s y1 _ _ _ (hsH.sl (r := byr s (sha b)) (by simp)) hsH.sl0).mono ?_; rintro e w' ⟨rfl, rfl⟩; go_wp2_with fail)
  (refine hK.out _ _ ?_ (fun hHeld => ?_); (focus ((try dsimp only); all_goals trivial)); clear hK K; (try simp only [Act.put, List.setIfInBounds_toArray, List.set_cons_zero, List.set_cons_succ]))
  (refine wpAnyS_takeW (i := 6) (v := ?_) rfl (by kernel_rfl) (by kernel_rfl) (by kernel_rfl) (by kernel_rfl) (fun _ _ _ h => h) (Or.inl ⟨by rfl, ?_⟩) hHeld ?_; rotate_left 1; (focus (intro w' hSw; go_simp; (try with_reducible rfl))); (try simp only [Act.put, List.setIfInBounds_toArray, List.set_cons_zero, List.set_cons_succ]))
  (refine wpAnyS_takeW (i := 7) (v := ?_) rfl (by kernel_rfl) (by kernel_rfl) (by kernel_rfl) (by kernel_rfl) (fun _ _ _ h => h) (Or.inl ⟨by rfl, ?_⟩) hHeld ?_; rotate_left 1; (focus (intro w' hSw; go_simp; (try with_reducible rfl))); (try simp only [Act.put, List.setIfInBounds_toArray, List.set_cons_zero, List.set_cons_succ]))
  (refine wpAnyS_takeW (i := 8) (v := ?_) rfl (by kernel_rfl) (by kernel_rfl) (by kernel_rfl) (by kernel_rfl) (fun _ _ _ h => h) (Or.inl ⟨by rfl, ?_⟩) hHeld ?_; rotate_left 1; (focus (intro w' hSw; go_simp; (try with_reducible rfl))); (try simp only [Act.put, List.setIfInBounds_toArray, List.set_cons_zero, List.set_cons_succ]))
  (refine wpAnyS_takeW (i := 9) (v := ?_) rfl (by kernel_rfl) (by kernel_rfl) (by kernel_rfl) (by kernel_rfl) (fun _ _ _ h => h) (Or.inl ⟨by rfl, ?_⟩) hHeld ?_; rotate_left 1; (focus (intro w' hSw; go_simp; (try with_reducible rfl))); (try simp only [Act.put, List.setIfInBounds_toArray, List.set_cons_zero, List.set_cons_succ]))
  (refine wpAnyS_ready (rs := [10]) (by kernel_rfl) (by simp) ?_; refine AllS.consL rfl (fun K hK => ?_) AllS.nil)
  (go_simp; go_at_call 15; refine (bytes_any s2 s _ _ _ (hsH.sl (r := byr s2 (sha b)) (by simp)) (hsH.sl (r := byr s (sha b)) (by simp))).mono ?_; rintro e w' ⟨rfl, rfl⟩; go_wp2_with fail)
  (refine hK.out _ _ ?_ (fun hHeld => ?_); (focus ((try dsimp only); all_goals trivial)); clear hK K; (try simp only [Act.put, List.setIfInBounds_toArray, List.set_cons_zero, List.set_cons_succ]))
  (refine wpAnyS_takeW (i := 11) (v := ?_) rfl (by kernel_rfl) (by kernel_rfl) (by kernel_rfl) (by kernel_rfl) (fun _ _ _ h => h) (Or.inl ⟨by rfl, ?_⟩) hHeld ?_; rotate_left 1; (focus (intro w' hSw; go_simp; (try with_reducible rfl))); (try simp only [Act.put, List.setIfInBounds_toArray, List.set_cons_zero, List.set_cons_succ]))
  (refine wpAnyS_takeW (i := 12) (v := ?_) rfl (by kernel_rfl) (by kernel_rfl) (by kernel_rfl) (by kernel_rfl) (fun _ _ _ h => h) (Or.inl ⟨by rfl, ?_⟩) hHeld ?_; rotate_left 1; (focus (intro w' hSw; go_simp; (try with_reducible rfl))); (try simp only [Act.put, List.setIfInBounds_toArray, List.set_cons_zero, List.set_cons_succ]))
  (refine wpAnyS_takeW (i := 13) (v := ?_) rfl (by kernel_rfl) (by kernel_rfl) (by kernel_rfl) (by kernel_rfl) (fun _ _ _ h => h) (Or.inl ⟨by rfl, ?_⟩) hHeld ?_; rotate_left 1; (focus (intro w' hSw; go_simp; (try with_reducible rfl))); (try simp only [Act.put, List.setIfInBounds_toArray, List.set_cons_zero, List.set_cons_succ]))
  (refine wpAnyS_takeW (i := 15) (v := ?_) rfl (by kernel_rfl) (by kernel_rfl) (by kernel_rfl) (by kernel_rfl) (fun _ _ _ h => h) (Or.inl ⟨by rfl, ?_⟩) hHeld ?_; rotate_left 1; (focus (intro w' hSw; go_simp; (try with_reducible rfl))); (try simp only [Act.put, List.setIfInBounds_toArray, List.set_cons_zero, List.set_cons_succ]))
  (refine wpAnyS_takeW (i := 16) (v := ?_) rfl (by kernel_rfl) (by kernel_rfl) (by kernel_rfl) (by kernel_rfl) (fun _ _ _ h => h) (Or.inl ⟨by rfl, ?_⟩) hHeld ?_; rotate_left 1; (focus (intro w' hSw; go_simp; (try with_reducible rfl))); (try simp only [Act.put, List.setIfInBounds_toArray, List.set_cons_zero, List.set_cons_succ]))
  (refine wpAnyS_takeW (i := 17) (v := ?_) rfl (by kernel_rfl) (by kernel_rfl) (by kernel_rfl) (by kernel_rfl) (fun _ _ _ h => h) (Or.inl ⟨by rfl, ?_⟩) hHeld ?_; rotate_left 1; (focus (intro w' hSw; go_simp; (try with_reducible rfl))); (try simp only [Act.put, List.setIfInBounds_toArray, List.set_cons_zero, List.set_cons_succ]))
  (refine wpAnyS_takeW (i := 19) (v := ?_) rfl (by kernel_rfl) (by kernel_rfl) (by kernel_rfl) (by kernel_rfl) (fun _ _ _ h => h) (Or.inl ⟨by rfl, ?_⟩) hHeld ?_; rotate_left 1; (focus (intro w' hSw; go_simp; (try with_reducible rfl))); (try simp only [Act.put, List.setIfInBounds_toArray, List.set_cons_zero, List.set_cons_succ]))
  have hsI : St w _ [HS g' gc d v4, byr y1 (sha b), byr s2 (sha b), HS g gc b v5, byr s (sha b)] (rst v4 d :: [cq gc]) := Mx.reads (hsH.perm (List.perm_append_comm (l₁ := [byr y1 (sha b), byr s2 (sha b), HS g gc b v5, byr s (sha b)]) (l₂ := [HS g' gc d v4]))) (by simp only [List.mem_cons, List.not_mem_nil, or_false]; grind)
  clear hsH
  (refine wpAnyS_ready (rs := [14]) (by kernel_rfl) (by simp) ?_; refine AllS.consL rfl (fun K hK => ?_) AllS.nil)
  (go_simp; go_at_call 12; refine (sumM w _ _ _ g' gc v4 d hsI (by simp) Hd.out).mono ?_; rintro e w' ⟨z, rfl, hsJ⟩; go_wp2_with fail)
  (refine hK.out _ _ ?_ (fun hHeld => ?_); (focus ((try dsimp only); all_goals trivial)); clear hK K; (try simp only [Act.put, List.setIfInBounds_toArray, List.set_cons_zero, List.set_cons_succ]))
  clear hsI
  (refine wpAnyS_ready (rs := [18]) (by kernel_rfl) (by simp) ?_; refine AllS.consL rfl (fun K hK => ?_) AllS.nil)
  (go_simp; go_at_call 14; refine (copyBytes_any (.slice xo k xc) (b.take k) _ (hsJ.old HX.out) (by have := Hx1.out; omega)).mono ?_; rintro e w' ⟨c1, rfl, hkK⟩; go_wp2_with fail)
  have hsK := hsJ.call1 hkK
  (refine hK.out _ _ ?_ (fun hHeld => ?_); (focus ((try dsimp only); all_goals trivial)); clear hK K; (try simp only [Act.put, List.setIfInBounds_toArray, List.set_cons_zero, List.set_cons_succ]))
  clear hkK hsJ
  have Hkl := Mx.hid (show ((b.take k).length + m.length) * 1 ≤ 140737488355328 by rw [List.length_take]; omega)
  (refine wpAnyS_ready (rs := [20]) (by kernel_rfl) (by simp) ?_; refine AllS.consL rfl (fun K hK => ?_) AllS.nil)
  refine step_appW rfl _ _ 22 rfl Tryd.elU8 hsK rfl (by exact hsK.old HM.out) (bs_one _) Hkl.out ?_
  intro c2 w' hsL _
  (refine hK.out _ _ ?_ (fun hHeld => ?_); (focus ((try dsimp only); all_goals trivial)); clear hK K; (try simp only [Act.put, List.setIfInBounds_toArray, List.set_cons_zero, List.set_cons_succ]))
  have hsM : St w w' (byr c2 d :: _) _ := hsL.cast (by rw [← HDD.out, List.length_append]) (by rw [← HDD.out, bs_app])
  clear hsL hsK
  (refine wpAnyS_ready (rs := [21]) (by kernel_rfl) (by simp) ?_; refine AllS.consL rfl (fun K hK => ?_) AllS.nil)
  (go_simp; go_at_call 13; refine (sum_any _ c2 d hsM.sl0 Hd.out (fun w' h => HL.out _ _ _ (hsM.call0 h))).mono ?_; rintro e w' ⟨y2, rfl, hkN⟩; go_wp2_with fail)
  have hkN' : St _ _ [byr y2 (sha d)] [] := hkN.cast (sha_len d).symm rfl
  have hsN := hsM.call1 hkN'
  (refine hK.out _ _ ?_ (fun hHeld => ?_); (focus ((try dsimp only); all_goals trivial)); clear hK K; (try simp only [Act.put, List.setIfInBounds_toArray, List.set_cons_zero, List.set_cons_succ]))
  clear hkN hkN' hsM
  (refine wpAnyS_ready (rs := [22]) (by kernel_rfl) (by simp) ?_; refine AllS.consL rfl (fun K hK => ?_) AllS.nil)
  (go_simp; go_at_call 15; refine (bytes_any z y2 (sha d) (sha d) _ (hsN.sl (r := byr z (sha d)) (by simp)) hsN.sl0).mono ?_; rintro e w' ⟨rfl, rfl⟩; go_wp2_with fail)
  (refine hK.out _ _ ?_ (fun hHeld => ?_); (focus ((try dsimp only); all_goals trivial)); clear hK K; (try simp only [Act.put, List.setIfInBounds_toArray, List.set_cons_zero, List.set_cons_succ]))
  (refine wpAnyS_takeW (i := 23) (v := ?_) rfl (by kernel_rfl) (by kernel_rfl) (by kernel_rfl) (by kernel_rfl) (fun _ _ _ h => h) (Or.inl ⟨by rfl, ?_⟩) hHeld ?_; rotate_left 1; (focus (intro w' hSw; go_simp; (try with_reducible rfl))); (try simp only [Act.put, List.setIfInBounds_toArray, List.set_cons_zero, List.set_cons_succ]))
  (refine wpAnyS_takeW (i := 24) (v := ?_) rfl (by kernel_rfl) (by kernel_rfl) (by kernel_rfl) (by kernel_rfl) (fun _ _ _ h => h) (Or.inl ⟨by rfl, ?_⟩) hHeld ?_; rotate_left 1; (focus (intro w' hSw; go_simp; (try with_reducible rfl))); (try simp only [Act.put, List.setIfInBounds_toArray, List.set_cons_zero, List.set_cons_succ]))
  (refine wpAnyS_takeW (i := 25) (v := ?_) rfl (by kernel_rfl) (by kernel_rfl) (by kernel_rfl) (by kernel_rfl) (fun _ _ _ h => h) (Or.inl ⟨by rfl, ?_⟩) hHeld ?_; rotate_left 1; (focus (intro w' hSw; go_simp; (try with_reducible rfl))); (try simp only [Act.put, List.setIfInBounds_toArray, List.set_cons_zero, List.set_cons_succ]))
  (refine wpAnyS_takeW (i := 27) (v := ?_) rfl (by kernel_rfl) (by kernel_rfl) (by kernel_rfl) (by kernel_rfl) (fun _ _ _ h => h) (Or.inl ⟨by rfl, ?_⟩) hHeld ?_; rotate_left 1; (focus (intro w' hSw; go_simp; (try with_reducible rfl))); (try simp only [Act.put, List.setIfInBounds_toArray, List.set_cons_zero, List.set_cons_succ]))
  (refine wpAnyS_takeW (i := 28) (v := ?_) rfl (by kernel_rfl) (by kernel_rfl) (by kernel_rfl) (by kernel_rfl) (fun _ _ _ h => h) (Or.inl ⟨by rfl, ?_⟩) hHeld ?_; rotate_left 1; (focus (intro w' hSw; go_simp; (try with_reducible rfl))); (try simp only [Act.put, List.setIfInBounds_toArray, List.set_cons_zero, List.set_cons_succ]))
  have hsO := hsN.perm (List.perm_middle (l₁ := [byr y2 (sha d), byr c2 d, byr z (sha d), HS g' gc d v4, byr y1 (sha b), byr s2 (sha b)]) (a := HS g gc b v5) (l₂ := [byr s (sha b)]))
  have hsP := hsN.perm (List.perm_middle (l₁ := [byr y2 (sha d), byr c2 d, byr z (sha d)]) (a := HS g' gc d v4) (l₂ := [byr y1 (sha b), byr s2 (sha b), HS g gc b v5, byr s (sha b)]))
  have HBelow := Mx.hid hsN.below
  clear hsN
  (refine wpAnyS_ready (rs := [26]) (by kernel_rfl) (by simp) ?_; refine AllS.consL rfl (fun K hK => ?_) AllS.nil)
  (go_simp; go_at_call 16; refine (lenM w _ _ _ g gc v5 b hsO).mono ?_; rintro e w' ⟨rfl, rfl⟩; go_wp2_with fail)
  (refine hK.out _ _ ?_ (fun hHeld => ?_); (focus ((try dsimp only); all_goals trivial)); clear hK K; (try simp only [Act.put, List.setIfInBounds_toArray, List.set_cons_zero, List.set_cons_succ]))
  clear hsO
  (refine wpAnyS_takeW (i := 29) (v := ?_) rfl (by kernel_rfl) (by kernel_rfl) (by kernel_rfl) (by kernel_rfl) (fun _ _ _ h => h) (Or.inl ⟨by rfl, ?_⟩) hHeld ?_; rotate_left 1; (focus (intro w' hSw; go_simp; (try with_reducible rfl))); (try simp only [Act.put, List.setIfInBounds_toArray, List.set_cons_zero, List.set_cons_succ]))
  (refine wpAnyS_takeW (i := 30) (v := ?_) rfl (by kernel_rfl) (by kernel_rfl) (by kernel_rfl) (by kernel_rfl) (fun _ _ _ h => h) (Or.inl ⟨by rfl, ?_⟩) hHeld ?_; rotate_left 1; (focus (intro w' hSw; go_simp; (try with_reducible rfl))); (try simp only [Act.put, List.setIfInBounds_toArray, List.set_cons_zero, List.set_cons_succ]))
  (refine wpAnyS_takeW (i := 31) (v := ?_) rfl (by kernel_rfl) (by kernel_rfl) (by kernel_rfl) (by kernel_rfl) (fun _ _ _ h => h) (Or.inl ⟨by rfl, ?_⟩) hHeld ?_; rotate_left 1; (focus (intro w' hSw; go_simp; (try with_reducible rfl))); (try simp only [Act.put, List.setIfInBounds_toArray, List.set_cons_zero, List.set_cons_succ]))
  (refine wpAnyS_takeW (i := 32) (v := ?_) rfl (by kernel_rfl) (by kernel_rfl) (by kernel_rfl) (by kernel_rfl) (fun _ _ _ h => h) (Or.inl ⟨by rfl, ?_⟩) hHeld ?_; rotate_left 1; (focus (intro w' hSw; go_simp; (try with_reducible rfl))); (try simp only [Act.put, List.setIfInBounds_toArray, List.set_cons_zero, List.set_cons_succ]))
  (refine wpAnyS_takeW (i := 34) (v := ?_) rfl (by kernel_rfl) (by kernel_rfl) (by kernel_rfl) (by kernel_rfl) (fun _ _ _ h => h) (Or.inl ⟨by rfl, ?_⟩) hHeld ?_; rotate_left 1; (focus (intro w' hSw; go_simp; (try with_reducible rfl))); (try simp only [Act.put, List.setIfInBounds_toArray, List.set_cons_zero, List.set_cons_succ]))
  (refine wpAnyS_takeW (i := 35) (v := ?_) rfl (by kernel_rfl) (by kernel_rfl) (by kernel_rfl) (by kernel_rfl) (fun _ _ _ h => h) (Or.inl ⟨by rfl, ?_⟩) hHeld ?_; rotate_left 1; (focus (intro w' hSw; go_simp; (try with_reducible rfl))); (try simp only [Act.put, List.setIfInBounds_toArray, List.set_cons_zero, List.set_cons_succ]))
  (refine wpAnyS_takeW (i := 36) (v := ?_) rfl (by kernel_rfl) (by kernel_rfl) (by kernel_rfl) (by kernel_rfl) (fun _ _ _ h => h) (Or.inl ⟨by rfl, ?_⟩) hHeld ?_; rotate_left 1; (focus (intro w' hSw; go_simp; (try with_reducible rfl))); (try simp only [Act.put, List.setIfInBounds_toArray, List.set_cons_zero, List.set_cons_succ]))
  (refine wpAnyS_takeW (i := 37) (v := ?_) rfl (by kernel_rfl) (by kernel_rfl) (by kernel_rfl) (by kernel_rfl) (fun _ _ _ h => h) (Or.inl ⟨by rfl, ?_⟩) hHeld ?_; rotate_left 1; (focus (intro w' hSw; go_simp; (try with_reducible rfl))); (try simp only [Act.put, List.setIfInBounds_toArray, List.set_cons_zero, List.set_cons_succ]))
  (refine wpAnyS_ready (rs := [33]) (by kernel_rfl) (by simp) ?_; refine AllS.consL rfl (fun K hK => ?_) AllS.nil)
  (go_simp; go_at_call 16; refine (lenM w _ _ _ g' gc v4 d hsP).mono ?_; rintro e w' ⟨rfl, rfl⟩; go_wp2_with fail)
  (refine hK.out _ _ ?_ (fun hHeld => ?_); (focus ((try dsimp only); all_goals trivial)); clear hK K; (try simp only [Act.put, List.setIfInBounds_toArray, List.set_cons_zero, List.set_cons_succ]))
  clear hsP
  have hkm : (d.length : Int) = (k : Int) + (m.length : Int) := by have := Hdl.out; omega
  have hwr : IntKind.i64.wrap ((k : Int) + (m.length : Int)) = (k : Int) + (m.length : Int) := IntWalk.i64_in _ (by omega)
  (refine wpAnyS_takeW (i := 38) (v := ?_) rfl (by kernel_rfl) (by kernel_rfl) (by kernel_rfl) (by kernel_rfl) (fun _ _ _ h => h) (Or.inl ⟨by rfl, ?_⟩) hHeld ?_; rotate_left 1; (focus (intro w' hSw; go_simp; (try with_reducible rfl))); (try simp only [Act.put, List.setIfInBounds_toArray, List.set_cons_zero, List.set_cons_succ]))
  (refine wpAnyS_takeW (i := 39) (v := ?_) rfl (by kernel_rfl) (by kernel_rfl) (by kernel_rfl) (by kernel_rfl) (fun _ _ _ h => h) (Or.inl ⟨by rfl, ?_⟩) hHeld ?_; rotate_left 1; (focus (intro w' hSw; go_simp; (try with_reducible rfl))); (try simp only [Act.put, List.setIfInBounds_toArray, List.set_cons_zero, List.set_cons_succ]))
  (refine wpAnyS_seq (by rfl) (by kernel_rfl) ?_; simp only [List.drop_succ_cons, List.drop_zero])
  go_wp2_with fail
  go_ret
  exact ⟨rfl, HBelow.out⟩
end Go.Proofs.YtdcleibbldmnaaaDoor
