/- Walks of the walker's two methods. -/
import Derived.Test.YtafmgclhgmhflaaDoorD3K
import Derived.Test.YtafmgclhgmhflaaDoorD3C
import Derived.Test.YtafmgclhgmhflaaDoorLibA
import Derived.Test.YtafmgclhgmhflaaDoorHeld
namespace Go.Proofs.YtafmgclhgmhflaaDoor
open Go.RowKit Go.Mx

theorem Tryd.elChunk : El Tryd.prog 26 42 4 80 := El.mk' Tryd.underlying26 (z := .agg #[.int .i64 0, .slice none 0 0, .slice none 0 0, .slice none 0 0]) (by kernel_rfl) rfl (by omega)

/-- The walker's variable. -/
abbrev wkr (g : Nat) (vo va vb : Value) (i j k : Nat) (vout : Value) : Row :=
  ⟨.slice (some ⟨g, 0, none⟩) 1 1, 54, 7, 1, [vo, va, vb, .int .i64 (i : Int), .int .i64 (j : Int), .int .i64 (k : Int), vout]⟩
abbrev ckr (v : Value) (vs : List V3) (cs : List Ck) : Row := ⟨v, 42, 4, cs.length, ckc vs cs⟩

def ToPost (w0 : World) (g : Nat) (vo va vb : Value) (i j k : Nat) (cs : List Ck) (e : Ending) (w' : World) : Prop :=
  ∃ (v : Value) (vs : List V3), e = .returned (.tuple #[]) ∧ vs.length = cs.length ∧ St w0 w' [wkr g vo va vb i j k v, ckr v vs cs] (rdc vs cs)

set_option maxRecDepth 100000 in
set_option maxHeartbeats 4000000 in
theorem to_any (w0 w : World) (g : Nat) (vo va vb vout : Value) (o a b : List ByteArray) (i j k i' j' k' : Nat) (vs : List V3) (cs : List Ck)
    (hs : St w0 w [wkr g vo va vb i j k vout, ckr vout vs cs] (rdc vs cs)) (hvs : vs.length = cs.length)
    (ho : Sl w0 1 vo o.length (ss o)) (ha : Sl w0 1 va a.length (ss a)) (hb : Sl w0 1 vb b.length (ss b))
    (hi : i ≤ i') (hj : j ≤ j') (hk : k ≤ k') (hi' : i' ≤ o.length) (hj' : j' ≤ a.length) (hk' : k' ≤ b.length) (lo : o.length ≤ 200) (la : a.length ≤ 200) (lb : b.length ≤ 200) (lc : cs.length ≤ 1000) :
    Calls Tryd.prog 23 #[.pointer (some ⟨g, 0, none⟩), .int .i64 (i' : Int), .int .i64 (j' : Int), .int .i64 (k' : Int)] w (ToPost w0 g vo va vb i' j' k' (cs ++ gap (seg o i i') (seg a j j') (seg b k k'))) := by
  have c0 : w.cell? ⟨g, 0, none⟩ = some vo := hs.rcell (List.mem_cons_self ..) rfl
  have c1 : w.cell? ⟨g, 1, none⟩ = some va := hs.rcell (List.mem_cons_self ..) rfl
  have c2 : w.cell? ⟨g, 2, none⟩ = some vb := hs.rcell (List.mem_cons_self ..) rfl
  have c3 : w.cell? ⟨g, 3, none⟩ = some (.int .i64 (i : Int)) := hs.rcell (List.mem_cons_self ..) rfl
  have c4 : w.cell? ⟨g, 4, none⟩ = some (.int .i64 (j : Int)) := hs.rcell (List.mem_cons_self ..) rfl
  have c5 : w.cell? ⟨g, 5, none⟩ = some (.int .i64 (k : Int)) := hs.rcell (List.mem_cons_self ..) rfl
  obtain ⟨xo, p1, q1⟩ := ho.cutRun Tryd.elStr (some (.int .i64 (i : Int))) (some (.int .i64 (i' : Int))) i i' (.inr ⟨.i64, rfl⟩) (.inr ⟨.i64, rfl⟩) hi hi'
  obtain ⟨xa, p2, q2⟩ := ha.cutRun Tryd.elStr (some (.int .i64 (j : Int))) (some (.int .i64 (j' : Int))) j j' (.inr ⟨.i64, rfl⟩) (.inr ⟨.i64, rfl⟩) hj hj'
  obtain ⟨xb, p3, q3⟩ := hb.cutRun Tryd.elStr (some (.int .i64 (k : Int))) (some (.int .i64 (k' : Int))) k k' (.inr ⟨.i64, rfl⟩) (.inr ⟨.i64, rfl⟩) hk hk'
  have ho' := Sl.cutS (q1 _ ho) hi' hi
  have ha' := Sl.cutS (q2 _ ha) hj' hj
  have hb' := Sl.cutS (q3 _ hb) hk' hk
  change Sl w0 1 xo (seg o i i').length (ss (seg o i i')) at ho'
  change Sl w0 1 xa (seg a j j').length (ss (seg a j j')) at ha'
  change Sl w0 1 xb (seg b k k').length (ss (seg b k k')) at hb'
  have e1 : (seg o i i').length ≤ 200 := by rw [seg_len' hi']; omega
  have e2 : (seg a j j').length ≤ 200 := by rw [seg_len' hj']; omega
  have e3 : (seg b k k').length ≤ 200 := by rw [seg_len' hk']; omega
  generalize seg o i i' = O at *
  generalize seg a j j' = A at *
  generalize seg b k k' = B at *
  have HO := Mx.hid ho'
  have HA := Mx.hid ha'
  have HB := Mx.hid hb'
  have HVS := Mx.hid hvs
  clear q1 q2 q3 ho ha hb ho' ha' hb' hvs
  have HG := Mx.hid (show gap O A B = if O.length + A.length + B.length = 0 then [] else [⟨kin O A B, O, A, B⟩] from rfl)
  by_cases hz : O.length + A.length + B.length = 0
  · rw [if_pos hz] at HG
    have l1 : O.length = 0 := by omega
    have l2 : A.length = 0 := by omega
    have l3 : B.length = 0 := by omega
    have hz' : ¬ (0 < O.length + A.length + B.length) := by omega
    clear hz
    go_enter Tryd.func23, Tryd.ntmps23
    go_wp2_with fail
    go_quiet (fail)
    replace hs := hs.drewN nq
    clear c0 c1 c2 c3 c4 c5 p1 p2 p3
    go_wp2_with (first | ((with_reducible show wpList _ _ _ _ _ _); refine wpl_store1 rfl 3 _ _ rfl hs (3) rfl (.int .i64 (i' : Int)) rfl rfl (by kernel_rfl) (by simp) rfl ?_; intro w1 hs1) | ((with_reducible show wpList _ _ _ _ _ _); refine wpl_store1 rfl 3 _ _ rfl hs1 (4) rfl (.int .i64 (j' : Int)) rfl rfl (by kernel_rfl) (by simp) rfl ?_; intro w2 hs2) | ((with_reducible show wpList _ _ _ _ _ _); refine wpl_store1 rfl 3 _ _ rfl hs2 (5) rfl (.int .i64 (k' : Int)) rfl rfl (by kernel_rfl) (by simp) rfl ?_; intro w3 hs3) | ((with_reducible show wpList _ _ _ _ _ _); refine wpl_len rfl 22 9 _ rfl Tryd.underlying22 (by exact hs3.old HO.out) ?_) | ((with_reducible show wpList _ _ _ _ _ _); refine wpl_len rfl 22 9 _ rfl Tryd.underlying22 (by exact hs3.old HA.out) ?_) | ((with_reducible show wpList _ _ _ _ _ _); refine wpl_len rfl 22 9 _ rfl Tryd.underlying22 (by exact hs3.old HB.out) ?_))
    go_end0
    unfold ToPost
    rw [HG.out, List.append_nil]
    exact ⟨vout, vs, rfl, HVS.out, hs3⟩
  · rw [if_neg hz] at HG
    have hz' : 0 < O.length + A.length + B.length := by omega
    clear hz
    go_enter Tryd.func23, Tryd.ntmps23
    go_wp2_with fail
    go_quiet (fail)
    replace hs := hs.drewN nq
    clear c0 c1 c2 c3 c4 c5 p1 p2 p3
    go_wp2_with (first | ((with_reducible show wpList _ _ _ _ _ _); refine wpl_store1 rfl 3 _ _ rfl hs (3) rfl (.int .i64 (i' : Int)) rfl rfl (by kernel_rfl) (by simp) rfl ?_; intro w1 hs1) | ((with_reducible show wpList _ _ _ _ _ _); refine wpl_store1 rfl 3 _ _ rfl hs1 (4) rfl (.int .i64 (j' : Int)) rfl rfl (by kernel_rfl) (by simp) rfl ?_; intro w2 hs2) | ((with_reducible show wpList _ _ _ _ _ _); refine wpl_store1 rfl 3 _ _ rfl hs2 (5) rfl (.int .i64 (k' : Int)) rfl rfl (by kernel_rfl) (by simp) rfl ?_; intro w3 hs3) | ((with_reducible show wpList _ _ _ _ _ _); refine wpl_len rfl 22 9 _ rfl Tryd.underlying22 (by exact hs3.old HO.out) ?_) | ((with_reducible show wpList _ _ _ _ _ _); refine wpl_len rfl 22 9 _ rfl Tryd.underlying22 (by exact hs3.old HA.out) ?_) | ((with_reducible show wpList _ _ _ _ _ _); refine wpl_len rfl 22 9 _ rfl Tryd.underlying22 (by exact hs3.old HB.out) ?_))
    have hs4 : St w0 w3 [wkr g vo va vb i' j' k' vout, ckr vout vs cs] (rdc vs cs) := hs3
    have HO4 := Mx.hid (hs4.old HO.out)
    have HA4 := Mx.hid (hs4.old HA.out)
    have HB4 := Mx.hid (hs4.old HB.out)
    have c6 : w3.cell? ⟨g, 6, none⟩ = some vout := hs4.rcell (List.mem_cons_self ..) rfl
    clear hs hs1 hs2 hs3
    (refine wp_region_S (18) (fun W' => W'.cell? ⟨g, 6, none⟩ = some vout) (by kernel_rfl) ?_ (fun hHeld => ?_); (focus ((try dsimp only); go_keep)))
    (refine wpAnyS_takeL (i := 0) (v := ?_) rfl (by kernel_rfl) (by kernel_rfl) (by kernel_rfl) (by kernel_rfl) (by kernel_rfl) (by kernel_rfl) (fun _ _ _ h => h) (Or.inl ⟨by rfl, ?_⟩) hHeld ?_; rotate_left 1; (focus (intro w' hSw; (try dsimp only at hSw); go_simp; (try with_reducible rfl))); (try simp only [Act.put, List.setIfInBounds_toArray, List.set_cons_zero, List.set_cons_succ]))
    (refine wpAnyS_takeL (i := 1) (v := ?_) rfl (by kernel_rfl) (by kernel_rfl) (by kernel_rfl) (by kernel_rfl) (by kernel_rfl) (by kernel_rfl) (fun _ _ _ h => h) (Or.inl ⟨by rfl, ?_⟩) hHeld ?_; rotate_left 1; (focus (intro w' hSw; (try dsimp only at hSw); go_simp; (try with_reducible rfl))); (try simp only [Act.put, List.setIfInBounds_toArray, List.set_cons_zero, List.set_cons_succ]))
    (refine wpAnyS_takeL (i := 2) (v := ?_) rfl (by kernel_rfl) (by kernel_rfl) (by kernel_rfl) (by kernel_rfl) (by kernel_rfl) (by kernel_rfl) (fun _ _ _ h => h) (Or.inl ⟨by rfl, ?_⟩) hHeld ?_; rotate_left 1; (focus (intro w' hSw; (try dsimp only at hSw); go_simp; (try with_reducible rfl))); (try simp only [Act.put, List.setIfInBounds_toArray, List.set_cons_zero, List.set_cons_succ]))
    (refine wpAnyS_takeL (i := 3) (v := ?_) rfl (by kernel_rfl) (by kernel_rfl) (by kernel_rfl) (by kernel_rfl) (by kernel_rfl) (by kernel_rfl) (fun _ _ _ h => h) (Or.inl ⟨by rfl, ?_⟩) hHeld ?_; rotate_left 1; (focus (intro w' hSw; (try dsimp only at hSw); go_simp; (try with_reducible rfl))); (try simp only [Act.put, List.setIfInBounds_toArray, List.set_cons_zero, List.set_cons_succ]))
    (refine wpAnyS_takeL (i := 4) (v := ?_) rfl (by kernel_rfl) (by kernel_rfl) (by kernel_rfl) (by kernel_rfl) (by kernel_rfl) (by kernel_rfl) (fun _ _ _ h => h) (Or.inl ⟨by rfl, ?_⟩) hHeld ?_; rotate_left 1; (focus (intro w' hSw; (try dsimp only at hSw); go_simp; (try with_reducible rfl))); (try simp only [Act.put, List.setIfInBounds_toArray, List.set_cons_zero, List.set_cons_succ]))
    (refine wpAnyS_takeL (i := 5) (v := ?_) rfl (by kernel_rfl) (by kernel_rfl) (by kernel_rfl) (by kernel_rfl) (by kernel_rfl) (by kernel_rfl) (fun _ _ _ h => h) (Or.inl ⟨by rfl, ?_⟩) hHeld ?_; rotate_left 1; (focus (intro w' hSw; (try dsimp only at hSw); go_simp; (try with_reducible rfl))); (try simp only [Act.put, List.setIfInBounds_toArray, List.set_cons_zero, List.set_cons_succ]))
    (refine wpAnyS_takeL (i := 6) (v := ?_) rfl (by kernel_rfl) (by kernel_rfl) (by kernel_rfl) (by kernel_rfl) (by kernel_rfl) (by kernel_rfl) (fun _ _ _ h => h) (Or.inl ⟨by rfl, ?_⟩) hHeld ?_; rotate_left 1; (focus (intro w' hSw; (try dsimp only at hSw); go_simp; (try with_reducible rfl))); (try simp only [Act.put, List.setIfInBounds_toArray, List.set_cons_zero, List.set_cons_succ]))
    (refine wpAnyS_takeL (i := 7) (v := ?_) rfl (by kernel_rfl) (by kernel_rfl) (by kernel_rfl) (by kernel_rfl) (by kernel_rfl) (by kernel_rfl) (fun _ _ _ h => h) (Or.inl ⟨by rfl, ?_⟩) hHeld ?_; rotate_left 1; (focus (intro w' hSw; (try dsimp only at hSw); go_simp; (try with_reducible rfl))); (try simp only [Act.put, List.setIfInBounds_toArray, List.set_cons_zero, List.set_cons_succ]))
    (refine wpAnyS_takeL (i := 9) (v := ?_) rfl (by kernel_rfl) (by kernel_rfl) (by kernel_rfl) (by kernel_rfl) (by kernel_rfl) (by kernel_rfl) (fun _ _ _ h => h) (Or.inl ⟨by rfl, ?_⟩) hHeld ?_; rotate_left 1; (focus (intro w' hSw; (try dsimp only at hSw); go_simp; (try with_reducible rfl))); (try simp only [Act.put, List.setIfInBounds_toArray, List.set_cons_zero, List.set_cons_succ]))
    (refine wpAnyS_takeL (i := 11) (v := ?_) rfl (by kernel_rfl) (by kernel_rfl) (by kernel_rfl) (by kernel_rfl) (by kernel_rfl) (by kernel_rfl) (fun _ _ _ h => h) (Or.inl ⟨by rfl, ?_⟩) hHeld ?_; rotate_left 1; (focus (intro w' hSw; (try dsimp only at hSw); go_simp; (try with_reducible rfl))); (try simp only [Act.put, List.setIfInBounds_toArray, List.set_cons_zero, List.set_cons_succ]))
    (refine wpAnyS_takeL (i := 13) (v := ?_) rfl (by kernel_rfl) (by kernel_rfl) (by kernel_rfl) (by kernel_rfl) (by kernel_rfl) (by kernel_rfl) (fun _ _ _ h => h) (Or.inl ⟨by rfl, ?_⟩) hHeld ?_; rotate_left 1; (focus (intro w' hSw; (try dsimp only at hSw); go_simp; (try with_reducible rfl))); (try simp only [Act.put, List.setIfInBounds_toArray, List.set_cons_zero, List.set_cons_succ]))
    (refine wpAnyS_ready (rs := [8]) (by kernel_rfl) (by simp) ?_; refine AllS.consL rfl (fun K hK => ?_) AllS.nil)
    (go_simp; go_at_call 35; refine (kind_any xo xa xb O A B _ (hs4.drew.old HO.out) (hs4.drew.old HA.out) (hs4.drew.old HB.out)).mono ?_; rintro e w' ⟨rfl, hk0⟩; go_wp2_with fail)
    have hs5 := hs4.drew.call0 hk0
    (refine hK.out _ _ ?_ (fun hHeld => ?_); (focus ((try dsimp only); exact hs5.rcell (List.mem_cons_self ..) rfl)); clear hK K; (try simp only [Act.put, List.setIfInBounds_toArray, List.set_cons_zero, List.set_cons_succ]))
    (refine wpAnyS_ready (rs := [10]) (by kernel_rfl) (by simp) ?_; refine AllS.consL rfl (fun K hK => ?_) AllS.nil)
    (go_simp; go_at_call 36; refine (sclone_any xo O _ (hs5.old HO.out) (by omega)).mono ?_; rintro e w' ⟨uo, rfl, hk1⟩; go_wp2_with fail)
    obtain ⟨ao, ac, rfl, _⟩ := hk1.sl0
    have hs6 := (hs5.call1 hk1).freeze
    (refine hK.out _ _ ?_ (fun hHeld => ?_); (focus ((try dsimp only); exact hs6.rcell (List.mem_cons_self ..) rfl)); clear hK K; (try simp only [Act.put, List.setIfInBounds_toArray, List.set_cons_zero, List.set_cons_succ]))
    (refine wpAnyS_ready (rs := [12]) (by kernel_rfl) (by simp) ?_; refine AllS.consL rfl (fun K hK => ?_) AllS.nil)
    (go_simp; go_at_call 36; refine (sclone_any xa A _ (hs6.old HA.out) (by omega)).mono ?_; rintro e w' ⟨ua, rfl, hk2⟩; go_wp2_with fail)
    obtain ⟨bo, bc, rfl, _⟩ := hk2.sl0
    have hs7 := (hs6.call1 hk2).freeze
    (refine hK.out _ _ ?_ (fun hHeld => ?_); (focus ((try dsimp only); exact hs7.rcell (List.mem_cons_self ..) rfl)); clear hK K; (try simp only [Act.put, List.setIfInBounds_toArray, List.set_cons_zero, List.set_cons_succ]))
    (refine wpAnyS_ready (rs := [14]) (by kernel_rfl) (by simp) ?_; refine AllS.consL rfl (fun K hK => ?_) AllS.nil)
    (go_simp; go_at_call 36; refine (sclone_any xb B _ (hs7.old HB.out) (by omega)).mono ?_; rintro e w' ⟨ub, rfl, hk3⟩; go_wp2_with fail)
    obtain ⟨co, cc, rfl, _⟩ := hk3.sl0
    have hs8 := (hs7.call1 hk3).freeze
    (refine hK.out _ _ ?_ (fun hHeld => ?_); (focus ((try dsimp only); exact hs8.rcell (List.mem_cons_self ..) rfl)); clear hK K; (try simp only [Act.put, List.setIfInBounds_toArray, List.set_cons_zero, List.set_cons_succ]))
    (refine wpAnyS_takeL (i := 15) (v := ?_) rfl (by kernel_rfl) (by kernel_rfl) (by kernel_rfl) (by kernel_rfl) (by kernel_rfl) (by kernel_rfl) (fun _ _ _ h => h) (Or.inl ⟨by rfl, ?_⟩) hHeld ?_; rotate_left 1; (focus (intro w' hSw; (try dsimp only at hSw); go_simp; (try with_reducible rfl))); (try simp only [Act.put, List.setIfInBounds_toArray, List.set_cons_zero, List.set_cons_succ]))
    (refine wpAnyS_ready (rs := [16]) (by kernel_rfl) (by simp) ?_; refine AllS.consL rfl (fun K hK => ?_) AllS.nil)
    go_simp
    (refine hK.out _ _ ?_ (fun hHeld => ?_); (focus ((try dsimp only); exact (hs8.alloc _).rcell (List.mem_cons_self ..) rfl)); clear hK K; (try simp only [Act.put, List.setIfInBounds_toArray, List.set_cons_zero, List.set_cons_succ]))
    (refine wpAnyS_ready (rs := [17]) (by kernel_rfl) (by simp) ?_; refine AllS.consL rfl (fun K hK => ?_) AllS.nil)
    (refine step_app rfl _ _ 26 rfl Tryd.elChunk (by exact hs8.swap.alloc _) rfl (by exact ((St.refl _).made #[.int .i64 (kin O A B : Int), .slice ao O.length ac, .slice bo A.length bc, .slice co B.length cc] 42 4 1 rfl (by simp [maxLen])).sl0) (by intro u hu; simp at hu; rcases hu with rfl | rfl | rfl | rfl <;> rfl) (by omega) ?_; intro v9 w9 hs9 _)
    obtain ⟨dd, dc, rfl, _⟩ := hs9.sl0
    have hs10 := hs9.swap
    (refine hK.out _ _ ?_ (fun hHeld => ?_); (focus ((try dsimp only); exact hs10.rcell (List.mem_cons_self ..) rfl)); clear hK K; (try simp only [Act.put, List.setIfInBounds_toArray, List.set_cons_zero, List.set_cons_succ]))
    (refine wpAnyS_seq (by rfl) (by kernel_rfl) ?_; simp only [List.drop_succ_cons, List.drop_zero])
    go_wp2_with ((with_reducible show wpList _ _ _ _ _ _); refine wpl_store1 rfl 26 _ _ rfl hs10 (6) rfl (.slice dd (cs.length + 1) dc) rfl rfl (by kernel_rfl) (by simp) rfl ?_; intro wA hsA)
    go_end0
    unfold ToPost
    rw [HG.out]
    refine ⟨.slice dd (cs.length + 1) dc, vs ++ [⟨.slice ao O.length ac, .slice bo A.length bc, .slice co B.length cc⟩], rfl, by simp [HVS.out], ?_⟩
    have hsB := (hsA.swap.cast (n' := (cs ++ [(⟨kin O A B, O, A, B⟩ : Ck)]).length) (xs' := ckc (vs ++ [⟨.slice ao O.length ac, .slice bo A.length bc, .slice co B.length cc⟩]) (cs ++ [⟨kin O A B, O, A, B⟩])) (by simp) (by rw [ckc_snoc _ _ _ _ HVS.out])).swap
    refine hsB.sub (List.Sublist.refl _) fun q hq => ?_
    rw [rdc_snoc _ _ _ _ HVS.out] at hq
    simp only [List.mem_append, List.mem_cons, List.not_mem_nil, or_false] at hq ⊢
    rcases hq with hq | hq | hq | hq <;> simp [hq]
end Go.Proofs.YtafmgclhgmhflaaDoor
