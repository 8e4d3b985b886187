/- Walk of the document's Encode of a message. Walk of the document's DecodeMsg. -/
import Derived.Test.YtloogjdafhjheaaDoorPoB
import Derived.Test.YtloogjdafhjheaaDoorJEPoN
import Derived.Test.YtloogjdafhjheaaDoorPmE
import Derived.Test.YtloogjdafhjheaaDoorHeldD
namespace Go.Proofs.YtloogjdafhjheaaDoor
open Go.RowKit Go.Mx
set_option maxRecDepth 100000 in
set_option maxHeartbeats 4000000 in
theorem rencP_any (iv dv : Value) (m : Ms) (w : World) (h : MB w iv dv m) (hz : ∀ x ∈ m.ids, x.size ≤ 140737488355328) :
    Calls Tryd.prog 11 #[MV iv dv m] w (EncP m w) := by
  have HMAY := Mx.hid (fun wx (hs : St w wx [] []) => rmayP_any iv dv m wx (h.old hs) hz)
  obtain ⟨M, hM⟩ : ∃ M, M = m := ⟨_, rfl⟩
  have HMM := Mx.hid hM
  have hE : ∃ kind seq n mm, MV iv dv M = .agg #[.int .i64 kind, .int .i64 seq, .int .i64 n, .int .i64 mm, iv, dv] ∧ Hid (M.kind = kind ∧ M.seq = seq ∧ M.n = n ∧ M.m = mm) := ⟨_, _, _, _, rfl, rfl, rfl, rfl, rfl⟩
  obtain ⟨kind, seq, n, mm, hE, HP⟩ := hE
  rw [← hM] at HMAY ⊢
  rw [hE] at HMAY ⊢
  have hi := h.i
  have hd0 := h.d
  rw [← hM] at hi hd0 hz
  have HD0 := Mx.hid hd0
  have HZ := Mx.hid hz
  obtain ⟨io, ic, blk, off, rfl, i1, i2, _, hic⟩ := hi.txt
  obtain ⟨dq, dc, rfl, d1, d2, -⟩ := hd0.form
  have HC := Mx.hid hic
  unfold maxLen at d2
  clear h hE hM hz hi hd0 hic
  obtain ⟨b, hb⟩ : ∃ b, b = mayM M := ⟨_, rfl⟩
  have HB := Mx.hid hb.symm
  rw [← hb] at HMAY
  clear hb
  go_enter Tryd.func11, Tryd.ntmps11
  go_upto_region 1 with (((with_reducible show wpList _ _ _ _ _ _); refine wpl_box rfl 32 _ rfl (St.refl w) ([.int .i64 kind, .int .i64 seq, .int .i64 n, .int .i64 mm, .slice io M.ids.length ic, .slice dq M.data.length dc]) (by rfl) ?_; intro gx wx hsx))
  go_wp2_with ((with_reducible show wpList _ _ _ _ _ _); refine wpl_loadA rfl 32 _ rfl Tryd.aMsgR (gx) (0) rfl ([.int .i64 kind, .int .i64 seq, .int .i64 n, .int .i64 mm, .slice io M.ids.length ic, .slice dq M.data.length dc]) rfl (VCof hsx (List.mem_cons_self ..)) ?_)
  refine (HMAY.out _ hsx.bare).mono ?_
  rintro e w1 ⟨rfl, hk⟩
  have hc := hsx.call0 hk
  clear hsx hk HMAY
  cases b with
  | false =>
    go_wp2_with fail
    go_ret2
    exact .inr ⟨HB.out, rfl, hc.bare⟩
  | true =>
  obtain ⟨k1, k2, k3, k4⟩ := kind_ok HB.out
  have HO := Mx.hid HP.out
  rw [HP.out.1] at k1
  rw [HP.out.2.1] at k2
  rw [HP.out.2.2.1] at k3
  rw [HP.out.2.2.2] at k4
  have hdec : ∀ z : Int, okN z = true → ∀ wy, Calls Tryd.prog 26 #[.int .i64 z] wy fun e w' => e = .returned (.string (str (Lib.itoa z))) ∧ St wy w' [] [] := fun z hz wy => by
    have hz2 := hz
    unfold okN at hz2
    simp only [decide_eq_true_eq] at hz2
    obtain ⟨q, rfl⟩ := Int.eq_ofNat_of_zero_le hz2.1
    have := decNat_any q (by omega) wy
    have e : Lib.itoa (q : Int) = Lib.decDigits q := by unfold Lib.itoa; rw [if_neg (by omega)]; rfl
    rw [e]
    exact this
  have H1 := Mx.hid (hdec kind k1)
  have H2 := Mx.hid (hdec seq k2)
  have H3 := Mx.hid (hdec n k3)
  have H4 := Mx.hid (hdec mm k4)
  have z1 : (str (Lib.itoa kind)).size ≤ 10 := by rw [str_size]; exact itoa_len k1
  have z2 : (str (Lib.itoa seq)).size ≤ 10 := by rw [str_size]; exact itoa_len k2
  have z3 : (str (Lib.itoa n)).size ≤ 10 := by rw [str_size]; exact itoa_len k3
  have z4 : (str (Lib.itoa mm)).size ≤ 10 := by rw [str_size]; exact itoa_len k4
  have z0 : (⟨#[32]⟩ : ByteArray).size = 1 := rfl
  clear hdec k1 k2 k3 k4
  go_upto_region 3 with fail
  have x0 := hc.rcell (List.mem_singleton.2 rfl) (j := 0) rfl
  have hc := hc.drew
  (refine wp_region_S (23) (fun W' => W'.cell? ⟨gx, 0, none⟩ = some (.int .i64 kind) ∧ W'.cell? ⟨gx, 1, none⟩ = some (.int .i64 seq) ∧ W'.cell? ⟨gx, 2, none⟩ = some (.int .i64 n) ∧ W'.cell? ⟨gx, 3, none⟩ = some (.int .i64 mm)) (by kernel_rfl) ?_ (fun hHeld => ?_); (focus ((try dsimp only); exact ⟨hc.rcell (List.mem_singleton.2 rfl) (j := 0) rfl, hc.rcell (List.mem_singleton.2 rfl) (j := 1) rfl, hc.rcell (List.mem_singleton.2 rfl) (j := 2) rfl, hc.rcell (List.mem_singleton.2 rfl) (j := 3) rfl⟩)))
  generalize w1.drew = W at hc hHeld ⊢
  (refine wpAnyS_takeW (i := 0) (v := ?_) rfl (by kernel_rfl) (by kernel_rfl) (by kernel_rfl) (by kernel_rfl) (fun _ _ _ h => h) (Or.inl ⟨by rfl, ?_⟩) hHeld ?_; rotate_left 1; (focus (intro w' hSw; go_simp; (try with_reducible rfl))); (try simp only [Act.put, List.setIfInBounds_toArray, List.set_cons_zero, List.set_cons_succ]))
  (refine wpAnyS_takeW (i := 4) (v := ?_) rfl (by kernel_rfl) (by kernel_rfl) (by kernel_rfl) (by kernel_rfl) (fun _ _ _ h => h) (Or.inl ⟨by rfl, ?_⟩) hHeld ?_; rotate_left 1; (focus (intro w' hSw; go_simp; (try with_reducible rfl))); (try simp only [Act.put, List.setIfInBounds_toArray, List.set_cons_zero, List.set_cons_succ]))
  (refine wpAnyS_takeW (i := 9) (v := ?_) rfl (by kernel_rfl) (by kernel_rfl) (by kernel_rfl) (by kernel_rfl) (fun _ _ _ h => h) (Or.inl ⟨by rfl, ?_⟩) hHeld ?_; rotate_left 1; (focus (intro w' hSw; go_simp; (try with_reducible rfl))); (try simp only [Act.put, List.setIfInBounds_toArray, List.set_cons_zero, List.set_cons_succ]))
  (refine wpAnyS_takeW (i := 14) (v := ?_) rfl (by kernel_rfl) (by kernel_rfl) (by kernel_rfl) (by kernel_rfl) (fun _ _ _ h => h) (Or.inl ⟨by rfl, ?_⟩) hHeld ?_; rotate_left 1; (focus (intro w' hSw; go_simp; (try with_reducible rfl))); (try simp only [Act.put, List.setIfInBounds_toArray, List.set_cons_zero, List.set_cons_succ]))
  (refine wpAnyS_takeD (i := 1) (v := ?_) rfl (by kernel_rfl) (by kernel_rfl) (by kernel_rfl) (by kernel_rfl) (by kernel_rfl) (fun _ _ _ h => h) (Or.inl ⟨by first | rfl | (go_simp; done), ?_⟩) hHeld ?_; rotate_left 1; (focus (intro w' hSw; (try dsimp only at hSw); (obtain ⟨s0, s1, s2, s3⟩ := hSw); go_simp; (try with_reducible rfl))); (try simp only [Act.put, List.setIfInBounds_toArray, List.set_cons_zero, List.set_cons_succ]))
  (refine wpAnyS_takeD (i := 5) (v := ?_) rfl (by kernel_rfl) (by kernel_rfl) (by kernel_rfl) (by kernel_rfl) (by kernel_rfl) (fun _ _ _ h => h) (Or.inl ⟨by first | rfl | (go_simp; done), ?_⟩) hHeld ?_; rotate_left 1; (focus (intro w' hSw; (try dsimp only at hSw); (obtain ⟨s0, s1, s2, s3⟩ := hSw); go_simp; (try with_reducible rfl))); (try simp only [Act.put, List.setIfInBounds_toArray, List.set_cons_zero, List.set_cons_succ]))
  (refine wpAnyS_takeD (i := 10) (v := ?_) rfl (by kernel_rfl) (by kernel_rfl) (by kernel_rfl) (by kernel_rfl) (by kernel_rfl) (fun _ _ _ h => h) (Or.inl ⟨by first | rfl | (go_simp; done), ?_⟩) hHeld ?_; rotate_left 1; (focus (intro w' hSw; (try dsimp only at hSw); (obtain ⟨s0, s1, s2, s3⟩ := hSw); go_simp; (try with_reducible rfl))); (try simp only [Act.put, List.setIfInBounds_toArray, List.set_cons_zero, List.set_cons_succ]))
  (refine wpAnyS_takeD (i := 15) (v := ?_) rfl (by kernel_rfl) (by kernel_rfl) (by kernel_rfl) (by kernel_rfl) (by kernel_rfl) (fun _ _ _ h => h) (Or.inl ⟨by first | rfl | (go_simp; done), ?_⟩) hHeld ?_; rotate_left 1; (focus (intro w' hSw; (try dsimp only at hSw); (obtain ⟨s0, s1, s2, s3⟩ := hSw); go_simp; (try with_reducible rfl))); (try simp only [Act.put, List.setIfInBounds_toArray, List.set_cons_zero, List.set_cons_succ]))
  (refine wpAnyS_ready (rs := [2]) (by kernel_rfl) (by simp) ?_; refine AllS.consL rfl (fun K hK => ?_) AllS.nil)
  (go_simp; go_at_call 26; refine (H1.out W).mono ?_; rintro e w' ⟨rfl, hk⟩; go_wp2_with fail)
  replace hc := hc.call0 hk
  (refine hK.out _ _ ?_ (fun hHeld => ?_); (focus ((try dsimp only); exact ⟨hc.rcell (List.mem_singleton.2 rfl) (j := 0) rfl, hc.rcell (List.mem_singleton.2 rfl) (j := 1) rfl, hc.rcell (List.mem_singleton.2 rfl) (j := 2) rfl, hc.rcell (List.mem_singleton.2 rfl) (j := 3) rfl⟩)); clear hK K; (try simp only [Act.put, List.setIfInBounds_toArray, List.set_cons_zero, List.set_cons_succ]))
  obtain ⟨W, rfl⟩ : ∃ W : World, W = w' := ⟨_, rfl⟩
  clear hk
  (refine wpAnyS_takeW (i := 3) (v := ?_) rfl (by kernel_rfl) (by kernel_rfl) (by kernel_rfl) (by kernel_rfl) (fun _ _ _ h => h) (Or.inl ⟨by rfl, ?_⟩) hHeld ?_; rotate_left 1; (focus (intro w' hSw; go_simp; (try with_reducible rfl))); (try simp only [Act.put, List.setIfInBounds_toArray, List.set_cons_zero, List.set_cons_succ]))
  · rw [if_neg (by omega)]
  (refine wpAnyS_ready (rs := [6]) (by kernel_rfl) (by simp) ?_; refine AllS.consL rfl (fun K hK => ?_) AllS.nil)
  (go_simp; go_at_call 26; refine (H2.out W).mono ?_; rintro e w' ⟨rfl, hk⟩; go_wp2_with fail)
  replace hc := hc.call0 hk
  (refine hK.out _ _ ?_ (fun hHeld => ?_); (focus ((try dsimp only); exact ⟨hc.rcell (List.mem_singleton.2 rfl) (j := 0) rfl, hc.rcell (List.mem_singleton.2 rfl) (j := 1) rfl, hc.rcell (List.mem_singleton.2 rfl) (j := 2) rfl, hc.rcell (List.mem_singleton.2 rfl) (j := 3) rfl⟩)); clear hK K; (try simp only [Act.put, List.setIfInBounds_toArray, List.set_cons_zero, List.set_cons_succ]))
  obtain ⟨W, rfl⟩ : ∃ W : World, W = w' := ⟨_, rfl⟩
  clear hk
  (refine wpAnyS_takeW (i := 7) (v := ?_) rfl (by kernel_rfl) (by kernel_rfl) (by kernel_rfl) (by kernel_rfl) (fun _ _ _ h => h) (Or.inl ⟨by rfl, ?_⟩) hHeld ?_; rotate_left 1; (focus (intro w' hSw; go_simp; (try with_reducible rfl))); (try simp only [Act.put, List.setIfInBounds_toArray, List.set_cons_zero, List.set_cons_succ]))
  · rw [if_neg (by first | omega | (simp only [ByteArray.size_append]; omega))]
  (refine wpAnyS_takeW (i := 8) (v := ?_) rfl (by kernel_rfl) (by kernel_rfl) (by kernel_rfl) (by kernel_rfl) (fun _ _ _ h => h) (Or.inl ⟨by rfl, ?_⟩) hHeld ?_; rotate_left 1; (focus (intro w' hSw; go_simp; (try with_reducible rfl))); (try simp only [Act.put, List.setIfInBounds_toArray, List.set_cons_zero, List.set_cons_succ]))
  · rw [if_neg (by first | omega | (simp only [ByteArray.size_append]; omega))]
  (refine wpAnyS_ready (rs := [11]) (by kernel_rfl) (by simp) ?_; refine AllS.consL rfl (fun K hK => ?_) AllS.nil)
  (go_simp; go_at_call 26; refine (H3.out W).mono ?_; rintro e w' ⟨rfl, hk⟩; go_wp2_with fail)
  replace hc := hc.call0 hk
  (refine hK.out _ _ ?_ (fun hHeld => ?_); (focus ((try dsimp only); exact ⟨hc.rcell (List.mem_singleton.2 rfl) (j := 0) rfl, hc.rcell (List.mem_singleton.2 rfl) (j := 1) rfl, hc.rcell (List.mem_singleton.2 rfl) (j := 2) rfl, hc.rcell (List.mem_singleton.2 rfl) (j := 3) rfl⟩)); clear hK K; (try simp only [Act.put, List.setIfInBounds_toArray, List.set_cons_zero, List.set_cons_succ]))
  obtain ⟨W, rfl⟩ : ∃ W : World, W = w' := ⟨_, rfl⟩
  clear hk
  (refine wpAnyS_takeW (i := 12) (v := ?_) rfl (by kernel_rfl) (by kernel_rfl) (by kernel_rfl) (by kernel_rfl) (fun _ _ _ h => h) (Or.inl ⟨by rfl, ?_⟩) hHeld ?_; rotate_left 1; (focus (intro w' hSw; go_simp; (try with_reducible rfl))); (try simp only [Act.put, List.setIfInBounds_toArray, List.set_cons_zero, List.set_cons_succ]))
  · rw [if_neg (by first | omega | (simp only [ByteArray.size_append]; omega))]
  (refine wpAnyS_takeW (i := 13) (v := ?_) rfl (by kernel_rfl) (by kernel_rfl) (by kernel_rfl) (by kernel_rfl) (fun _ _ _ h => h) (Or.inl ⟨by rfl, ?_⟩) hHeld ?_; rotate_left 1; (focus (intro w' hSw; go_simp; (try with_reducible rfl))); (try simp only [Act.put, List.setIfInBounds_toArray, List.set_cons_zero, List.set_cons_succ]))
  · rw [if_neg (by first | omega | (simp only [ByteArray.size_append]; omega))]
  (refine wpAnyS_ready (rs := [16]) (by kernel_rfl) (by simp) ?_; refine AllS.consL rfl (fun K hK => ?_) AllS.nil)
  (go_simp; go_at_call 26; refine (H4.out W).mono ?_; rintro e w' ⟨rfl, hk⟩; go_wp2_with fail)
  replace hc := hc.call0 hk
  (refine hK.out _ _ ?_ (fun hHeld => ?_); (focus ((try dsimp only); exact ⟨hc.rcell (List.mem_singleton.2 rfl) (j := 0) rfl, hc.rcell (List.mem_singleton.2 rfl) (j := 1) rfl, hc.rcell (List.mem_singleton.2 rfl) (j := 2) rfl, hc.rcell (List.mem_singleton.2 rfl) (j := 3) rfl⟩)); clear hK K; (try simp only [Act.put, List.setIfInBounds_toArray, List.set_cons_zero, List.set_cons_succ]))
  obtain ⟨W, rfl⟩ : ∃ W : World, W = w' := ⟨_, rfl⟩
  clear hk
  (refine wpAnyS_takeW (i := 17) (v := ?_) rfl (by kernel_rfl) (by kernel_rfl) (by kernel_rfl) (by kernel_rfl) (fun _ _ _ h => h) (Or.inl ⟨by rfl, ?_⟩) hHeld ?_; rotate_left 1; (focus (intro w' hSw; go_simp; (try with_reducible rfl))); (try simp only [Act.put, List.setIfInBounds_toArray, List.set_cons_zero, List.set_cons_succ]))
  · rw [if_neg (by first | omega | (simp only [ByteArray.size_append]; omega))]
  have HHD : Hid (str (Lib.itoa kind) ++ ⟨#[32]⟩ ++ str (Lib.itoa seq) ++ ⟨#[32]⟩ ++ str (Lib.itoa n) ++ ⟨#[32]⟩ ++ str (Lib.itoa mm) = str (headL M)) := by
    show _ = _
    unfold headL
    rw [HO.out.1, HO.out.2.1, HO.out.2.2.1, HO.out.2.2.2]
    apply ByteArray.ext
    simp [str]
  rw [HHD.out]
  have hhl := head_len HB.out
  have hsz : (str (headL M)).size ≤ 60 := by rw [str_size]; exact hhl
  have HSD := Mx.hid (str_data (headL M))
  have HSS := Mx.hid (str_size (headL M))
  have HPL := Mx.hid (fun p (hp : p ∈ headL M :: M.ids.map bL) => pieces_1000 HB.out p (by
    unfold piecesM
    rcases List.mem_cons.1 hp with h | h
    · rw [h]; exact List.mem_cons_self ..
    · exact List.mem_cons_of_mem _ (List.mem_append_left _ h)))
  have HPC : Hid (piecesM M = headL M :: (M.ids.map bL ++ [[], M.data])) := rfl
  generalize headL M = hd at *
  generalize str hd = sd at *
  clear z0 z1 z2 z3 z4 H1 H2 H3 H4 x0
  obtain ⟨v4, w4, hr4, hs4⟩ := hc.ofStr (P := Tryd.prog) 9 23 5 sd Tryd.underlying9 Tryd.underlying23 Tryd.underlying5 (by unfold maxLen; omega)
  (refine wpAnyS_ready (rs := [18]) (by kernel_rfl) (by simp) ?_; refine AllS.consL rfl (fun K hK => ?_) AllS.nil)
  go_simp
  (refine hK.out _ _ ?_ (fun hHeld => ?_); (focus ((try dsimp only); exact ⟨hs4.rcell (List.mem_cons_of_mem _ (List.mem_singleton.2 rfl)) (j := 0) rfl, hs4.rcell (List.mem_cons_of_mem _ (List.mem_singleton.2 rfl)) (j := 1) rfl, hs4.rcell (List.mem_cons_of_mem _ (List.mem_singleton.2 rfl)) (j := 2) rfl, hs4.rcell (List.mem_cons_of_mem _ (List.mem_singleton.2 rfl)) (j := 3) rfl⟩)); clear hK K; (try simp only [Act.put, List.setIfInBounds_toArray, List.set_cons_zero, List.set_cons_succ]))
  clear hr4 hc
  rw [HSD.out] at hs4
  have HLN := Mx.hid (refLine_any v4 hd w4 (by rw [show hd.length = sd.size by rw [HSS.out]]; exact hs4.sl0) (by omega))
  unfold LinePost lineV lineE at HLN
  rw [if_neg (by omega), if_neg (by omega)] at HLN
  (refine wpAnyS_ready (rs := [19]) (by kernel_rfl) (by simp) ?_; refine AllS.consL rfl (fun K hK => ?_) AllS.nil)
  (go_simp; go_at_call 25; refine (HLN.out).mono ?_; rintro e w' ⟨v5, rfl, hk5⟩; go_wp2_with fail)
  have hs5 := (hs4.tail).call1 hk5
  (refine hK.out _ _ ?_ (fun hHeld => ?_); (focus ((try dsimp only); exact ⟨hs5.rcell (List.mem_cons_of_mem _ (List.mem_singleton.2 rfl)) (j := 0) rfl, hs5.rcell (List.mem_cons_of_mem _ (List.mem_singleton.2 rfl)) (j := 1) rfl, hs5.rcell (List.mem_cons_of_mem _ (List.mem_singleton.2 rfl)) (j := 2) rfl, hs5.rcell (List.mem_cons_of_mem _ (List.mem_singleton.2 rfl)) (j := 3) rfl⟩)); clear hK K; (try simp only [Act.put, List.setIfInBounds_toArray, List.set_cons_zero, List.set_cons_succ]))
  (refine wpAnyS_takeW (i := 20) (v := ?_) rfl (by kernel_rfl) (by kernel_rfl) (by kernel_rfl) (by kernel_rfl) (fun _ _ _ h => h) (Or.inl ⟨by rfl, ?_⟩) hHeld ?_; rotate_left 1; (focus (intro w' hSw; go_simp; (try with_reducible rfl))); (try simp only [Act.put, List.setIfInBounds_toArray, List.set_cons_zero, List.set_cons_succ]))
  (refine wpAnyS_takeW (i := 21) (v := ?_) rfl (by kernel_rfl) (by kernel_rfl) (by kernel_rfl) (by kernel_rfl) (fun _ _ _ h => h) (Or.inl ⟨by rfl, ?_⟩) hHeld ?_; rotate_left 1; (focus (intro w' hSw; go_simp; (try with_reducible rfl))); (try simp only [Act.put, List.setIfInBounds_toArray, List.set_cons_zero, List.set_cons_succ]))
  (refine wpAnyS_takeW (i := 22) (v := ?_) rfl (by kernel_rfl) (by kernel_rfl) (by kernel_rfl) (by kernel_rfl) (fun _ _ _ h => h) (Or.inl ⟨by rfl, ?_⟩) hHeld ?_; rotate_left 1; (focus (intro w' hSw; go_simp; (try with_reducible rfl))); (try simp only [Act.put, List.setIfInBounds_toArray, List.set_cons_zero, List.set_cons_succ]))
  (refine wpAnyS_seq (by rfl) (by kernel_rfl) ?_; simp only [List.drop_succ_cons, List.drop_zero])
  clear hHeld
  go_wp2_with fail
  clear hs4 HLN hk5 HMM
  have hids := may_ids HB.out
  go_loopw [4, 6] (fun b y wr => ∃ i : Nat, i ≤ M.ids.length ∧ y = .int .i64 i ∧ St w wr [⟨b, 5, 1, (linesL (hd :: (M.ids.take i).map bL)).length, bs (linesL (hd :: (M.ids.take i).map bL))⟩, (⟨.slice (some ⟨gx, 0, none⟩) 1 1, 32, 6, 1, [.int .i64 kind, .int .i64 seq, .int .i64 n, .int .i64 mm, .slice io M.ids.length ic, .slice dq M.data.length dc]⟩ : Row)] []) (fun _ y _ => M.ids.length - (intOf y).toNat)
  case atStart => exact ⟨0, by omega, rfl, hs5.cast (by simp [linesL]) (by simp [linesL])⟩
  case round =>
    clear hs5
    obtain ⟨i, hi, rfl, hs⟩ := hrel
    have x4 : wr.cell? ⟨gx, 4, none⟩ = some (.slice io M.ids.length ic) := hs.rcell (List.mem_cons_of_mem _ (List.mem_cons_self ..)) (j := 4) rfl
    have hle := linesL_le (l := hd :: (M.ids.take i).map bL) (fun p hp => HPL.out p (by
      rcases List.mem_cons.1 hp with h | h
      · rw [h]; exact List.mem_cons_self ..
      · refine List.mem_cons_of_mem _ ?_
        obtain ⟨q, hq, rfl⟩ := List.mem_map.1 h
        exact List.mem_map_of_mem (List.mem_of_mem_take hq)))
    have hln : (hd :: (M.ids.take i).map bL).length ≤ 65 := by rw [List.length_cons, List.length_map, List.length_take]; omega
    by_cases hlt : i < M.ids.length
    · obtain ⟨rfl, c0⟩ := HC.out i hlt
      replace c0 := hs.keep c0
      have hsz2 := HZ.out M.ids[i] (List.getElem_mem hlt)
      have HTK := Mx.hid (show linesL (hd :: (M.ids.take (i + 1)).map bL) = linesL (hd :: (M.ids.take i).map bL) ++ lineL (bL M.ids[i]) by
        rw [List.take_succ_eq_append_getElem hlt, List.map_append, ← List.cons_append, linesL_app]
        simp [linesL])
      have hp1 := HPL.out (bL M.ids[i]) (List.mem_cons_of_mem _ (List.mem_map_of_mem (List.getElem_mem hlt)))
      have HBL : Hid ((bL M.ids[i]).length = M.ids[i].size) := by
        show _ = _
        unfold bL
        exact Array.length_toList
      have HBD : Hid (M.ids[i].data.toList = bL M.ids[i]) := rfl
      have HLC := Mx.hid (lineL_len (bL M.ids[i]))
      have hii : (i : Int) < (M.ids.length : Int) := by omega
      generalize M.ids[i] = s at *
      go_wp2_with (((with_reducible show wpList _ _ _ _ _ _); refine wpl_s2b rfl 9 23 5 _ rfl Tryd.underlying9 Tryd.underlying23 Tryd.underlying5 hs rfl (by unfold maxLen; omega) ?_; intro v6 w6 hs6))
      rw [HBD.out, ← HBL.out] at hs6
      have hln6 := refLine_any v6 (bL s) w6 hs6.sl0 (by omega)
      unfold LinePost lineV lineE at hln6
      rw [if_neg (by omega), if_neg (by omega)] at hln6
      refine hln6.mono ?_
      rintro e w7 ⟨v7, rfl, hk7⟩
      have hs7 := (hs6.tail.call1 hk7).swap
      have hsl7 := hs7.sl1
      have hll : (lineL (bL s)).length ≤ 1004 := by rw [HLC.out]; omega
      obtain ⟨la, lc, rfl, _⟩ := id hk7.sl0
      clear hs hs6 hk7 hln6 x4
      generalize linesL (hd :: (M.ids.take i).map bL) = acc at *
      generalize lineL (bL s) = lp at *
      have hacc : acc.length ≤ 70000 := by omega
      clear hle hln
      go_wp2_with (at_builtin; refine wpl_app rfl _ _ 23 rfl Tryd.elU8 hs7 rfl (by exact hsl7) (bs_one _) (by omega) ?_; intro v8 w8 hs8 _)
      exact ⟨⟨i + 1, by omega, by go_num, (hs8.sub (List.Sublist.cons_cons _ (List.Sublist.cons _ (List.Sublist.refl _))) fun _ h => h).cast (by rw [HTK.out, List.length_append]) (by rw [HTK.out, bs_app])⟩, by simp [intOf]; omega⟩
    · obtain rfl : i = M.ids.length := by omega
      rw [List.take_length] at hs hle hln
      have x5 : wr.cell? ⟨gx, 5, none⟩ = some (.slice dq M.data.length dc) := hs.rcell (List.mem_cons_of_mem _ (List.mem_cons_self ..)) (j := 5) rfl
      have hdl : M.data.length ≤ 1000 := by
        have h := HB.out
        unfold mayM at h
        simp only [Bool.and_eq_true, decide_eq_true_eq] at h
        omega
      have HBO : Hid (bodyM M = linesL (hd :: M.ids.map bL) ++ lineL [] ++ lineL M.data ++ [48, 48, 48, 48]) := by
        show _ = _
        unfold bodyM
        rw [HPC.out]
        simp [linesL]
      have hL9 := refLine_any (.slice none 0 0) [] wr (Sl.nil _ _) (by simp)
      have l9 : (lineL []).length = 0 + 4 := lineL_len []
      have l11 := lineL_len M.data
      unfold LinePost lineV lineE at hL9
      rw [if_neg (by simp), if_neg (by simp)] at hL9
      have hle' : (linesL (hd :: M.ids.map bL)).length ≤ 70000 := by omega
      have hge : decide ((M.ids.length : Int) < (M.ids.length : Int)) = false := decide_eq_false (by omega)
      have l9' : (lineL []).length = 4 := by omega
      rw [l9'] at hL9
      have HN9 := Mx.hid l9'
      clear l9 l9'
      generalize linesL (hd :: M.ids.map bL) = L1 at *
      generalize lineL [] = E9 at *
      clear hle hln HPL HPC HC HZ
      go_wp2_with fail
      refine hL9.mono ?_
      rintro e w9 ⟨v9, rfl, hk9⟩
      have hs9 := hs.call1 hk9
      have x5' := hk9.keep x5
      have hL11 := refLine_any (.slice dq M.data.length dc) M.data w9 (hs9.old HD0.out) (by omega)
      unfold LinePost lineV lineE at hL11
      rw [if_neg (by omega), if_neg (by omega)] at hL11
      obtain ⟨xa, xc, rfl, -⟩ := id hk9.sl0
      generalize lineL M.data = E11 at *
      clear hs hk9 hL9 x5
      go_wp2_with fail
      refine hL11.mono ?_
      rintro e w11 ⟨v11, rfl, hk11⟩
      have hs11 := hs9.call1 hk11
      obtain ⟨ya, yc, rfl, -⟩ := id hk11.sl0
      have hs12 : St w w11 [⟨u4, 5, 1, L1.length, bs L1⟩, (⟨.slice (some ⟨gx, 0, none⟩) 1 1, 32, 6, 1, [.int .i64 kind, .int .i64 seq, .int .i64 n, .int .i64 mm, .slice io M.ids.length ic, .slice dq M.data.length dc]⟩ : Row), ⟨.slice ya E11.length yc, 5, 1, E11.length, bs E11⟩, ⟨.slice xa 4 xc, 5, 1, 4, bs E9⟩] [] := hs11.rot.rot
      have hx12 := hs11.sl1
      clear hs9 hk11 hL11 x5' x4
      have b11 : E11.length ≤ 1004 := by omega
      have HN11 := Mx.hid l11
      clear l11
      go_wp2_with (first | (at_builtin; refine wpl_app rfl _ _ 23 rfl Tryd.elU8 hs12 rfl (by exact hx12) (bs_one _) (by omega) ?_; intro v13 w13 hs13 _; have hy13 := hs13.sl2) | (at_builtin; refine wpl_app rfl _ _ 23 rfl Tryd.elU8 hs13 rfl (by exact hy13) (bs_one _) (by omega) ?_; intro v14 w14 hs14 _) | (at_builtin; refine wpl_app_str rfl _ _ 23 9 rfl Tryd.elU8 Tryd.underlying9 hs14 rfl rfl (by show (L1.length + 4 + E11.length + 4) * 1 ≤ _; omega) ?_; intro v15 w15 hs15 _))
      replace hs15 := hs15.cast (show _ = (bodyM M).length by rw [HBO.out, List.length_append, List.length_append, List.length_append, HN9.out]; rfl) (show _ = bs (bodyM M) by rw [HBO.out, bs_app, bs_app, bs_app]; try rfl)
      have hbl : (bodyM M).length ≤ 100000 := by rw [HBO.out]; simp [HN9.out]; omega
      have HEN : Hid (encM M = bodyM M ++ fourL (crcS (bodyM M))) := rfl
      clear HBO HN9 HN11 hs11 hs12 hx12 hs13 hs14 hy13
      generalize bodyM M = BM at *
      have hs16 := hs15.head
      clear hs15
      obtain ⟨ba, bc, rfl, _⟩ := id hs16.sl0
      have HCR := Mx.hid (crcRef_any _ BM w15 hs16.sl0 (by omega))
      have HFL := Mx.hid (fourL_len (crcS BM))
      have HFO := Mx.hid (four_any (crcS BM) w15)
      have hlt2 := (crcS BM).isLt
      generalize fourL (crcS BM) = F at *
      generalize crcS BM = sm at *
      refine HCR.out.mono ?_
      rintro e w16 ⟨rfl, rfl⟩
      go_wp2_with fail
      refine HFO.out.mono ?_
      rintro e w17 ⟨v17, rfl, hk17⟩
      have hs17 := (hs16.call1 hk17).swap
      obtain ⟨ca, cc, rfl, _⟩ := id hk17.sl0
      have hsl17 := hs17.sl1
      clear hs16 hk17 HFO HCR
      go_wp2_with (at_builtin; refine wpl_app rfl _ _ 23 rfl Tryd.elU8 hs17 rfl (by exact hsl17) (bs_one _) (by omega) ?_; intro v18 w18 hs18 _)
      go_ret2
      exact .inl ⟨HB.out, v18, rfl, hs18.head.cast (by rw [HEN.out, List.length_append, HFL.out]) (by rw [HEN.out, bs_app])⟩
end Go.Proofs.YtloogjdafhjheaaDoor

namespace Go.Mx
open Go Go.RowKit
/-- The number that a text is, where it is one. -/
def goodN (D : List UInt8) (v : Int) : Prop := (-9223372036854775808 ≤ v ∧ v ≤ 9223372036854775807) ∧ ∀ k : Nat, k ≤ 1073741824 → D = Lib.decDigits k → v = k
theorem good_itoa {x v : Int} (h : okN x = true) (hg : goodN (Lib.itoa x) v) : v = x := by
  unfold okN at h
  have h := of_decide_eq_true h
  obtain ⟨u, rfl⟩ : ∃ u : Nat, x = (u : Int) := ⟨x.toNat, by omega⟩
  exact hg.2 u (by omega) (Lib.itoa_nonneg u)
theorem ref_pieces {m : Ms} (h : mayM m = true) {ls : List (List UInt8)} (hl : ls = piecesM m) : ls.length = m.ids.length + 3 ∧ (pcs 32 0 (ls.getD 0 [])).length = 4 := by
  subst hl
  refine ⟨pieces_len m, ?_⟩
  rw [show (piecesM m).getD 0 [] = headL m from rfl, head_pcs h]
  rfl
theorem ref_read {m : Ms} (h : mayM m = true) {ls : List (List UInt8)} (hl : ls = piecesM m) {zs : List Int} (h4 : zs.length = 4) (hg : ∀ (j : Nat) (z : Int) (p : List UInt8), zs[j]? = some z → (pcs 32 0 (ls.getD 0 []))[j]? = some p → goodN p z) :
    (⟨zs.getD 0 0, zs.getD 1 0, zs.getD 2 0, zs.getD 3 0, ((ls.take (ls.length - 2)).drop 1).map str, ls.getD (ls.length - 1) []⟩ : Ms) = m := by
  subst hl
  have hr := read_pieces h
  unfold readM at hr
  rw [if_neg (by rw [pieces_len]; omega)] at hr
  obtain ⟨h1, h2, h3, h4'⟩ := kind_ok h
  rw [show (piecesM m).getD 0 [] = headL m from rfl, head_pcs h] at hg
  obtain ⟨a, b, c, d, rfl⟩ : ∃ a b c d, zs = [a, b, c, d] := by
    match zs, h4 with
    | [a, b, c, d], _ => exact ⟨a, b, c, d, rfl⟩
  have e1 := good_itoa h1 (hg 0 a _ rfl rfl)
  have e2 := good_itoa h2 (hg 1 b _ rfl rfl)
  have e3 := good_itoa h3 (hg 2 c _ rfl rfl)
  have e4 := good_itoa h4' (hg 3 d _ rfl rfl)
  have e5 := congrArg Ms.ids hr
  have e6 := congrArg Ms.data hr
  simp only at e5 e6
  rw [e5, e6]
  subst e1 e2 e3 e4
  rfl
end Go.Mx
namespace Go.Proofs.YtloogjdafhjheaaDoor
open Go.RowKit Go.Mx
set_option maxRecDepth 200000 in
set_option maxHeartbeats 4000000 in
theorem rdecP_any (v : Value) (b : List UInt8) (w : World) (hv : Sl w 1 v b.length (bs b)) (hb : b.length ≤ 1000000) :
    Calls Tryd.prog 13 #[v] w (DecPp b w) := by
  have HV := Mx.hid hv
  obtain ⟨ao, cap, rfl, c1, c2, -⟩ := hv.form
  unfold maxLen at c2
  have hs0 := (St.refl w).madeAt ([.int .i64 0, .int .i64 0, .int .i64 0, .int .i64 0, .slice none 0 0, .slice none 0 0]).toArray 32 6 1 w.heap.size rfl (by simp [maxLen]) rfl
  clear hv
  go_enter Tryd.func13, Tryd.ntmps13
  go_upto_region 1 with fail
  change Code.wp _ _ _ _ (w.alloc (.cells #[.int .i64 0, .int .i64 0, .int .i64 0, .int .i64 0, .slice none 0 0, .slice none 0 0] 32))
  change St w (w.alloc (.cells #[.int .i64 0, .int .i64 0, .int .i64 0, .int .i64 0, .slice none 0 0, .slice none 0 0] 32)) _ _ at hs0
  generalize w.alloc (.cells #[.int .i64 0, .int .i64 0, .int .i64 0, .int .i64 0, .slice none 0 0, .slice none 0 0] 32) = w1 at hs0 ⊢
  generalize w.heap.size = gR at hs0 ⊢
  by_cases h8 : b.length < 8
  · have q1 : decide ((b.length : Int) < 8) = true := decide_eq_true (by omega)
    have HD := Mx.hid (dec_short h8)
    go_wp2_with ((with_reducible show wpList _ _ _ _ _ _); refine wpl_storeA rfl 32 _ _ rfl Tryd.aMsgR hs0 (0) rfl ([.int .i64 0, .int .i64 0, .int .i64 0, .int .i64 0, .slice none 0 0, .slice none 0 0]) rfl (by rfl) (by simp) (by intro u hu; simp at hu; rcases hu with rfl | rfl | rfl | rfl | rfl | rfl <;> rfl) ?_; intro w9 hs9)
    replace hs9 := hs9.cast rfl (show _ = [.int .i64 0, .int .i64 0, .int .i64 0, .int .i64 0, .slice none 0 0, .slice none 0 0] by simp)
    have hcw : ∀ i u, ([.int .i64 0, .int .i64 0, .int .i64 0, .int .i64 0, .slice none 0 0, .slice none 0 0])[i]? = some u → w9.cell? ⟨gR, i, none⟩ = some u := fun i u h => hs9.rcell (List.mem_cons_self ..) h
    refine bodyPost_ret (v := .tuple #[.agg ([.int .i64 0, .int .i64 0, .int .i64 0, .int .i64 0, .slice none 0 0, .slice none 0 0]).toArray, .int .i64 2]) (results_cellA2 Tryd.results13 _ Tryd.aMsgR (g := gR) ([.int .i64 0, .int .i64 0, .int .i64 0, .int .i64 0, .slice none 0 0, .slice none 0 0]) ?_ rfl hcw ?_) ?_ ?_
    · first | (simp; done) | simp [Act.put]
    · first | (simp; done) | simp [Act.put]
    · first | (simp; done) | simp [Act.put]
    · exact ⟨.slice none 0 0, .slice none 0 0, noMs, 2, rfl, hs9.bare, ⟨Sl.nil _ _, Sl.nil _ _⟩, HD.out⟩
  have H8 := Mx.hid h8
  have q1 : decide ((b.length : Int) < 8) = false := decide_eq_false (by omega)
  obtain ⟨nb, hnb⟩ : ∃ nb, nb = b.length - 4 := ⟨_, rfl⟩
  have hnb4 : 4 ≤ nb := by omega
  have HNB := Mx.hid hnb
  have HNI := Mx.hid (show (b.length : Int) - 4 = (nb : Int) by omega)
  have hnle : nb ≤ b.length := by omega
  have hnbl : nb ≤ 1000000 := by omega
  clear hnb
  have n5 : IntKind.i64.wrap ((b.length : Int) - 4) = (b.length : Int) - 4 := IntWalk.i64_in _ (by omega)
  have n6 : (b.length : Int) - 4 = (nb : Int) := HNI.out
  go_upto_region 4 with fail
  obtain ⟨x4, p4, q4⟩ := HV.out.cutRun (P := Tryd.prog) Tryd.elU8 none (some (.int .i64 (nb : Int))) 0 nb (.inl ⟨rfl, rfl⟩) (.inr ⟨.i64, rfl⟩) (Nat.zero_le _) hnle
  have hv4 := q4 w HV.out
  have hbt : (b.take nb).length = nb := by rw [List.length_take]; omega
  have e4 : ((bs b).take (nb * 1)).drop (0 * 1) = bs (b.take nb) := by rw [bs_cut]; simp
  rw [e4, Nat.sub_zero] at hv4
  have HBT := Mx.hid hbt
  have HV4 := Mx.hid hv4
  obtain ⟨a4, c4, rfl, -⟩ := id hv4
  obtain ⟨x9, p9, q9⟩ := HV.out.cutRun (P := Tryd.prog) Tryd.elU8 (some (.int .i64 (nb : Int))) none nb b.length (.inr ⟨.i64, rfl⟩) (.inl ⟨rfl, rfl⟩) (by omega) (Nat.le_refl _)
  have hx9 := q9 w HV.out
  have e9 : ((bs b).take (b.length * 1)).drop (nb * 1) = bs (b.drop nb) := by rw [bs_cut, List.take_length]
  rw [e9] at hx9
  have HDL := Mx.hid (show (b.drop nb).length = b.length - nb from List.length_drop)
  have HX9 := Mx.hid hx9
  obtain ⟨xa, xc, rfl, -⟩ := id hx9
  have HERR := Mx.hid (show b.length - 4 = nb from HNB.out.symm)
  clear hbt e4 hv4 q4 q9 hx9 e9 n5 n6
  have hc := hs0.drew
  have HCR := Mx.hid (fun wx (R : List Row) (Q : List Rd) (h : St w wx R Q) => crcRef_any (.slice a4 nb c4) (b.take nb) wx (by rw [HBT.out]; exact h.old HV4.out) (by rw [HBT.out]; omega))
  have HFO := Mx.hid (fun wx => four_any (crcS (b.take nb)) wx)
  have HFL := Mx.hid (fourL_len (crcS (b.take nb)))
  have hlt2 := (crcS (b.take nb)).isLt
  have HBTK : Hid (∃ F, F = fourL (crcS (b.take nb))) := ⟨_, rfl⟩
  obtain ⟨F, hF⟩ := HBTK.out
  rw [← hF] at HFO HFL
  have HF := Mx.hid hF
  clear hF HBTK
  generalize crcS (b.take nb) = sm at HCR HFO hlt2
  (refine wp_region_S (9) (fun _ => True) (by kernel_rfl) ?_ (fun hHeld => ?_); (focus ((try dsimp only); (first | done | trivial))))
  generalize w1.drew = W at hc hHeld ⊢
  (refine wpAnyS_takeW (i := 0) (v := ?_) rfl (by kernel_rfl) (by kernel_rfl) (by kernel_rfl) (by kernel_rfl) (fun _ _ _ h => h) (Or.inl ⟨by rfl, ?_⟩) hHeld ?_; rotate_left 1; (focus (intro w' hSw; go_simp; (try with_reducible rfl))); (try simp only [Act.put, List.setIfInBounds_toArray, List.set_cons_zero, List.set_cons_succ]))
  (refine wpAnyS_takeW (i := 1) (v := ?_) rfl (by kernel_rfl) (by kernel_rfl) (by kernel_rfl) (by kernel_rfl) (fun _ _ _ h => h) (Or.inl ⟨by rfl, ?_⟩) hHeld ?_; rotate_left 1; (focus (intro w' hSw; go_simp; (try with_reducible rfl))); (try simp only [Act.put, List.setIfInBounds_toArray, List.set_cons_zero, List.set_cons_succ]))
  (refine wpAnyS_takeW (i := 2) (v := ?_) rfl (by kernel_rfl) (by kernel_rfl) (by kernel_rfl) (by kernel_rfl) (fun _ _ _ h => h) (Or.inl ⟨by rfl, ?_⟩) hHeld ?_; rotate_left 1; (focus (intro w' hSw; go_simp; (try with_reducible rfl))); (try simp only [Act.put, List.setIfInBounds_toArray, List.set_cons_zero, List.set_cons_succ]))
  (refine wpAnyS_takeW (i := 5) (v := ?_) rfl (by kernel_rfl) (by kernel_rfl) (by kernel_rfl) (by kernel_rfl) (fun _ _ _ h => h) (Or.inl ⟨by rfl, ?_⟩) hHeld ?_; rotate_left 1; (focus (intro w' hSw; go_simp; (try with_reducible rfl))); (try simp only [Act.put, List.setIfInBounds_toArray, List.set_cons_zero, List.set_cons_succ]))
  (refine wpAnyS_takeW (i := 6) (v := ?_) rfl (by kernel_rfl) (by kernel_rfl) (by kernel_rfl) (by kernel_rfl) (fun _ _ _ h => h) (Or.inl ⟨by rfl, ?_⟩) hHeld ?_; rotate_left 1; (focus (intro w' hSw; go_simp; (try with_reducible rfl))); (try simp only [Act.put, List.setIfInBounds_toArray, List.set_cons_zero, List.set_cons_succ]))
  (refine wpAnyS_takeW (i := 7) (v := ?_) rfl (by kernel_rfl) (by kernel_rfl) (by kernel_rfl) (by kernel_rfl) (fun _ _ _ h => h) (Or.inl ⟨by rfl, ?_⟩) hHeld ?_; rotate_left 1; (focus (intro w' hSw; go_simp; (try with_reducible rfl))); (try simp only [Act.put, List.setIfInBounds_toArray, List.set_cons_zero, List.set_cons_succ]))
  (refine wpAnyS_ready (rs := [3]) (by kernel_rfl) (by simp) ?_; refine AllS.consL rfl (fun K hK => ?_) AllS.nil)
  (go_simp; go_at_call 28; refine (HCR.out _ _ _ hc).mono ?_; rintro e w' ⟨rfl, rfl⟩; go_wp2_with fail)
  (refine hK.out _ _ ?_ (fun hHeld => ?_); (focus ((try dsimp only); (first | done | trivial))); clear hK K; (try simp only [Act.put, List.setIfInBounds_toArray, List.set_cons_zero, List.set_cons_succ]))
  (refine wpAnyS_ready (rs := [4]) (by kernel_rfl) (by simp) ?_; refine AllS.consL rfl (fun K hK => ?_) AllS.nil)
  (go_simp; go_at_call 27; refine (HFO.out W).mono ?_; rintro e w' ⟨vS, rfl, hkS⟩; go_wp2_with fail)
  have hc2 := hc.call1 hkS
  obtain ⟨sA, sC, rfl, -⟩ := id hkS.sl0
  have hkF := hkS.sl0
  rw [show (4 : Nat) = F.length from HFL.out.symm] at hkF
  (refine hK.out _ _ ?_ (fun hHeld => ?_); (focus ((try dsimp only); (first | done | trivial))); clear hK K; (try simp only [Act.put, List.setIfInBounds_toArray, List.set_cons_zero, List.set_cons_succ]))
  obtain ⟨w3, rfl⟩ : ∃ W : World, W = w' := ⟨_, rfl⟩
  have HEQ := Mx.hid (bytes_any _ _ F (b.drop nb) w3 hkF (by rw [HDL.out]; exact hc2.old HX9.out))
  rw [HFL.out] at HEQ
  (refine wpAnyS_ready (rs := [8]) (by kernel_rfl) (by simp) ?_; refine AllS.consL rfl (fun K hK => ?_) AllS.nil)
  (go_simp; go_at_call 14; refine (HEQ.out).mono ?_; rintro e w' ⟨rfl, rfl⟩; go_wp2_with fail)
  (refine hK.out _ _ ?_ (fun hHeld => ?_); (focus ((try dsimp only); (first | done | trivial))); clear hK K; (try simp only [Act.put, List.setIfInBounds_toArray, List.set_cons_zero, List.set_cons_succ]))
  (refine wpAnyS_seq (by rfl) (by kernel_rfl) ?_; simp only [List.drop_succ_cons, List.drop_zero])
  clear hHeld HEQ hkF hkS hc hs0 p9 p4 hlt2 HCR HFO
  have hs2 := hc2.tail
  clear hc2
  by_cases hsum : F = b.drop nb
  case neg =>
    have HD := Mx.hid (show DecM b noMs 5 from dec_sum H8.out (by rw [HERR.out, ← HF.out]; exact hsum))
    rw [decide_eq_false hsum]
    clear hsum
    go_wp2_with ((with_reducible show wpList _ _ _ _ _ _); refine wpl_storeA rfl 32 _ _ rfl Tryd.aMsgR hs2 (0) rfl ([.int .i64 0, .int .i64 0, .int .i64 0, .int .i64 0, .slice none 0 0, .slice none 0 0]) rfl (by rfl) (by simp) (by intro u hu; simp at hu; rcases hu with rfl | rfl | rfl | rfl | rfl | rfl <;> rfl) ?_; intro w9 hs9)
    replace hs9 := hs9.cast rfl (show _ = [.int .i64 0, .int .i64 0, .int .i64 0, .int .i64 0, .slice none 0 0, .slice none 0 0] by simp)
    have hcw : ∀ i u, ([.int .i64 0, .int .i64 0, .int .i64 0, .int .i64 0, .slice none 0 0, .slice none 0 0])[i]? = some u → w9.cell? ⟨gR, i, none⟩ = some u := fun i u h => hs9.rcell (List.mem_cons_self ..) h
    refine bodyPost_ret (v := .tuple #[.agg ([.int .i64 0, .int .i64 0, .int .i64 0, .int .i64 0, .slice none 0 0, .slice none 0 0]).toArray, .int .i64 5]) (results_cellA2 Tryd.results13 _ Tryd.aMsgR (g := gR) ([.int .i64 0, .int .i64 0, .int .i64 0, .int .i64 0, .slice none 0 0, .slice none 0 0]) ?_ rfl hcw ?_) ?_ ?_
    · first | (simp; done) | simp [Act.put]
    · first | (simp; done) | simp [Act.put]
    · first | (simp; done) | simp [Act.put]
    · exact ⟨.slice none 0 0, .slice none 0 0, noMs, 5, rfl, hs9.bare, ⟨Sl.nil _ _, Sl.nil _ _⟩, HD.out⟩
  case pos =>
  have HFORM := Mx.hid (fun (h : ∀ m, mayM m = true → encM m ≠ b) => (show DecM b noMs 4 from dec_form H8.out (by rw [HERR.out, ← HF.out]; exact hsum) h))
  rw [decide_eq_true hsum]
  clear hsum HF HX9
  have hle := linesS_le (b.take nb).length (b.take nb) 0 [] (by omega) (by simp)
  obtain ⟨ls, pl, el, hls⟩ : ∃ ls pl el, linesS (b.take nb) 0 [] = (ls, pl, el) := ⟨_, _, _, rfl⟩
  rw [hls] at hle
  simp only [] at hle
  rw [HBT.out] at hle
  have HLS := Mx.hid hls
  have HRD := Mx.hid (fun (m : Ms) (h : mayM m = true) (he : encM m = b) => dec_read (show linesS (b.take (b.length - 4)) 0 [] = (ls, pl, el) by rw [HERR.out]; exact hls) h he)
  have HZ := Mx.hid hle.1
  have hll : ls.length ≤ 1000000 := by have := hle.2; simp at this; omega
  clear hls hle
  have n6 : (b.length : Int) - 4 = (nb : Int) := HNI.out
  go_wp2_with ((with_reducible show wpList _ _ _ _ _ _); refine wpl_cut rfl 23 _ _ _ rfl Tryd.elU8 (by exact HV.out) 0 nb (.inl ⟨rfl, rfl⟩) (.inr ⟨.i64, rfl⟩) (by omega) (by omega) ?_; intro v4 hc4)
  have hv5 := hc4 w HV.out
  have e5 : ((bs b).take (nb * 1)).drop (0 * 1) = bs (b.take nb) := by rw [bs_cut]; simp
  rw [e5, Nat.sub_zero] at hv5
  have hlin := refLines_any v4 (b.take nb) w3 (by rw [HBT.out]; exact hs2.old hv5) (by rw [HBT.out]; omega)
  unfold LinesPost at hlin
  rw [HLS.out] at hlin
  simp only [] at hlin
  refine hlin.mono ?_
  rintro e w5 ⟨vl, rfl, hk5, hLL⟩
  have hs5 := hs2.call0 hk5
  clear hs2 hk5 hlin hv5 e5 hc4 HLS n6
  obtain ⟨vs, hvl, hsv, hpv⟩ := hLL.parts
  obtain ⟨la, lc, rfl, d1, d2, -⟩ := hsv.form
  unfold maxLen at d2
  have HSV := Mx.hid hsv
  have HPV := Mx.hid hpv
  have HVL := Mx.hid hvl
  clear hLL hvl hsv hpv
  by_cases hel : el = 0
  case neg =>
    have HD := Mx.hid (HFORM.out (fun m h he => hel (HRD.out m h he).1))
    have q3 : decide (el = 0) = false := decide_eq_false hel
    have q4 : (el == 0) = false := by simpa using hel
    have q5 : (el != 0) = true := by simpa using hel
    clear hel
    go_wp2_with (first | ((with_reducible show wpList _ _ _ _ _ _); refine wpl_want rfl ?_) | ((with_reducible show wpList _ _ _ _ _ _); refine wpl_storeA rfl 32 _ _ rfl Tryd.aMsgR hs5 (0) rfl ([.int .i64 0, .int .i64 0, .int .i64 0, .int .i64 0, .slice none 0 0, .slice none 0 0]) rfl (by rfl) (by simp) (by intro u hu; simp at hu; rcases hu with rfl | rfl | rfl | rfl | rfl | rfl <;> rfl) ?_; intro w9 hs9))
    replace hs9 := hs9.cast rfl (show _ = [.int .i64 0, .int .i64 0, .int .i64 0, .int .i64 0, .slice none 0 0, .slice none 0 0] by simp)
    have hcw : ∀ i u, ([.int .i64 0, .int .i64 0, .int .i64 0, .int .i64 0, .slice none 0 0, .slice none 0 0])[i]? = some u → w9.cell? ⟨gR, i, none⟩ = some u := fun i u h => hs9.rcell (List.mem_cons_self ..) h
    refine bodyPost_ret (v := .tuple #[.agg ([.int .i64 0, .int .i64 0, .int .i64 0, .int .i64 0, .slice none 0 0, .slice none 0 0]).toArray, .int .i64 4]) (results_cellA2 Tryd.results13 _ Tryd.aMsgR (g := gR) ([.int .i64 0, .int .i64 0, .int .i64 0, .int .i64 0, .slice none 0 0, .slice none 0 0]) ?_ rfl hcw ?_) ?_ ?_
    · first | (simp; done) | simp [Act.put]
    · first | (simp; done) | simp [Act.put]
    · first | (simp; done) | simp [Act.put]
    · exact ⟨.slice none 0 0, .slice none 0 0, noMs, 4, rfl, hs9.bare, ⟨Sl.nil _ _, Sl.nil _ _⟩, HD.out⟩
  case pos =>
  subst hel
  by_cases h3 : ls.length < 3
  · have HD := Mx.hid (HFORM.out (fun m h he => by have := ref_pieces h (HRD.out m h he).2.1; omega))
    have q6 : decide ((ls.length : Int) < 3) = true := decide_eq_true (by omega)
    go_wp2_with (first | ((with_reducible show wpList _ _ _ _ _ _); refine wpl_want rfl ?_) | ((with_reducible show wpList _ _ _ _ _ _); refine wpl_storeA rfl 32 _ _ rfl Tryd.aMsgR hs5 (0) rfl ([.int .i64 0, .int .i64 0, .int .i64 0, .int .i64 0, .slice none 0 0, .slice none 0 0]) rfl (by rfl) (by simp) (by intro u hu; simp at hu; rcases hu with rfl | rfl | rfl | rfl | rfl | rfl <;> rfl) ?_; intro w9 hs9))
    replace hs9 := hs9.cast rfl (show _ = [.int .i64 0, .int .i64 0, .int .i64 0, .int .i64 0, .slice none 0 0, .slice none 0 0] by simp)
    have hcw : ∀ i u, ([.int .i64 0, .int .i64 0, .int .i64 0, .int .i64 0, .slice none 0 0, .slice none 0 0])[i]? = some u → w9.cell? ⟨gR, i, none⟩ = some u := fun i u h => hs9.rcell (List.mem_cons_self ..) h
    refine bodyPost_ret (v := .tuple #[.agg ([.int .i64 0, .int .i64 0, .int .i64 0, .int .i64 0, .slice none 0 0, .slice none 0 0]).toArray, .int .i64 4]) (results_cellA2 Tryd.results13 _ Tryd.aMsgR (g := gR) ([.int .i64 0, .int .i64 0, .int .i64 0, .int .i64 0, .slice none 0 0, .slice none 0 0]) ?_ rfl hcw ?_) ?_ ?_
    · first | (simp; done) | simp [Act.put]
    · first | (simp; done) | simp [Act.put]
    · first | (simp; done) | simp [Act.put]
    · exact ⟨.slice none 0 0, .slice none 0 0, noMs, 4, rfl, hs9.bare, ⟨Sl.nil _ _, Sl.nil _ _⟩, HD.out⟩
  have q6 : decide ((ls.length : Int) < 3) = false := decide_eq_false (by omega)
  obtain ⟨a0, e0, hv0, hsl0⟩ := HPV.out 0 (by omega)
  obtain ⟨b0, o0, rfl, k0⟩ := Sl.cellAny HSV.out hv0
  obtain ⟨ua, uc, hvd, hsld⟩ := HPV.out (ls.length - 1) (by omega)
  obtain ⟨b9, o9, he9, c9⟩ := Sl.cellAny HSV.out hvd
  cases he9
  rw [Nat.add_zero] at k0
  have hz0 := HZ.out ls[0] (List.getElem_mem (by omega))
  have hnd := HZ.out ls[ls.length - 1] (List.getElem_mem (by omega))
  have HS0 := Mx.hid (refCut_any (str ls[0]) 32 w5 (by rw [str_size]; omega))
  rw [str_data, show ((32 : UInt8).toNat : Int) = 32 from rfl] at HS0
  have HGD : Hid (ls.getD 0 [] = ls[0]) := by
    show _ = _
    rw [List.getD_eq_getElem?_getD, List.getElem?_eq_getElem (by omega)]
    rfl
  have HGE : Hid (ls.getD (ls.length - 1) [] = ls[ls.length - 1]) := by
    show _ = _
    rw [List.getD_eq_getElem?_getD, List.getElem?_eq_getElem (by omega)]
    rfl
  have HVM := Mx.hid (fun (k : Nat) (hk : k < ls.length) => HPV.out k hk)
  clear hv0 hvd
  generalize ls[ls.length - 1] = D at *
  generalize hL0 : ls[0] = L0 at *
  clear hL0
  obtain ⟨P, hP⟩ : ∃ P, P = pcs 32 0 L0 := ⟨_, rfl⟩
  rw [← hP] at HS0
  have HP := Mx.hid hP
  have HPZ := Mx.hid (fun p (hp : p ∈ P) => (show p.length ≤ 140737488355328 by rw [hP] at hp; have := pcs_size hp; omega))
  clear hP
  have hsQ := hs5.addApart (q := ⟨.slice ua D.length uc, 1, D.length, bs D⟩) hsld (fun r hr hne b hb => by
    obtain rfl := List.mem_singleton.1 hr
    obtain rfl : b = gR := by simpa [Value.ownBlock] using hb.symm
    exact kind_apart (hs5.own _ (List.mem_singleton.2 rfl)) hsld (fun u hu => by obtain ⟨x, _, rfl⟩ := List.mem_map.1 hu; simp) hne)
  have HSLD := Mx.hid hsld
  clear hs5 hsld
  generalize hND : D.length = nd at *
  have HND := Mx.hid hND
  clear hND
  go_wp2_with (first | ((with_reducible show wpList _ _ _ _ _ _); refine wpl_want rfl ?_) | ((with_reducible show wpList _ _ _ _ _ _); refine wpl_b2s rfl 23 9 5 _ rfl Tryd.underlying23 Tryd.underlying5 Tryd.underlying9 (by exact hsl0) ?_))
  refine HS0.out.mono ?_
  rintro e w6 ⟨v6, rfl, hk6⟩
  have ht6 := hk6.freeze
  obtain ⟨sa, sc, rfl, _⟩ := id hk6.sl0
  dsimp only at ht6
  have HC9 := Mx.hid c9
  clear hk6 HS0 hsl0 k0 c9
  by_cases h4 : P.length = 4
  case neg =>
    have HD := Mx.hid (HFORM.out (fun m h he => by
      have := (ref_pieces h (HRD.out m h he).2.1).2
      rw [HGD.out, ← HP.out] at this
      exact h4 this))
    have q7 : decide ((P.length : Int) = 4) = false := decide_eq_false (by omega)
    have q8 : ((P.length : Int) == 4) = false := by rw [beq_eq_false_iff_ne]; omega
    have q9 : ((P.length : Int) != 4) = true := by rw [bne_iff_ne]; omega
    have hs6 := hsQ.call0 ht6.bare
    clear h4
    go_wp2_with (first | ((with_reducible show wpList _ _ _ _ _ _); refine wpl_want rfl ?_) | ((with_reducible show wpList _ _ _ _ _ _); refine wpl_storeA rfl 32 _ _ rfl Tryd.aMsgR hs6 (0) rfl ([.int .i64 0, .int .i64 0, .int .i64 0, .int .i64 0, .slice none 0 0, .slice none 0 0]) rfl (by rfl) (by simp) (by intro u hu; simp at hu; rcases hu with rfl | rfl | rfl | rfl | rfl | rfl <;> rfl) ?_; intro w9 hs9))
    replace hs9 := hs9.cast rfl (show _ = [.int .i64 0, .int .i64 0, .int .i64 0, .int .i64 0, .slice none 0 0, .slice none 0 0] by simp)
    have hcw : ∀ i u, ([.int .i64 0, .int .i64 0, .int .i64 0, .int .i64 0, .slice none 0 0, .slice none 0 0])[i]? = some u → w9.cell? ⟨gR, i, none⟩ = some u := fun i u h => hs9.rcell (List.mem_cons_self ..) h
    refine bodyPost_ret (v := .tuple #[.agg ([.int .i64 0, .int .i64 0, .int .i64 0, .int .i64 0, .slice none 0 0, .slice none 0 0]).toArray, .int .i64 4]) (results_cellA2 Tryd.results13 _ Tryd.aMsgR (g := gR) ([.int .i64 0, .int .i64 0, .int .i64 0, .int .i64 0, .slice none 0 0, .slice none 0 0]) ?_ rfl hcw ?_) ?_ ?_
    · first | (simp; done) | simp [Act.put]
    · first | (simp; done) | simp [Act.put]
    · first | (simp; done) | simp [Act.put]
    · exact ⟨.slice none 0 0, .slice none 0 0, noMs, 4, rfl, hs9.bare, ⟨Sl.nil _ _, Sl.nil _ _⟩, HD.out⟩
  case pos =>
  rw [h4] at ht6 ⊢
  have H4 := Mx.hid h4
  clear h4 q6 q1
  go_upto_region 13 with (first | ((with_reducible show wpList _ _ _ _ _ _); refine wpl_want rfl ?_))
  have ht7 := ht6.madeAt #[.int .i64 0, .int .i64 0, .int .i64 0, .int .i64 0] 57 1 4 w6.heap.size rfl (by simp [maxLen]) rfl
  change Code.wp _ _ _ _ (w6.alloc (.cells #[.int .i64 0, .int .i64 0, .int .i64 0, .int .i64 0] 57))
  change St w5 (w6.alloc (.cells #[.int .i64 0, .int .i64 0, .int .i64 0, .int .i64 0] 57)) _ _ at ht7
  generalize w6.alloc (.cells #[.int .i64 0, .int .i64 0, .int .i64 0, .int .i64 0] 57) = w7 at ht7 ⊢
  generalize w6.heap.size = gA at ht7 ⊢
  clear ht6
  have HPG := Mx.hid (fun (i : Nat) (h : i < 4) => (show ∃ p, P[i]? = some p ∧ p ∈ P from ⟨P[i]'(by rw [H4.out]; exact h), List.getElem?_eq_getElem _, List.getElem_mem _⟩))
  go_wp2_with fail
  go_loopw [10] (fun y wr => ∃ (i : Nat) (zs : List Int), y = .int .i64 i ∧ i ≤ 4 ∧ Hid (zs.length = 4) ∧ Hid (∀ (j : Nat) (z : Int) (p : List UInt8), j < i → zs[j]? = some z → P[j]? = some p → goodN p z) ∧ St w5 wr [⟨.slice (some ⟨gA, 0, none⟩) 4 4, 57, 1, 4, is zs⟩] [⟨.slice sa 4 sc, 1, 4, ss (tx P)⟩]) (fun y _ => 4 - (intOf y).toNat)
  case atStart => exact ⟨0, [0, 0, 0, 0], rfl, by omega, rfl, fun j z p h => absurd h (Nat.not_lt_zero _), ht7⟩
  case round =>
    clear ht7
    obtain ⟨i, zs, rfl, hi, HZL, HG, hs⟩ := hrel
    by_cases hlt : i < 4
    · obtain ⟨p, hpi, hpm⟩ := HPG.out i hlt
      obtain ⟨b5, o5, rfl, cc⟩ := Sl.cellAny hs.q0 (j := i) (u := .string (str p)) (by
        show (ss (tx P))[i]? = _
        unfold ss tx
        rw [List.map_map, List.getElem?_map, hpi]
        rfl)
      have HNU := Mx.hid (num_any dec_told (str p) wr (by rw [str_size]; exact HPZ.out _ hpm))
      have HDT := Mx.hid (str_data p)
      have HPE := Mx.hid hpi
      have hii : (i : Int) < 4 := by omega
      clear hpi hpm
      generalize str p = sp at *
      go_wp2_with fail
      refine HNU.out.mono ?_
      rintro e w8 ⟨z, bz, rfl, hk8, hz1, hz2⟩
      have hs8 := hs.call0 hk8
      have HGZ : Hid (goodN p z) := by
        refine ⟨hz1, ?_⟩
        rw [HDT.out] at hz2
        exact hz2
      clear hs hk8 cc HNU hz1 hz2
      go_wp2_with ((with_reducible show wpList _ _ _ _ _ _); refine wpl_store1 rfl 3 _ _ rfl hs8 (i) rfl (.int .i64 z) rfl rfl (by kernel_rfl) (by unfold is; rw [List.length_map, HZL.out]; exact hlt) rfl ?_; intro w9 hs9)
      refine ⟨⟨i + 1, zs.set i z, by go_num, by omega, ?_, ?_, hs9.cast rfl ?_⟩, by simp [intOf]; omega⟩
      · show _ = 4
        rw [List.length_set]
        exact HZL.out
      · intro j z' p' hj hz' hp'
        rw [List.getElem?_set] at hz'
        by_cases hji : i = j
        · rw [if_pos hji, if_pos (by rw [HZL.out]; omega)] at hz'
          cases hz'
          subst hji
          rw [HPE.out] at hp'
          cases hp'
          exact HGZ.out
        · rw [if_neg hji] at hz'
          exact HG.out j z' p' (by omega) hz' hp'
      · unfold is
        rw [List.map_set, List.set_eq_take_append_cons_drop, if_pos (by rw [List.length_map, HZL.out]; exact hlt)]
        simp
    · obtain rfl : i = 4 := by omega
      obtain ⟨za, zb, zc, zd, rfl⟩ : ∃ a b c d, zs = [a, b, c, d] := by
        match zs, HZL.out with
        | [a, b, c, d], _ => exact ⟨a, b, c, d, rfl⟩
      have y0 : wr.cell? ⟨gA, 0, none⟩ = some (.int .i64 za) := hs.rcell (List.mem_cons_self ..) (j := 0) rfl
      have y1 : wr.cell? ⟨gA, 1, none⟩ = some (.int .i64 zb) := hs.rcell (List.mem_cons_self ..) (j := 1) rfl
      have y2 : wr.cell? ⟨gA, 2, none⟩ = some (.int .i64 zc) := hs.rcell (List.mem_cons_self ..) (j := 2) rfl
      have y3 : wr.cell? ⟨gA, 3, none⟩ = some (.int .i64 zd) := hs.rcell (List.mem_cons_self ..) (j := 3) rfl
      replace hs := hs.noQ
      have c9 := hs.keep HC9.out
      have n1 : (0 : Int) ≤ (ls.length : Int) - 1 := by omega
      have n2 : (ls.length : Int) - 1 < (ls.length : Int) := by omega
      have n3 : ((ls.length : Int) - 1).toNat = ls.length - 1 := by omega
      have n4 : (1 : Int) ≤ (ls.length : Int) := by omega
      have n5 : IntKind.i64.wrap ((ls.length : Int) - 1) = (ls.length : Int) - 1 := IntWalk.i64_in _ (by omega)
      go_upto_region 17 with fail
      have hc := hs.drew
      (refine wp_region_S (16) (fun W' => W'.cell? ⟨b0, o0 + (ls.length - 1), none⟩ = some (.slice ua nd uc) ∧ W'.cell? ⟨gA, 0, none⟩ = some (.int .i64 za) ∧ W'.cell? ⟨gA, 1, none⟩ = some (.int .i64 zb) ∧ W'.cell? ⟨gA, 2, none⟩ = some (.int .i64 zc) ∧ W'.cell? ⟨gA, 3, none⟩ = some (.int .i64 zd)) (by kernel_rfl) ?_ (fun hHeld => ?_); (focus ((try dsimp only); exact ⟨c9, y0, y1, y2, y3⟩)))
      (refine wpAnyS_takeW (i := 0) (v := ?_) rfl (by kernel_rfl) (by kernel_rfl) (by kernel_rfl) (by kernel_rfl) (fun _ _ _ h => h) (Or.inl ⟨by rfl, ?_⟩) hHeld ?_; rotate_left 1; (focus (intro w' hSw; go_simp; (try with_reducible rfl))); (try simp only [Act.put, List.setIfInBounds_toArray, List.set_cons_zero, List.set_cons_succ]))
      (refine wpAnyS_takeW (i := 2) (v := ?_) rfl (by kernel_rfl) (by kernel_rfl) (by kernel_rfl) (by kernel_rfl) (fun _ _ _ h => h) (Or.inl ⟨by rfl, ?_⟩) hHeld ?_; rotate_left 1; (focus (intro w' hSw; go_simp; (try with_reducible rfl))); (try simp only [Act.put, List.setIfInBounds_toArray, List.set_cons_zero, List.set_cons_succ]))
      (refine wpAnyS_takeW (i := 4) (v := ?_) rfl (by kernel_rfl) (by kernel_rfl) (by kernel_rfl) (by kernel_rfl) (fun _ _ _ h => h) (Or.inl ⟨by rfl, ?_⟩) hHeld ?_; rotate_left 1; (focus (intro w' hSw; go_simp; (try with_reducible rfl))); (try simp only [Act.put, List.setIfInBounds_toArray, List.set_cons_zero, List.set_cons_succ]))
      (refine wpAnyS_takeW (i := 6) (v := ?_) rfl (by kernel_rfl) (by kernel_rfl) (by kernel_rfl) (by kernel_rfl) (fun _ _ _ h => h) (Or.inl ⟨by rfl, ?_⟩) hHeld ?_; rotate_left 1; (focus (intro w' hSw; go_simp; (try with_reducible rfl))); (try simp only [Act.put, List.setIfInBounds_toArray, List.set_cons_zero, List.set_cons_succ]))
      (refine wpAnyS_takeW (i := 8) (v := ?_) rfl (by kernel_rfl) (by kernel_rfl) (by kernel_rfl) (by kernel_rfl) (fun _ _ _ h => h) (Or.inl ⟨by rfl, ?_⟩) hHeld ?_; rotate_left 1; (focus (intro w' hSw; go_simp; (try with_reducible rfl))); (try simp only [Act.put, List.setIfInBounds_toArray, List.set_cons_zero, List.set_cons_succ]))
      (refine wpAnyS_takeW (i := 9) (v := ?_) rfl (by kernel_rfl) (by kernel_rfl) (by kernel_rfl) (by kernel_rfl) (fun _ _ _ h => h) (Or.inl ⟨by rfl, ?_⟩) hHeld ?_; rotate_left 1; (focus (intro w' hSw; go_simp; (try with_reducible rfl))); (try simp only [Act.put, List.setIfInBounds_toArray, List.set_cons_zero, List.set_cons_succ]))
      (refine wpAnyS_takeW (i := 10) (v := ?_) rfl (by kernel_rfl) (by kernel_rfl) (by kernel_rfl) (by kernel_rfl) (fun _ _ _ h => h) (Or.inl ⟨by rfl, ?_⟩) hHeld ?_; rotate_left 1; (focus (intro w' hSw; go_simp; (try with_reducible rfl))); (try simp only [Act.put, List.setIfInBounds_toArray, List.set_cons_zero, List.set_cons_succ]))
      (refine wpAnyS_takeW (i := 11) (v := ?_) rfl (by kernel_rfl) (by kernel_rfl) (by kernel_rfl) (by kernel_rfl) (fun _ _ _ h => h) (Or.inl ⟨by rfl, ?_⟩) hHeld ?_; rotate_left 1; (focus (intro w' hSw; go_simp; (try with_reducible rfl))); (try simp only [Act.put, List.setIfInBounds_toArray, List.set_cons_zero, List.set_cons_succ]))
      (refine wpAnyS_takeW (i := 12) (v := ?_) rfl (by kernel_rfl) (by kernel_rfl) (by kernel_rfl) (by kernel_rfl) (fun _ _ _ h => h) (Or.inl ⟨by rfl, ?_⟩) hHeld ?_; rotate_left 1; (focus (intro w' hSw; go_simp; (try with_reducible rfl))); (try simp only [Act.put, List.setIfInBounds_toArray, List.set_cons_zero, List.set_cons_succ]))
      (refine wpAnyS_takeD (i := 1) (v := ?_) rfl (by kernel_rfl) (by kernel_rfl) (by kernel_rfl) (by kernel_rfl) (by kernel_rfl) (fun _ _ _ h => h) (Or.inl ⟨by first | rfl | (go_simp; done), ?_⟩) hHeld ?_; rotate_left 1; (focus (intro w' hSw; (try dsimp only at hSw); (obtain ⟨s0, s1, s2, s3, s4⟩ := hSw); go_simp; (try with_reducible rfl))); (try simp only [Act.put, List.setIfInBounds_toArray, List.set_cons_zero, List.set_cons_succ]))
      (refine wpAnyS_takeD (i := 3) (v := ?_) rfl (by kernel_rfl) (by kernel_rfl) (by kernel_rfl) (by kernel_rfl) (by kernel_rfl) (fun _ _ _ h => h) (Or.inl ⟨by first | rfl | (go_simp; done), ?_⟩) hHeld ?_; rotate_left 1; (focus (intro w' hSw; (try dsimp only at hSw); (obtain ⟨s0, s1, s2, s3, s4⟩ := hSw); go_simp; (try with_reducible rfl))); (try simp only [Act.put, List.setIfInBounds_toArray, List.set_cons_zero, List.set_cons_succ]))
      (refine wpAnyS_takeD (i := 5) (v := ?_) rfl (by kernel_rfl) (by kernel_rfl) (by kernel_rfl) (by kernel_rfl) (by kernel_rfl) (fun _ _ _ h => h) (Or.inl ⟨by first | rfl | (go_simp; done), ?_⟩) hHeld ?_; rotate_left 1; (focus (intro w' hSw; (try dsimp only at hSw); (obtain ⟨s0, s1, s2, s3, s4⟩ := hSw); go_simp; (try with_reducible rfl))); (try simp only [Act.put, List.setIfInBounds_toArray, List.set_cons_zero, List.set_cons_succ]))
      (refine wpAnyS_takeD (i := 7) (v := ?_) rfl (by kernel_rfl) (by kernel_rfl) (by kernel_rfl) (by kernel_rfl) (by kernel_rfl) (fun _ _ _ h => h) (Or.inl ⟨by first | rfl | (go_simp; done), ?_⟩) hHeld ?_; rotate_left 1; (focus (intro w' hSw; (try dsimp only at hSw); (obtain ⟨s0, s1, s2, s3, s4⟩ := hSw); go_simp; (try with_reducible rfl))); (try simp only [Act.put, List.setIfInBounds_toArray, List.set_cons_zero, List.set_cons_succ]))
      (refine wpAnyS_takeD (i := 13) (v := ?_) rfl (by kernel_rfl) (by kernel_rfl) (by kernel_rfl) (by kernel_rfl) (by kernel_rfl) (fun _ _ _ h => h) (Or.inl ⟨by first | rfl | (go_simp; done), ?_⟩) hHeld ?_; rotate_left 1; (focus (intro w' hSw; (try dsimp only at hSw); (obtain ⟨s0, s1, s2, s3, s4⟩ := hSw); go_simp; (try with_reducible rfl))); (try simp only [Act.put, List.setIfInBounds_toArray, List.set_cons_zero, List.set_cons_succ]))
      clear n1 n2 n3 n4 n5
      generalize wr.drew = W at hc hHeld ⊢
      (refine wpAnyS_takeW (i := 14) (v := ?_) rfl (by kernel_rfl) (by kernel_rfl) (by kernel_rfl) (by kernel_rfl) (fun _ _ _ h => h) (Or.inl ⟨by rfl, ?_⟩) hHeld ?_; rotate_left 1; (focus (intro w' hSw; go_simp; (try with_reducible rfl))); (try simp only [Act.put, List.setIfInBounds_toArray, List.set_cons_zero, List.set_cons_succ]))
      (refine wpAnyS_ready (rs := [15]) (by kernel_rfl) (by simp) ?_; refine AllS.consL rfl (fun K hK => ?_) AllS.nil)
      go_simp
      replace hc := hc.madeAt ([.int .i64 0, .int .i64 0, .int .i64 0, .int .i64 0, .slice none 0 0, .slice none 0 0]).toArray 32 6 1 W.heap.size rfl (by simp [maxLen]) rfl
      change St w5 (W.alloc (Obj.cells #[.int .i64 0, .int .i64 0, .int .i64 0, .int .i64 0, .slice none 0 0, .slice none 0 0] 32)) _ _ at hc
      generalize W.alloc (Obj.cells #[.int .i64 0, .int .i64 0, .int .i64 0, .int .i64 0, .slice none 0 0, .slice none 0 0] 32) = W1 at hc ⊢
      generalize W.heap.size = gO at hc ⊢
      (refine hK.out _ _ ?_ (fun hHeld => ?_); (focus ((try dsimp only); exact ⟨hc.keep HC9.out, hc.rcell (List.mem_cons_of_mem _ (List.mem_cons_self ..)) (j := 0) rfl, hc.rcell (List.mem_cons_of_mem _ (List.mem_cons_self ..)) (j := 1) rfl, hc.rcell (List.mem_cons_of_mem _ (List.mem_cons_self ..)) (j := 2) rfl, hc.rcell (List.mem_cons_of_mem _ (List.mem_cons_self ..)) (j := 3) rfl⟩)); clear hK K; (try simp only [Act.put, List.setIfInBounds_toArray, List.set_cons_zero, List.set_cons_succ]))
      (refine wpAnyS_seq (by rfl) (by kernel_rfl) ?_; simp only [List.drop_succ_cons, List.drop_zero])
      clear hHeld hs y0 y1 y2 y3 c9
      go_wp2_with ((with_reducible show wpList _ _ _ _ _ _); refine wpl_storeA rfl 32 _ _ rfl Tryd.aMsgR hc (0) rfl ([.int .i64 za, .int .i64 zb, .int .i64 zc, .int .i64 zd, .slice none 0 0, .slice ua nd uc]) rfl (by rfl) (by simp) (by intro u hu; simp at hu; rcases hu with rfl | rfl | rfl | rfl | rfl | rfl <;> rfl) ?_; intro w9 hs9)
      replace hs9 := hs9.cast rfl (show _ = [.int .i64 za, .int .i64 zb, .int .i64 zc, .int .i64 zd, .slice none 0 0, .slice ua nd uc] by simp)
      have hmidl : ((ls.take (ls.length - 2)).drop 1).length = ls.length - 3 := by rw [List.length_drop, List.length_take]; omega
      have HMG := Mx.hid (fun (k : Nat) (hk : k < ls.length - 3) => (show ((ls.take (ls.length - 2)).drop 1)[k]? = some (ls[k + 1]'(by omega)) by
        rw [List.getElem?_drop, List.getElem?_take, if_pos (by omega), Nat.add_comm 1 k, List.getElem?_eq_getElem (by omega)]))
      have HML := Mx.hid hmidl
      have HMID : Hid (∃ mid, mid = (ls.take (ls.length - 2)).drop 1) := ⟨_, rfl⟩
      obtain ⟨mid, hmid⟩ := HMID.out
      rw [← hmid] at HMG HML
      have HMI := Mx.hid hmid
      clear hmidl HMID hmid hc
      go_loopw [12] (fun y wr => ∃ (i : Nat) (iv : Value), y = .int .i64 ((i : Int) + 1) ∧ i ≤ ls.length - 3 ∧ St w5 wr [⟨iv, 9, 1, i, ss ((mid.take i).map str)⟩, ⟨.slice (some ⟨gO, 0, none⟩) 1 1, 32, 6, 1, [.int .i64 za, .int .i64 zb, .int .i64 zc, .int .i64 zd, iv, .slice ua nd uc]⟩] []) (fun y _ => ls.length - (intOf y).toNat)
      case atStart => exact ⟨0, _, by go_num, by omega, (hs9.noQ.head).addNil _ _⟩
      case round =>
        clear hs9
        obtain ⟨i, iv, rfl, hi, hs⟩ := hrel
        obtain ⟨ia, ic, rfl, -⟩ := id hs.sl0
        have x4 : wr.cell? ⟨gO, 4, none⟩ = some (.slice ia i ic) := hs.rcell (List.mem_cons_of_mem _ (List.mem_cons_self ..)) (j := 4) rfl
        have n5 : IntKind.i64.wrap ((ls.length : Int) - 2) = (ls.length : Int) - 2 := IntWalk.i64_in _ (by omega)
        by_cases hlt : i < ls.length - 3
        · obtain ⟨pa, pc, hvi, hsi⟩ := HVM.out (i + 1) (by omega)
          obtain ⟨b5, o5, he5, cc⟩ := Sl.cellAny HSV.out hvi
          cases he5
          have HCC := Mx.hid cc
          have hzi := HZ.out ls[i + 1] (List.getElem_mem (by omega))
          have HTK := Mx.hid (show ss ((mid.take (i + 1)).map str) = ss ((mid.take i).map str) ++ [.string (str ls[i + 1])] by
            rw [List.take_add_one, HMG.out i hlt, List.map_append, ss_app]
            rfl)
          have hii : decide ((i : Int) + 1 < (ls.length : Int) - 2) = true := decide_eq_true (by omega)
          have HSI := Mx.hid hsi
          clear hvi hsi
          generalize ls[i + 1] = p at *
          go_upto_region 21 with fail
          clear n5 hii
          have n1 : (0 : Int) ≤ (i : Int) + 1 := by omega
          have n2 : (i : Int) + 1 < (ls.length : Int) := by omega
          have n3 : ((i : Int) + 1).toNat = i + 1 := by omega
          replace cc := hs.keep HCC.out
          have hc := hs.drew
          (refine wp_region_S (9) (fun W' => W'.cell? ⟨gO, 4, none⟩ = some (.slice ia i ic) ∧ W'.cell? ⟨b0, o0 + (i + 1), none⟩ = some (.slice pa p.length pc)) (by kernel_rfl) ?_ (fun hHeld => ?_); (focus ((try dsimp only); exact ⟨x4, cc⟩)))
          (refine wpAnyS_takeW (i := 0) (v := ?_) rfl (by kernel_rfl) (by kernel_rfl) (by kernel_rfl) (by kernel_rfl) (fun _ _ _ h => h) (Or.inl ⟨by rfl, ?_⟩) hHeld ?_; rotate_left 1; (focus (intro w' hSw; go_simp; (try with_reducible rfl))); (try simp only [Act.put, List.setIfInBounds_toArray, List.set_cons_zero, List.set_cons_succ]))
          (refine wpAnyS_takeW (i := 2) (v := ?_) rfl (by kernel_rfl) (by kernel_rfl) (by kernel_rfl) (by kernel_rfl) (fun _ _ _ h => h) (Or.inl ⟨by rfl, ?_⟩) hHeld ?_; rotate_left 1; (focus (intro w' hSw; go_simp; (try with_reducible rfl))); (try simp only [Act.put, List.setIfInBounds_toArray, List.set_cons_zero, List.set_cons_succ]))
          (refine wpAnyS_takeW (i := 3) (v := ?_) rfl (by kernel_rfl) (by kernel_rfl) (by kernel_rfl) (by kernel_rfl) (fun _ _ _ h => h) (Or.inl ⟨by rfl, ?_⟩) hHeld ?_; rotate_left 1; (focus (intro w' hSw; go_simp; (try with_reducible rfl))); (try simp only [Act.put, List.setIfInBounds_toArray, List.set_cons_zero, List.set_cons_succ]))
          (refine wpAnyS_takeW (i := 4) (v := ?_) rfl (by kernel_rfl) (by kernel_rfl) (by kernel_rfl) (by kernel_rfl) (fun _ _ _ h => h) (Or.inl ⟨by rfl, ?_⟩) hHeld ?_; rotate_left 1; (focus (intro w' hSw; go_simp; (try with_reducible rfl))); (try simp only [Act.put, List.setIfInBounds_toArray, List.set_cons_zero, List.set_cons_succ]))
          (refine wpAnyS_takeD (i := 1) (v := ?_) rfl (by kernel_rfl) (by kernel_rfl) (by kernel_rfl) (by kernel_rfl) (by kernel_rfl) (fun _ _ _ h => h) (Or.inl ⟨by first | rfl | (go_simp; done), ?_⟩) hHeld ?_; rotate_left 1; (focus (intro w' hSw; (try dsimp only at hSw); (obtain ⟨s0, s1⟩ := hSw); go_simp; (try with_reducible rfl))); (try simp only [Act.put, List.setIfInBounds_toArray, List.set_cons_zero, List.set_cons_succ]))
          (refine wpAnyS_takeD (i := 5) (v := ?_) rfl (by kernel_rfl) (by kernel_rfl) (by kernel_rfl) (by kernel_rfl) (by kernel_rfl) (fun _ _ _ h => h) (Or.inl ⟨by first | rfl | (go_simp; done), ?_⟩) hHeld ?_; rotate_left 1; (focus (intro w' hSw; (try dsimp only at hSw); (obtain ⟨s0, s1⟩ := hSw); go_simp; (try with_reducible rfl))); (try simp only [Act.put, List.setIfInBounds_toArray, List.set_cons_zero, List.set_cons_succ]))
          clear n1 n2 n3
          generalize wr.drew = W at hc hHeld ⊢
          have hb2 := run_b2s (P := Tryd.prog) 23 9 5 (hc.old HSI.out) Tryd.underlying23 Tryd.underlying5 Tryd.underlying9
          (refine wpAnyS_ready (rs := [6]) (by kernel_rfl) (by simp) ?_; refine AllS.consL rfl (fun K hK => ?_) AllS.nil)
          go_simp
          (refine hK.out _ _ ?_ (fun hHeld => ?_); (focus ((try dsimp only); exact ⟨hc.rcell (List.mem_cons_of_mem _ (List.mem_cons_self ..)) (j := 4) rfl, hc.keep HCC.out⟩)); clear hK K; (try simp only [Act.put, List.setIfInBounds_toArray, List.set_cons_zero, List.set_cons_succ]))
          clear hb2
          (refine wpAnyS_ready (rs := [7]) (by kernel_rfl) (by simp) ?_; refine AllS.consL rfl (fun K hK => ?_) AllS.nil)
          go_simp
          have hm := (hc.made #[.string (str p)] 9 1 1 rfl (by simp [maxLen]))
          change St w5 (W.alloc (Obj.cells #[.string (str p)] 9)) _ _ at hm
          generalize W.alloc (Obj.cells #[.string (str p)] 9) = W2 at hm ⊢
          generalize W.heap.size = gW at hm ⊢
          (refine hK.out _ _ ?_ (fun hHeld => ?_); (focus ((try dsimp only); exact ⟨hm.rcell (List.mem_cons_of_mem _ (List.mem_cons_of_mem _ (List.mem_cons_self ..))) (j := 4) rfl, hm.keep HCC.out⟩)); clear hK K; (try simp only [Act.put, List.setIfInBounds_toArray, List.set_cons_zero, List.set_cons_succ]))
          have hsl := hm.sl0
          (refine wpAnyS_ready (rs := [8]) (by kernel_rfl) (by simp) ?_; refine AllS.consL rfl (fun K hK => ?_) AllS.nil)
          refine step_app rfl _ _ 22 rfl Tryd.elStr hm.swap rfl (by exact hsl) (by intro u hu; simp at hu; subst hu; rfl) (by omega) ?_
          intro v6 w6 hs6 _
          obtain ⟨va6, vc6, rfl, _⟩ := id hs6.sl0
          (refine hK.out _ _ ?_ (fun hHeld => ?_); (focus ((try dsimp only); exact ⟨hs6.rcell (List.mem_cons_of_mem _ (List.mem_cons_of_mem _ (List.mem_cons_self ..))) (j := 4) rfl, hs6.keep HCC.out⟩)); clear hK K; (try simp only [Act.put, List.setIfInBounds_toArray, List.set_cons_zero, List.set_cons_succ]))
          (refine wpAnyS_seq (by rfl) (by kernel_rfl) ?_; simp only [List.drop_succ_cons, List.drop_zero])
          have hs8 := (hs6.sub (List.Sublist.cons_cons _ (List.Sublist.cons _ (List.Sublist.refl _))) fun _ h => h).swap
          clear hHeld hm hsl hs6 hc hs x4 cc
          go_wp2_with ((with_reducible show wpList _ _ _ _ _ _); refine wpl_store1 rfl 22 _ _ rfl hs8 (4) rfl (.slice va6 (i + 1) vc6) rfl rfl (by kernel_rfl) (by simp) rfl ?_; intro w7 hs7)
          exact ⟨⟨i + 1, .slice va6 (i + 1) vc6, by go_num, by omega, (hs7.cast rfl (show _ = [.int .i64 za, .int .i64 zb, .int .i64 zc, .int .i64 zd, .slice va6 (i + 1) vc6, .slice ua nd uc] by simp)).swap.cast rfl HTK.out.symm⟩, by simp [intOf]; omega⟩
        · obtain rfl : i = ls.length - 3 := by omega
          have hmt : mid.take (ls.length - 3) = mid := List.take_of_length_le (by rw [HML.out]; exact Nat.le_refl _)
          rw [hmt] at hs
          have hge : decide (((ls.length - 3 : Nat) : Int) + 1 < (ls.length : Int) - 2) = false := decide_eq_false (by omega)
          obtain ⟨ids, hids⟩ : ∃ ids, ids = mid.map str := ⟨_, rfl⟩
          rw [← hids] at hs
          have hil : ids.length = ls.length - 3 := by rw [hids, List.length_map, HML.out]
          have HSZ := Mx.hid (fun x (hx : x ∈ ids) => (show x.size ≤ 140737488355328 by
            rw [hids] at hx
            obtain ⟨p, hp, rfl⟩ := List.mem_map.1 hx
            rw [HMI.out] at hp
            have := HZ.out p (List.mem_of_mem_take (List.mem_of_mem_drop hp))
            rw [str_size]
            omega))
          have HDF := Mx.hid (fun (h : ¬ (mayM ⟨za, zb, zc, zd, ids, D⟩ = true ∧ encM ⟨za, zb, zc, zd, ids, D⟩ = b)) => HFORM.out (fun m hm he => h (by
            have hr := ref_read hm (HRD.out m hm he).2.1 (zs := [za, zb, zc, zd]) rfl (fun j z p hz hp => HG.out j z p (by
              obtain ⟨hj, _⟩ := List.getElem?_eq_some_iff.1 hz
              exact hj) hz (by rw [HGD.out, ← HP.out] at hp; exact hp))
            rw [HGE.out, ← HMI.out, ← hids] at hr
            have hr2 : (⟨za, zb, zc, zd, ids, D⟩ : Ms) = m := hr
            rw [hr2]
            exact ⟨hm, he⟩)))
          have HIL := Mx.hid hil
          clear hmt HMG hids
          generalize hn3 : ls.length - 3 = n3 at *
          have HN3 := Mx.hid hn3
          clear hn3 hil
          have hMB : MB wr (.slice ia n3 ic) (.slice ua nd uc) ⟨za, zb, zc, zd, ids, D⟩ := ⟨by show Sl wr 1 _ ids.length _; rw [HIL.out]; exact hs.sl0, by show Sl wr 1 _ D.length _; rw [HND.out]; exact hs.old HSLD.out⟩
          have HEN := Mx.hid (rencP_any _ _ _ wr hMB HSZ.out)
          unfold MV at HEN
          have hcM := VCof hs (List.mem_cons_of_mem _ (List.mem_cons_self ..))
          have hsA := hsQ.call hs
          clear hMB hs HVM HSV HPV HZ HSZ x4 hlt
          obtain ⟨R, hR⟩ : ∃ R : Ms, R = ⟨za, zb, zc, zd, ids, D⟩ := ⟨_, rfl⟩
          have HR := Mx.hid hR
          simp only [] at HEN
          rw [← hR] at HEN HDF
          clear hR
          go_wp2_with ((with_reducible show wpList _ _ _ _ _ _); refine wpl_loadA rfl 32 _ rfl Tryd.aMsgR (gO) (0) rfl ([.int .i64 za, .int .i64 zb, .int .i64 zc, .int .i64 zd, .slice ia n3 ic, .slice ua nd uc]) rfl hcM ?_)
          refine HEN.out.mono ?_
          rintro e w8 (⟨hmay, vx, rfl, hk8⟩ | ⟨hmay, rfl, hk8⟩)
          case inr =>
            have HD := Mx.hid (HDF.out (fun h => by rw [hmay] at h; cases h.1))
            have hs8 : St w w8 [⟨.slice (some ⟨gR, 0, none⟩) 1 1, 32, 6, 1, [.int .i64 0, .int .i64 0, .int .i64 0, .int .i64 0, .slice none 0 0, .slice none 0 0]⟩, ⟨.slice ia n3 ic, 9, 1, n3, ss ids⟩, ⟨.slice (some ⟨gO, 0, none⟩) 1 1, 32, 6, 1, [.int .i64 za, .int .i64 zb, .int .i64 zc, .int .i64 zd, .slice ia n3 ic, .slice ua nd uc]⟩] _ := (hsA.call0 hk8).rot.rot
            clear hmay hk8 hsA hsQ hcM HEN
            go_wp2_with (first | ((with_reducible show wpList _ _ _ _ _ _); refine wpl_want rfl ?_) | ((with_reducible show wpList _ _ _ _ _ _); refine wpl_storeA rfl 32 _ _ rfl Tryd.aMsgR hs8 (0) rfl ([.int .i64 0, .int .i64 0, .int .i64 0, .int .i64 0, .slice none 0 0, .slice none 0 0]) rfl (by rfl) (by simp) (by intro u hu; simp at hu; rcases hu with rfl | rfl | rfl | rfl | rfl | rfl <;> rfl) ?_; intro w9 hs9))
            replace hs9 := hs9.cast rfl (show _ = [.int .i64 0, .int .i64 0, .int .i64 0, .int .i64 0, .slice none 0 0, .slice none 0 0] by simp)
            have hcw : ∀ i u, ([.int .i64 0, .int .i64 0, .int .i64 0, .int .i64 0, .slice none 0 0, .slice none 0 0])[i]? = some u → w9.cell? ⟨gR, i, none⟩ = some u := fun i u h => hs9.rcell (List.mem_cons_self ..) h
            refine bodyPost_ret (v := .tuple #[.agg ([.int .i64 0, .int .i64 0, .int .i64 0, .int .i64 0, .slice none 0 0, .slice none 0 0]).toArray, .int .i64 4]) (results_cellA2 Tryd.results13 _ Tryd.aMsgR (g := gR) ([.int .i64 0, .int .i64 0, .int .i64 0, .int .i64 0, .slice none 0 0, .slice none 0 0]) ?_ rfl hcw ?_) ?_ ?_
            · first | (simp; done) | simp [Act.put]
            · first | (simp; done) | simp [Act.put]
            · first | (simp; done) | simp [Act.put]
            · exact ⟨.slice none 0 0, .slice none 0 0, noMs, 4, rfl, hs9.bare, ⟨Sl.nil _ _, Sl.nil _ _⟩, HD.out⟩
          case inl =>
          have hs8 : St w w8 [⟨.slice (some ⟨gR, 0, none⟩) 1 1, 32, 6, 1, [.int .i64 0, .int .i64 0, .int .i64 0, .int .i64 0, .slice none 0 0, .slice none 0 0]⟩, ⟨.slice ia n3 ic, 9, 1, n3, ss ids⟩, ⟨.slice (some ⟨gO, 0, none⟩) 1 1, 32, 6, 1, [.int .i64 za, .int .i64 zb, .int .i64 zc, .int .i64 zd, .slice ia n3 ic, .slice ua nd uc]⟩] [⟨.slice ua nd uc, 1, nd, bs D⟩] := (hsA.call0 hk8.bare).rot.rot
          obtain ⟨xA, xC, rfl, -⟩ := id hk8.sl0
          have HEQ := Mx.hid (bytes_any _ _ (encM R) b w8 hk8.sl0 (hs8.old HV.out))
          have HMAY := Mx.hid hmay
          clear hmay hk8 hsA hsQ hcM HEN
          by_cases henc : encM R = b
          case neg =>
            have HD := Mx.hid (HDF.out (fun h => henc h.2))
            rw [decide_eq_false henc] at HEQ
            clear henc
            go_wp2_with (first | ((with_reducible show wpList _ _ _ _ _ _); refine wpl_want rfl ?_) | (go_at_call 14; refine HEQ.out.mono ?_; rintro e w' ⟨rfl, rfl⟩) | ((with_reducible show wpList _ _ _ _ _ _); refine wpl_storeA rfl 32 _ _ rfl Tryd.aMsgR hs8 (0) rfl ([.int .i64 0, .int .i64 0, .int .i64 0, .int .i64 0, .slice none 0 0, .slice none 0 0]) rfl (by rfl) (by simp) (by intro u hu; simp at hu; rcases hu with rfl | rfl | rfl | rfl | rfl | rfl <;> rfl) ?_; intro w9 hs9))
            replace hs9 := hs9.cast rfl (show _ = [.int .i64 0, .int .i64 0, .int .i64 0, .int .i64 0, .slice none 0 0, .slice none 0 0] by simp)
            have hcw : ∀ i u, ([.int .i64 0, .int .i64 0, .int .i64 0, .int .i64 0, .slice none 0 0, .slice none 0 0])[i]? = some u → w9.cell? ⟨gR, i, none⟩ = some u := fun i u h => hs9.rcell (List.mem_cons_self ..) h
            refine bodyPost_ret (v := .tuple #[.agg ([.int .i64 0, .int .i64 0, .int .i64 0, .int .i64 0, .slice none 0 0, .slice none 0 0]).toArray, .int .i64 4]) (results_cellA2 Tryd.results13 _ Tryd.aMsgR (g := gR) ([.int .i64 0, .int .i64 0, .int .i64 0, .int .i64 0, .slice none 0 0, .slice none 0 0]) ?_ rfl hcw ?_) ?_ ?_
            · first | (simp; done) | simp [Act.put]
            · first | (simp; done) | simp [Act.put]
            · first | (simp; done) | simp [Act.put]
            · exact ⟨.slice none 0 0, .slice none 0 0, noMs, 4, rfl, hs9.bare, ⟨Sl.nil _ _, Sl.nil _ _⟩, HD.out⟩
          case pos =>
          have HENC := Mx.hid henc
          rw [decide_eq_true henc] at HEQ
          clear henc
          have hcM8 := VCof hs8 (List.mem_cons_of_mem _ (List.mem_cons_of_mem _ (List.mem_cons_self ..)))
          go_wp2_with (first | ((with_reducible show wpList _ _ _ _ _ _); refine wpl_want rfl ?_) | (go_at_call 14; refine HEQ.out.mono ?_; rintro e w' ⟨rfl, rfl⟩) | ((with_reducible show wpList _ _ _ _ _ _); refine wpl_loadA rfl 32 _ rfl Tryd.aMsgR (gO) (0) rfl ([.int .i64 za, .int .i64 zb, .int .i64 zc, .int .i64 zd, .slice ia n3 ic, .slice ua nd uc]) rfl hcM8 ?_) | ((with_reducible show wpList _ _ _ _ _ _); refine wpl_storeA rfl 32 _ _ rfl Tryd.aMsgR hs8 (0) rfl ([.int .i64 za, .int .i64 zb, .int .i64 zc, .int .i64 zd, .slice ia n3 ic, .slice ua nd uc]) rfl (by rfl) (by simp) (by intro u hu; simp at hu; rcases hu with rfl | rfl | rfl | rfl | rfl | rfl <;> rfl) ?_; intro w9 hs9))
          replace hs9 := hs9.cast rfl (show _ = [.int .i64 za, .int .i64 zb, .int .i64 zc, .int .i64 zd, .slice ia n3 ic, .slice ua nd uc] by simp)
          have hcw : ∀ i u, ([.int .i64 za, .int .i64 zb, .int .i64 zc, .int .i64 zd, .slice ia n3 ic, .slice ua nd uc] : List Value)[i]? = some u → w9.cell? ⟨gR, i, none⟩ = some u := fun i u h => hs9.rcell (List.mem_cons_self ..) h
          refine bodyPost_ret (v := .tuple #[.agg ([.int .i64 za, .int .i64 zb, .int .i64 zc, .int .i64 zd, .slice ia n3 ic, .slice ua nd uc] : List Value).toArray, .int .i64 0]) (results_cellA2 Tryd.results13 _ Tryd.aMsgR (g := gR) [.int .i64 za, .int .i64 zb, .int .i64 zc, .int .i64 zd, .slice ia n3 ic, .slice ua nd uc] ?_ rfl hcw ?_) ?_ ?_
          · first | (simp; done) | simp [Act.put]
          · first | (simp; done) | simp [Act.put]
          · first | (simp; done) | simp [Act.put]
          · refine ⟨.slice ia n3 ic, .slice ua nd uc, R, 0, ?_, hs9.bare, ⟨?_, ?_⟩, .inl ⟨rfl, HMAY.out, HENC.out⟩⟩
            · rw [HR.out]
              rfl
            · rw [HR.out]
              show Sl w9 1 _ ids.length (ss ids)
              rw [HIL.out]
              exact hs9.sl1
            · rw [HR.out]
              show Sl w9 1 _ D.length (bs D)
              rw [HND.out]
              exact hs9.q0
end Go.Proofs.YtloogjdafhjheaaDoor
