/- The walk of obj.read: a commit; read whole. -/
import Derived.Test.YtloogjdafhjheaaGreatObjT
namespace Go.Mx
open Go Go.RowKit
theorem rdPars_stop {n : Nat} {s : Src} (h : s.2 = true ∨ n = 0) : rdPars n s = ([], s) := by
  cases n with
  | zero => rfl
  | succ n =>
    rcases h with h | h
    · rw [rdPars, if_pos h]
    · cases h
theorem rdPars_step {n : Nat} {b : List UInt8} {id : ByteArray} {s1 : Src} (h1 : hs (b, false) = (id, s1)) : rdPars (n + 1) (b, false) = (id :: (rdPars n s1).1, (rdPars n s1).2) := by
  rw [rdPars, if_neg (by simp), h1]
theorem on_256 (s : Src) : (on s).1 < 256 := by
  unfold on
  exact UInt8.toNat_lt _
theorem hs_lt (s : Src) (h : (hs s).2.2 = false) : (hs s).2.1.length + 1 ≤ s.1.length := by
  unfold hs at *
  simp only [] at *
  unfold tk at *
  split at h
  · cases h
  · rename_i h2
    rw [if_neg h2]
    simp
    omega
end Go.Mx
namespace Go.Proofs.YtloogjdafhjheaaGreat
open Go.RowKit Go.Mx

set_option maxRecDepth 100000 in
set_option maxHeartbeats 4000000 in
theorem read_commit (v : Value) (l : List UInt8) (w : World) (hv : Sl w 1 v l.length (bs l)) (hl : l.length ≤ 1000000000) :
    Calls Tryz.prog 65 #[.int .i64 3, v] w (ReadPost w (readO 3 l)) := by
  have HR : Hid (∀ ps q st s1 au s2 k s3 m s4, rdPars (on (Mx.hs (l, false)).2).1 (on (Mx.hs (l, false)).2).2 = (ps, q) → nm q = (st, s1) → nm s1 = (au, s2) → nm s2 = (k, s3) → tk k s3 = (m, s4) → readO 3 l = ⟨3, [], [], (Mx.hs (l, false)).1, ps, (st : Int), (au : Int), str m⟩) := fun ps q st s1 au s2 k s3 m s4 h h1 h2 h3 h4 => by
    unfold readO; rw [if_neg (by decide), if_neg (by decide), if_pos rfl]; simp only [h, h1, h2, h3, h4]
  have hle := Mx.hs_le (l, false)
  have HV0 := Mx.hid hv
  obtain ⟨ao, cap, rfl, h1, h2, _⟩ := hv.bytes
  have HZ := Mx.hid (((St.refl w).madeAt ([.int .i64 (0), .slice none 0 0, .slice none 0 0, .string (str []), .slice none 0 0, .int .i64 (0), .int .i64 (0), .string (str [])]).toArray 56 8 1 w.heap.size rfl (by simp [maxLen]) rfl).madeAt ([.int .i64 (0), .slice none 0 0, .slice none 0 0, .string (str []), .slice none 0 0, .int .i64 (0), .int .i64 (0), .string (str [])]).toArray 56 8 1 (w.heap.size + 1) rfl (by simp [maxLen]) (by rw [heap_size_alloc]))
  clear hv
  have HN := Mx.hid (fun wx g R (hs : St w wx ((⟨.slice (some ⟨g, 0, none⟩) 1 1, 129, 2, 1, [.slice ao l.length cap, .bool false]⟩ : Row) :: R) []) => srcHash_go l hs HV0.out)
  generalize Mx.hs (l, false) = t at *
  obtain ⟨tr, b0, g0⟩ := t
  have hle2 := on_le (b0, g0)
  have h256 := on_256 (b0, g0)
  have HO := Mx.hid (fun wx g v R (hs : St w wx ((⟨.slice (some ⟨g, 0, none⟩) 1 1, 129, 2, 1, [v, .bool g0]⟩ : Row) :: R) []) (hv : Sl w 1 v b0.length (bs b0)) => one_go b0 hs hv)
  simp only [] at *
  generalize on (b0, g0) = t at *
  obtain ⟨n, s0⟩ := t
  simp only [] at *
  have Hle := Mx.hid (hle2.trans hle)
  have hn : n ≤ 256 := by omega
  clear hle hle2 h256
  go_enter Tryz.func65, Tryz.ntmps65
  go_wp2_with (first | (((with_reducible show wpList _ _ _ _ _ _); refine wpl_storeA rfl 56 _ _ rfl Tryz.aObj HZ.out (0) rfl ([.int .i64 (3), .slice none 0 0, .slice none 0 0, .string (str []), .slice none 0 0, .int .i64 (0), .int .i64 (0), .string (str [])]) rfl (by rfl) (by simp) (by intro u hu; simp at hu; rcases hu with rfl | rfl | rfl | rfl | rfl | rfl | rfl | rfl <;> rfl) ?_; intro w1 hs1); clear HZ) | (((with_reducible show wpList _ _ _ _ _ _); refine wpl_box rfl 129 _ rfl hs1 ([.slice ao l.length cap, .bool false]) (by rfl) ?_; intro gx w2 hs2)) | (go_at_call 84; refine (HN.out _ _ _ hs2).mono ?_; rintro e w3 ⟨v3, rfl, hv3, hs3⟩) | ((with_reducible show wpList _ _ _ _ _ _); refine wpl_store1 rfl 9 _ _ rfl hs3.swap (3) rfl (.string tr) rfl rfl (by kernel_rfl) (by simp) rfl ?_; intro w4 hs4) | (go_at_call 82; refine (HO.out _ _ _ _ hs4.swap hv3).mono ?_; rintro e w5 ⟨v5, rfl, hv5, hs5⟩))
  have hs6 : St w w5 [(⟨.slice (some ⟨gx, 0, none⟩) 1 1, 129, 2, 1, [v5, .bool s0.2]⟩ : Row), (⟨.slice none 0 0, 9, 1, (([] : List ByteArray)).length, ss (([] : List ByteArray))⟩ : Row), (⟨.slice (some ⟨w.heap.size + 1, 0, none⟩) 1 1, 56, 8, 1, [.int .i64 (3), .slice none 0 0, .slice none 0 0, .string (tr), .slice none 0 0, .int .i64 (0), .int .i64 (0), .string (str [])]⟩ : Row), (⟨.slice (some ⟨w.heap.size, 0, none⟩) 1 1, 56, 8, 1, [.int .i64 (0), .slice none 0 0, .slice none 0 0, .string (str []), .slice none 0 0, .int .i64 (0), .int .i64 (0), .string (str [])]⟩ : Row)] [] := (hs5.addNil 9 1).swap
  clear hs5 hs4 hs3 hs2 hs1
  go_loopw [12] (fun y wr => ∃ (i : Nat) (done : List ByteArray) (b : List UInt8) (sh : Bool) (vs iv : Value), y = .int .i64 i ∧ i ≤ n ∧ done.length = i ∧ Hid (rdPars n s0 = (done ++ (rdPars (n - i) (b, sh)).1, (rdPars (n - i) (b, sh)).2)) ∧ b.length ≤ l.length ∧ Hid (Sl w 1 vs b.length (bs b)) ∧ St w wr [(⟨.slice (some ⟨gx, 0, none⟩) 1 1, 129, 2, 1, [vs, .bool sh]⟩ : Row), (⟨iv, 9, 1, (done).length, ss (done)⟩ : Row), (⟨.slice (some ⟨w.heap.size + 1, 0, none⟩) 1 1, 56, 8, 1, [.int .i64 (3), .slice none 0 0, .slice none 0 0, .string (tr), iv, .int .i64 (0), .int .i64 (0), .string (str [])]⟩ : Row), (⟨.slice (some ⟨w.heap.size, 0, none⟩) 1 1, 56, 8, 1, [.int .i64 (0), .slice none 0 0, .slice none 0 0, .string (str []), .slice none 0 0, .int .i64 (0), .int .i64 (0), .string (str [])]⟩ : Row)] []) (fun y _ => n - (intOf y).toNat)
  case atStart => exact ⟨0, [], s0.1, s0.2, v5, _, rfl, by omega, rfl, by simp [Hid], Hle.out.1, hv5, hs6⟩
  case round =>
    obtain ⟨i, done, b, sh, vs, iv, rfl, hi, hd, HE, hbl, HV, hs⟩ := hrel
    have y0 : wr.cell? ⟨gx, 1, none⟩ = some (.bool sh) := hs.cell (j := 1) rfl
    clear hs6
    by_cases hstop : sh = true ∨ i = n
    · have N1 := Mx.hid (fun wx v R (hs : St w wx ((⟨.slice (some ⟨gx, 0, none⟩) 1 1, 129, 2, 1, [v, .bool sh]⟩ : Row) :: R) []) (hv : Sl w 1 v b.length (bs b)) => srcNumber_go b hs hv (by omega))
      have e1 := nm_le (b, sh)
      have HE2 := Mx.hid (show rdPars n s0 = (done, (b, sh)) by rw [HE.out, rdPars_stop (hstop.imp id (by omega))]; simp)
      generalize hq1 : nm (b, sh) = q1 at *
      obtain ⟨st, b1, g1⟩ := q1
      have hb1 : b1.length ≤ 1000000000 := by have := e1.1; simp only [] at this; omega
      have N2 := Mx.hid (fun wx v R (hs : St w wx ((⟨.slice (some ⟨gx, 0, none⟩) 1 1, 129, 2, 1, [v, .bool g1]⟩ : Row) :: R) []) (hv : Sl w 1 v b1.length (bs b1)) => srcNumber_go b1 hs hv (by omega))
      have e2 := nm_le (b1, g1)
      generalize hq2 : nm (b1, g1) = q2 at *
      obtain ⟨au, b2, g2⟩ := q2
      have hb2 : b2.length ≤ 1000000000 := by have := e2.1; simp only [] at this; omega
      have N3 := Mx.hid (fun wx v R (hs : St w wx ((⟨.slice (some ⟨gx, 0, none⟩) 1 1, 129, 2, 1, [v, .bool g2]⟩ : Row) :: R) []) (hv : Sl w 1 v b2.length (bs b2)) => srcNumber_go b2 hs hv (by omega))
      have e3 := nm_max (b2, g2)
      generalize hq3 : nm (b2, g2) = q3 at *
      obtain ⟨k, b3, g3⟩ := q3
      have N4 := Mx.hid (fun wx v R (hs : St w wx ((⟨.slice (some ⟨gx, 0, none⟩) 1 1, 129, 2, 1, [v, .bool g3]⟩ : Row) :: R) []) (hv : Sl w 1 v b3.length (bs b3)) => take_go b3 k hs hv e3)
      generalize hq4 : tk k (b3, g3) = q4 at *
      obtain ⟨m, s4⟩ := q4
      have HF := Mx.hid (HR.out _ _ _ _ _ _ _ _ _ _ HE2.out hq1 hq2 hq3 hq4)
      simp only [] at *
      have hiv := hs.sl1
      obtain ⟨io, ic, rfl, _⟩ := id hiv
      clear hiv hq1 hq2 hq3 hq4 e1 e2 e3 hb1 hb2 HE2 HR
      by_cases hin : i = n
      · have q1 : decide ((i : Int) < (n : Int)) = false := decide_eq_false (by omega)
        have q2 : decide (i < n) = false := decide_eq_false (by omega)
        clear hin hstop hi hd
        go_wp2_with (first | ((with_reducible show wpList _ _ _ _ _ _); refine wpl_want rfl ?_) | (go_at_call 81; refine (N3.out _ _ _ (hs14.perm (R' := [_, _, _, _]) (List.perm_append_comm (l₁ := [_, _]) (l₂ := [_, _]))) hv12).mono ?_; rintro e w15 ⟨v15, rfl, hv15, hs15⟩) | (go_at_call 81; refine (N2.out _ _ _ hs11 hv11).mono ?_; rintro e w12 ⟨v12, rfl, hv12, hs12⟩) | (go_at_call 81; refine (N1.out _ _ _ hs HV.out).mono ?_; rintro e w11 ⟨v11, rfl, hv11, hs11⟩) | (go_at_call 83; refine (N4.out _ _ _ hs15 hv15).mono ?_; rintro e w16 ⟨vx, v16, rfl, hx, hv16, hs16⟩) | ((with_reducible show wpList _ _ _ _ _ _); refine wpl_store1 rfl 9 _ _ rfl (hs16.perm (R' := [_, _, _, _]) (List.perm_append_comm (l₁ := [_, _]) (l₂ := [_, _]))) (7) rfl (.string (str m)) rfl rfl (by kernel_rfl) (by simp) rfl ?_; intro w17 hs17) | ((with_reducible show wpList _ _ _ _ _ _); refine wpl_store1 rfl 3 _ _ rfl hs13 (6) rfl (.int .i64 (au : Int)) rfl rfl (by kernel_rfl) (by simp) rfl ?_; intro w14 hs14) | ((with_reducible show wpList _ _ _ _ _ _); refine wpl_store1 rfl 3 _ _ rfl (hs12.perm (R' := [_, _, _, _]) (List.perm_append_comm (l₁ := [_, _]) (l₂ := [_, _]))) (5) rfl (.int .i64 (st : Int)) rfl rfl (by kernel_rfl) (by simp) rfl ?_; intro w13 hs13) | ((with_reducible show wpList _ _ _ _ _ _); refine wpl_b2s rfl 51 9 5 _ rfl Tryz.underlying51 Tryz.underlying5 Tryz.underlying9 (by exact hs16.old hx) ?_) | ((with_reducible show wpList _ _ _ _ _ _); refine wpl_loadA rfl 56 _ rfl Tryz.aObj ((w.heap.size + 1)) (0) rfl ([.int .i64 (3), .slice none 0 0, .slice none 0 0, .string (tr), .slice io done.length ic, .int .i64 ((st : Int)), .int .i64 ((au : Int)), .string (str m)]) rfl (fun i u h => by rw [Nat.zero_add]; exact hs17.rcell (List.mem_cons_self ..) h) ?_) | (((with_reducible show wpList _ _ _ _ _ _); refine wpl_storeA rfl 56 _ _ rfl Tryz.aObj (hs17.perm (List.Perm.swap _ _ _)) (0) rfl ([.int .i64 (3), .slice none 0 0, .slice none 0 0, .string (tr), .slice io done.length ic, .int .i64 ((st : Int)), .int .i64 ((au : Int)), .string (str m)]) rfl (by rfl) (by simp) (by intro u hu; simp at hu; rcases hu with rfl | rfl | rfl | rfl | rfl | rfl | rfl | rfl <;> rfl) ?_; intro w9 hs9)))
        replace hs9 := hs9.cast rfl (show _ = [.int .i64 (3), .slice none 0 0, .slice none 0 0, .string (tr), .slice io done.length ic, .int .i64 ((st : Int)), .int .i64 ((au : Int)), .string (str m)] by simp)
        have hcw : ∀ i u, ([.int .i64 (3), .slice none 0 0, .slice none 0 0, .string (tr), .slice io done.length ic, .int .i64 ((st : Int)), .int .i64 ((au : Int)), .string (str m)])[i]? = some u → w9.cell? ⟨w.heap.size, i, none⟩ = some u := fun i u h => hs9.rcell (List.mem_cons_self ..) h
        refine bodyPost_ret (v := .agg ([.int .i64 (3), .slice none 0 0, .slice none 0 0, .string (tr), .slice io done.length ic, .int .i64 ((st : Int)), .int .i64 ((au : Int)), .string (str m)]).toArray) (results_cellA Tryz.results65 _ Tryz.aObj (g := w.heap.size) ([.int .i64 (3), .slice none 0 0, .slice none 0 0, .string (tr), .slice io done.length ic, .int .i64 ((st : Int)), .int .i64 ((au : Int)), .string (str m)]) ?_ rfl hcw) ?_ ⟨_, _, _, by rw [HF.out]; rfl, by rw [HF.out]; exact (hs9.perm (R' := [_, _, _, _]) (List.perm_append_comm (l₁ := [_, _, _]) (l₂ := [_]))).head.addNil _ _ |>.addNil _ _⟩
        · first | (simp; done) | simp [Act.put]
        · first | (simp; done) | simp [Act.put]
      · obtain rfl : sh = true := by rcases hstop with h | h; exact h; exact absurd h hin
        have hlt : i < n := by omega
        clear hin hstop hd
        go_wp2_with (first | ((with_reducible show wpList _ _ _ _ _ _); refine wpl_want rfl ?_) | (go_at_call 81; refine (N3.out _ _ _ (hs14.perm (R' := [_, _, _, _]) (List.perm_append_comm (l₁ := [_, _]) (l₂ := [_, _]))) hv12).mono ?_; rintro e w15 ⟨v15, rfl, hv15, hs15⟩) | (go_at_call 81; refine (N2.out _ _ _ hs11 hv11).mono ?_; rintro e w12 ⟨v12, rfl, hv12, hs12⟩) | (go_at_call 81; refine (N1.out _ _ _ hs HV.out).mono ?_; rintro e w11 ⟨v11, rfl, hv11, hs11⟩) | (go_at_call 83; refine (N4.out _ _ _ hs15 hv15).mono ?_; rintro e w16 ⟨vx, v16, rfl, hx, hv16, hs16⟩) | ((with_reducible show wpList _ _ _ _ _ _); refine wpl_store1 rfl 9 _ _ rfl (hs16.perm (R' := [_, _, _, _]) (List.perm_append_comm (l₁ := [_, _]) (l₂ := [_, _]))) (7) rfl (.string (str m)) rfl rfl (by kernel_rfl) (by simp) rfl ?_; intro w17 hs17) | ((with_reducible show wpList _ _ _ _ _ _); refine wpl_store1 rfl 3 _ _ rfl hs13 (6) rfl (.int .i64 (au : Int)) rfl rfl (by kernel_rfl) (by simp) rfl ?_; intro w14 hs14) | ((with_reducible show wpList _ _ _ _ _ _); refine wpl_store1 rfl 3 _ _ rfl (hs12.perm (R' := [_, _, _, _]) (List.perm_append_comm (l₁ := [_, _]) (l₂ := [_, _]))) (5) rfl (.int .i64 (st : Int)) rfl rfl (by kernel_rfl) (by simp) rfl ?_; intro w13 hs13) | ((with_reducible show wpList _ _ _ _ _ _); refine wpl_b2s rfl 51 9 5 _ rfl Tryz.underlying51 Tryz.underlying5 Tryz.underlying9 (by exact hs16.old hx) ?_) | ((with_reducible show wpList _ _ _ _ _ _); refine wpl_loadA rfl 56 _ rfl Tryz.aObj ((w.heap.size + 1)) (0) rfl ([.int .i64 (3), .slice none 0 0, .slice none 0 0, .string (tr), .slice io done.length ic, .int .i64 ((st : Int)), .int .i64 ((au : Int)), .string (str m)]) rfl (fun i u h => by rw [Nat.zero_add]; exact hs17.rcell (List.mem_cons_self ..) h) ?_) | (((with_reducible show wpList _ _ _ _ _ _); refine wpl_storeA rfl 56 _ _ rfl Tryz.aObj (hs17.perm (List.Perm.swap _ _ _)) (0) rfl ([.int .i64 (3), .slice none 0 0, .slice none 0 0, .string (tr), .slice io done.length ic, .int .i64 ((st : Int)), .int .i64 ((au : Int)), .string (str m)]) rfl (by rfl) (by simp) (by intro u hu; simp at hu; rcases hu with rfl | rfl | rfl | rfl | rfl | rfl | rfl | rfl <;> rfl) ?_; intro w9 hs9)))
        replace hs9 := hs9.cast rfl (show _ = [.int .i64 (3), .slice none 0 0, .slice none 0 0, .string (tr), .slice io done.length ic, .int .i64 ((st : Int)), .int .i64 ((au : Int)), .string (str m)] by simp)
        have hcw : ∀ i u, ([.int .i64 (3), .slice none 0 0, .slice none 0 0, .string (tr), .slice io done.length ic, .int .i64 ((st : Int)), .int .i64 ((au : Int)), .string (str m)])[i]? = some u → w9.cell? ⟨w.heap.size, i, none⟩ = some u := fun i u h => hs9.rcell (List.mem_cons_self ..) h
        refine bodyPost_ret (v := .agg ([.int .i64 (3), .slice none 0 0, .slice none 0 0, .string (tr), .slice io done.length ic, .int .i64 ((st : Int)), .int .i64 ((au : Int)), .string (str m)]).toArray) (results_cellA Tryz.results65 _ Tryz.aObj (g := w.heap.size) ([.int .i64 (3), .slice none 0 0, .slice none 0 0, .string (tr), .slice io done.length ic, .int .i64 ((st : Int)), .int .i64 ((au : Int)), .string (str m)]) ?_ rfl hcw) ?_ ⟨_, _, _, by rw [HF.out]; rfl, by rw [HF.out]; exact (hs9.perm (R' := [_, _, _, _]) (List.perm_append_comm (l₁ := [_, _, _]) (l₂ := [_]))).head.addNil _ _ |>.addNil _ _⟩
        · first | (simp; done) | simp [Act.put]
        · first | (simp; done) | simp [Act.put]
    · obtain rfl : sh = false := by cases sh with
        | false => rfl
        | true => exact absurd (.inl rfl) hstop
      have hlt : i < n := by rcases Nat.lt_or_ge i n with h | h; exact h; exact absurd (.inr (by omega)) hstop
      have l4 := Mx.hs_le (b, false)
      have H4 := Mx.hid (fun wx (v : Value) R (hs : St w wx ((⟨.slice (some ⟨gx, 0, none⟩) 1 1, 129, 2, 1, [v, .bool false]⟩ : Row) :: R) []) (hv : Sl w 1 v b.length (bs b)) => srcHash_go b hs hv)
      generalize hA4 : Mx.hs (b, false) = A4 at *
      obtain ⟨hsh, b4, g4⟩ := A4
      have HS := Mx.hid (rdPars_step (n := n - (i + 1)) hA4)
      simp only [] at *
      have L4 := Mx.hid l4
      have y2 : wr.cell? ⟨w.heap.size + 1, 4, none⟩ = some iv := hs.rcell (j := 4) (List.mem_cons_of_mem _ (List.mem_cons_of_mem _ (List.mem_cons_self ..))) rfl
      have Hd := Mx.hid hd
      clear l4 hstop hA4 HR
      go_wp2_with ((with_reducible show wpList _ _ _ _ _ _); refine wpl_want rfl ?_)
      (refine wp_region_S (6) (fun W' => W'.cell? ⟨w.heap.size + 1, 4, none⟩ = some iv) (by kernel_rfl) ?_ (fun hHeld => ?_); (focus ((try dsimp only); go_keep)))
      (refine wpAnyS_takeL (i := 0) (v := ?_) rfl (by kernel_rfl) (by kernel_rfl) (by kernel_rfl) (by kernel_rfl) (by kernel_rfl) (by kernel_rfl) (fun _ _ _ h => h) (Or.inl ⟨by rfl, ?_⟩) hHeld ?_; rotate_left 1; (focus (intro w' hSw; (try dsimp only at hSw); go_simp; (try with_reducible rfl))); (try simp only [Act.put, List.setIfInBounds_toArray, List.set_cons_zero, List.set_cons_succ]))
      (refine wpAnyS_takeL (i := 1) (v := ?_) rfl (by kernel_rfl) (by kernel_rfl) (by kernel_rfl) (by kernel_rfl) (by kernel_rfl) (by kernel_rfl) (fun _ _ _ h => h) (Or.inl ⟨by rfl, ?_⟩) hHeld ?_; rotate_left 1; (focus (intro w' hSw; (try dsimp only at hSw); go_simp; (try with_reducible rfl))); (try simp only [Act.put, List.setIfInBounds_toArray, List.set_cons_zero, List.set_cons_succ]))
      (refine wpAnyS_takeL (i := 2) (v := ?_) rfl (by kernel_rfl) (by kernel_rfl) (by kernel_rfl) (by kernel_rfl) (by kernel_rfl) (by kernel_rfl) (fun _ _ _ h => h) (Or.inl ⟨by rfl, ?_⟩) hHeld ?_; rotate_left 1; (focus (intro w' hSw; (try dsimp only at hSw); go_simp; (try with_reducible rfl))); (try simp only [Act.put, List.setIfInBounds_toArray, List.set_cons_zero, List.set_cons_succ]))
      (refine wpAnyS_ready (rs := [3]) (by kernel_rfl) (by simp) ?_; refine AllS.consL rfl (fun K hK => ?_) AllS.nil)
      (go_simp; go_at_call 84; refine (H4.out _ _ _ hs.drew HV.out).mono ?_; rintro e w' ⟨v7, rfl, hv7, hs7⟩; go_wp2_with fail)
      (refine hK.out _ _ ?_ (fun hHeld => ?_); (focus ((try dsimp only); exact hs7.rcell (j := 4) (List.mem_cons_of_mem _ (List.mem_cons_of_mem _ (List.mem_cons_self ..))) rfl)); clear hK K; (try simp only [Act.put, List.setIfInBounds_toArray, List.set_cons_zero, List.set_cons_succ]))
      (refine wpAnyS_ready (rs := [4]) (by kernel_rfl) (by simp) ?_; refine AllS.consL rfl (fun K hK => ?_) AllS.nil)
      go_simp
      (refine hK.out _ _ ?_ (fun hHeld => ?_); (focus ((try dsimp only); exact (hs7.alloc _).rcell (j := 4) (List.mem_cons_of_mem _ (List.mem_cons_of_mem _ (List.mem_cons_self ..))) rfl)); clear hK K; (try simp only [Act.put, List.setIfInBounds_toArray, List.set_cons_zero, List.set_cons_succ]))
      (refine wpAnyS_ready (rs := [5]) (by kernel_rfl) (by simp) ?_; refine AllS.consL rfl (fun K hK => ?_) AllS.nil)
      refine step_app rfl _ _ 23 rfl Tryz.elStr (by exact (hs7.alloc _).swap) rfl (by exact Sl.one _ _ _) (by intro u hu; simp at hu; subst hu; rfl) (by omega) ?_
      intro v8 w8 hs8 _
      obtain ⟨vo, vc, rfl, _⟩ := id hs8.sl0
      (refine hK.out _ _ ?_ (fun hHeld => ?_); (focus ((try dsimp only); exact hs8.rcell (j := 4) (List.mem_cons_of_mem _ (List.mem_cons_of_mem _ (List.mem_cons_self ..))) rfl)); clear hK K; (try simp only [Act.put, List.setIfInBounds_toArray, List.set_cons_zero, List.set_cons_succ]))
      (refine wpAnyS_seq (by rfl) (by kernel_rfl) ?_; simp only [List.drop_succ_cons, List.drop_zero])
      go_wp2_with ((with_reducible show wpList _ _ _ _ _ _); refine wpl_store1 rfl 23 _ _ rfl (hs8.perm (perm_or _ _ _ _)) (4) rfl (.slice vo (done.length + 1) vc) rfl rfl (by kernel_rfl) (by simp) rfl ?_; intro w9 hs9)
      case roundEnd => exact ⟨⟨i + 1, done ++ [hsh], b4, g4, v7, _, by go_num, by omega, by have := Hd.out; simp; omega, (by show _ = _; rw [HE.out, show n - i = (n - (i + 1)) + 1 by omega, HS.out]; simp), (by have e3 : b4.length ≤ b.length := L4.out.1; omega), hv7, (hs9.perm (perm_ro _ _ _ _)).swap.cast (by simp) (by simp [ss_app]; rfl) |>.swap⟩, by simp [intOf]; omega⟩
end Go.Proofs.YtloogjdafhjheaaGreat
