/- Walk of sha.schedule. -/
import Derived.Test.YtlfdnlomlbbicaaDoorJ15ShaW
import Derived.Test.YtlfdnlomlbbicaaDoorJ4LibA
namespace Go.Proofs.YtlfdnlomlbbicaaDoor
open Go.RowKit Go.Mx

theorem Tryd.a64 : Ag Tryd.prog 83 64 := ⟨⟨_, Tryd.underlying83, rfl⟩, by kernel_rfl⟩
theorem Tryd.a8 : Ag Tryd.prog 82 8 := ⟨⟨_, Tryd.underlying82, rfl⟩, by kernel_rfl⟩
theorem u32s_one (l : List U32) : ∀ u ∈ u32s l, u.oneCell' = true := by
  intro u hu
  obtain ⟨_, _, rfl⟩ := List.mem_map.1 hu
  rfl
/-- A word laid behind the first i. -/
theorem lay_word {l : List U32} {i n : Nat} (hl : l.length = i) (hi : i < n) (x : U32) :
    (u32s (l ++ List.replicate (n - i) 0)).take i ++ [Value.int .u32 (x.toNat : Int)] ++ (u32s (l ++ List.replicate (n - i) 0)).drop (i + 1) = u32s ((l ++ [x]) ++ List.replicate (n - (i + 1)) 0) := by
  subst hl
  obtain ⟨m, hm⟩ : ∃ m, n - l.length = m + 1 := ⟨n - l.length - 1, by omega⟩
  rw [hm, show n - (l.length + 1) = m by omega, u32s_app, u32s_app, List.take_append_of_le_length (by rw [u32s_len]; omega), List.take_of_length_le (by rw [u32s_len]; omega),
    List.drop_append, u32s_len, List.drop_eq_nil_of_le (by rw [u32s_len]; omega), List.replicate_succ, show l.length + 1 - l.length = 1 by omega]
  simp [u32s]

theorem word_cells {b : List UInt8} (hb : b.length = 64) {l : List U32} {i j : Nat} (hi : i < 16) (hj : j = 4 * i) {w : World} {p : Prop} {blk off : Nat} (HC : ∀ k (hk : k < b.length), p ∧ w.cell? ⟨blk, off + k, none⟩ = some (.int .u8 (b[k].toNat : Int))) :
    p ∧ ∃ x0 x1 x2 x3 : U32, w.cell? ⟨blk, off + j, none⟩ = some (.int .u8 (x0.toNat : Int)) ∧ w.cell? ⟨blk, off + (j + 1), none⟩ = some (.int .u8 (x1.toNat : Int)) ∧ w.cell? ⟨blk, off + (j + 2), none⟩ = some (.int .u8 (x2.toNat : Int)) ∧ w.cell? ⟨blk, off + (j + 3), none⟩ = some (.int .u8 (x3.toNat : Int)) ∧
      nextW b l i = (((x0 <<< 24) ||| (x1 <<< 16)) ||| (x2 <<< 8)) ||| x3 := by
  have h0 : j < b.length := by omega
  have h1 : j + 1 < b.length := by omega
  have h2 : j + 2 < b.length := by omega
  have h3 : j + 3 < b.length := by omega
  refine ⟨(HC j h0).1, by32 b[j], by32 b[j + 1], by32 b[j + 2], by32 b[j + 3], ?_, ?_, ?_, ?_, ?_⟩
  · rw [(HC j h0).2, w_byte]
  · rw [(HC _ h1).2, w_byte]
  · rw [(HC _ h2).2, w_byte]
  · rw [(HC _ h3).2, w_byte]
  · unfold nextW word
    rw [if_pos hi, ← hj]
    simp [h0, h1, h2, h3]

set_option maxRecDepth 100000 in
set_option maxHeartbeats 4000000 in
theorem schedule_any (v : Value) (b : List UInt8) (w : World) (hb : b.length = 64) (hv : Sl w 1 v 64 (bs b)) :
    Calls Tryd.prog 58 #[v] w fun e w' => e = .returned (.agg (u32s (sched b 64)).toArray) ∧ St w w' [] [] := by
  rw [show (64 : Nat) = b.length from hb.symm] at hv
  obtain ⟨ao, cap, blk, off, rfl, h1, h2, _, hc⟩ := hv.byt
  rw [hb] at h1
  have HC := Mx.hid hc
  have HB := Mx.hid hb
  clear hc hv hb
  have q0 := (St.refl w).madeAt (u32s (List.replicate 64 0)).toArray 83 1 64 w.heap.size (by rfl) (by simp [maxLen]) rfl
  have q1 := q0.madeAt (u32s (List.replicate 64 0)).toArray 83 1 64 (w.heap.size + 1) (by rfl) (by simp [maxLen]) (heap_size_alloc _ _).symm
  have HQ := Mx.hid q1
  clear q0 q1
  go_enter Tryd.func58, Tryd.ntmps58
  rw [HB.out]
  go_wp2_with fail
  go_loopw [9] (fun x wr => ∃ i : Nat, i ≤ 64 ∧ x = .int .i64 i ∧ St w wr [⟨.slice (some ⟨w.heap.size + 1, 0, none⟩) 64 64, 83, 1, 64, u32s (sched b i ++ List.replicate (64 - i) 0)⟩, ⟨.slice (some ⟨w.heap.size, 0, none⟩) 64 64, 83, 1, 64, u32s (List.replicate 64 0)⟩] []) (fun x _ => 64 - (intOf x).toNat)
  case atStart => exact ⟨0, by omega, rfl, HQ.out⟩
  case round =>
    obtain ⟨i, hi, rfl, hs⟩ := hrel
    have Hlen := Mx.hid (sched_len b i)
    by_cases hlt : i < 64
    · have hii : (i : Int) < 64 := by omega
      by_cases h16 : i < 16
      · obtain ⟨j, hj⟩ : ∃ j, j = 4 * i := ⟨_, rfl⟩
        have e4 : 4 * (i : Int) = (j : Int) := by omega
        have hj4 : j + 4 ≤ 64 := by omega
        have g1 : (i : Int) < 16 := by omega
        obtain ⟨rfl, x0, x1, x2, x3, c0, c1, c2, c3, hN⟩ := word_cells HB.out (l := sched b i) h16 hj HC.out
        replace c0 := hs.keep c0
        replace c1 := hs.keep c1
        replace c2 := hs.keep c2
        replace c3 := hs.keep c3
        have HN := Mx.hid hN
        clear hN
        have m0 : IntKind.i64.wrap (j : Int) = (j : Int) := IntWalk.i64_in _ (by omega)
        have m1 : IntKind.i64.wrap ((j : Int) + 1) = (j : Int) + 1 := IntWalk.i64_in _ (by omega)
        have m2 : IntKind.i64.wrap ((j : Int) + 2) = (j : Int) + 2 := IntWalk.i64_in _ (by omega)
        have m3 : IntKind.i64.wrap ((j : Int) + 3) = (j : Int) + 3 := IntWalk.i64_in _ (by omega)
        have t1 : ((j : Int) + 1).toNat = j + 1 := by omega
        have t2 : ((j : Int) + 2).toNat = j + 2 := by omega
        have t3 : ((j : Int) + 3).toNat = j + 3 := by omega
        have n1 : (0 : Int) ≤ (j : Int) + 1 := by omega
        have n2 : (0 : Int) ≤ (j : Int) + 2 := by omega
        have n3 : (0 : Int) ≤ (j : Int) + 3 := by omega
        have k0 : (j : Int) < 64 := by omega
        have k1 : (j : Int) + 1 < 64 := by omega
        have k2 : (j : Int) + 2 < 64 := by omega
        have k3 : (j : Int) + 3 < 64 := by omega
        have HL := Mx.hid (lay_word Hlen.out hlt (nextW b (sched b i) i))
        clear hj
        go_wp2_with fail
        go_still_tail 35, (by kernel_rfl)
        clear c0 c1 c2 c3 e4 m0 m1 m2 m3 t1 t2 t3 n1 n2 n3 k0 k1 k2 k3
        change wpList _ _ _ _ _ wr.drew
        have hsd := hs.drew
        generalize wr.drew = wd at hsd ⊢
        rw [w_word x0 x1 x2 x3, ← HN.out]
        generalize hnw : nextW b (sched b i) i = nw at *
        have HNW := Mx.hid hnw
        clear hnw
        go_wp2_with ((with_reducible show wpList _ _ _ _ _ _); refine wpl_store1 rfl 73 _ _ rfl hsd (i) rfl (.int .u32 (nw.toNat : Int)) rfl rfl (by kernel_rfl) (by rw [u32s_len, List.length_append, Hlen.out, List.length_replicate]; omega) rfl ?_; intro w2 hs2)
        go_roundw
        case rel => exact ⟨i + 1, by omega, by go_num, by rw [sched, HNW.out, ← HL.out]; exact hs2⟩
        case measure => simp [intOf]; omega
      · have g1 : ¬ ((i : Int) < 16) := by omega
        have hcell : ∀ k, k < i → wr.cell? ⟨w.heap.size + 1, k, none⟩ = some (.int .u32 (((sched b i).getD k 0).toNat : Int)) := fun k hk => by
          refine hs.rcell (List.mem_cons_self ..) ?_
          rw [u32s_get (by rw [List.length_append, Hlen.out]; omega), List.getElem_append_left (by rw [Hlen.out]; omega)]
          simp [Hlen.out, hk]
        have c15 := hcell (i - 15) (by omega)
        have c2 := hcell (i - 2) (by omega)
        have c16 := hcell (i - 16) (by omega)
        have c7 := hcell (i - 7) (by omega)
        have hN : nextW b (sched b i) i = ((((sched b i).getD (i - 16) 0 + sig0 ((sched b i).getD (i - 15) 0)) + (sched b i).getD (i - 7) 0) + sig1 ((sched b i).getD (i - 2) 0)) := by
          unfold nextW; rw [if_neg h16]
        generalize (sched b i).getD (i - 15) 0 = y15 at *
        generalize (sched b i).getD (i - 2) 0 = y2 at *
        generalize (sched b i).getD (i - 16) 0 = y16 at *
        generalize (sched b i).getD (i - 7) 0 = y7 at *
        have HN := Mx.hid hN
        have HL := Mx.hid (lay_word Hlen.out hlt (nextW b (sched b i) i))
        clear hN hcell
        have m15 : IntKind.i64.wrap ((i : Int) - 15) = (i : Int) - 15 := IntWalk.i64_in _ (by omega)
        have m2 : IntKind.i64.wrap ((i : Int) - 2) = (i : Int) - 2 := IntWalk.i64_in _ (by omega)
        have t15 : ((i : Int) - 15).toNat = i - 15 := by omega
        have t2 : ((i : Int) - 2).toNat = i - 2 := by omega
        have n15 : (0 : Int) ≤ (i : Int) - 15 := by omega
        have n2 : (0 : Int) ≤ (i : Int) - 2 := by omega
        have k15 : (i : Int) - 15 < 64 := by omega
        have k2 : (i : Int) - 2 < 64 := by omega
        have C16 := Mx.hid c16
        have C7 := Mx.hid c7
        clear c16 c7
        go_wp2_with fail
        go_quiet (fail)
        have hsd := hs.drewN nq
        have c16 : (wr.drewN nq).cell? ⟨w.heap.size + 1, i - 16, none⟩ = _ := C16.out
        have c7 : (wr.drewN nq).cell? ⟨w.heap.size + 1, i - 7, none⟩ = _ := C7.out
        clear c15 c2 m15 m2 t15 t2 n15 n2 k15 k2 C16 C7
        generalize wr.drewN nq = wd at hsd c16 c7 ⊢
        have C16 := Mx.hid c16
        have C7 := Mx.hid c7
        clear c16 c7
        have hS0 := w_sig0 y15
        have hS1 := w_sig1 y2
        generalize sig0 y15 = s0 at *
        generalize sig1 y2 = s1 at *
        go_wp2_with fail
        refine (rotl7_any y15 _).mono ?_
        rintro e w' ⟨rfl, rfl⟩
        go_wp2_with fail
        refine (rotl18_any y15 _).mono ?_
        rintro e w' ⟨rfl, rfl⟩
        go_wp2_with fail
        refine (rotl17_any y2 _).mono ?_
        rintro e w' ⟨rfl, rfl⟩
        go_wp2_with fail
        refine (rotl19_any y2 _).mono ?_
        rintro e w' ⟨rfl, rfl⟩
        go_wp2_with fail
        clear hS0 hS1
        have c16 := C16.out
        have c7 := C7.out
        have m16 : IntKind.i64.wrap ((i : Int) - 16) = (i : Int) - 16 := IntWalk.i64_in _ (by omega)
        have m7 : IntKind.i64.wrap ((i : Int) - 7) = (i : Int) - 7 := IntWalk.i64_in _ (by omega)
        have t16 : ((i : Int) - 16).toNat = i - 16 := by omega
        have t7 : ((i : Int) - 7).toNat = i - 7 := by omega
        have n16 : (0 : Int) ≤ (i : Int) - 16 := by omega
        have n7 : (0 : Int) ≤ (i : Int) - 7 := by omega
        have k16 : (i : Int) - 16 < 64 := by omega
        have k7 : (i : Int) - 7 < 64 := by omega
        have o7 : (7 : Int) ≤ (i : Int) := by omega
        go_still_tail 15, (by kernel_rfl)
        clear c16 c7 m16 m7 t16 t7 n16 n7 k16 k7 o7
        change wpList _ _ _ _ _ wd.drew
        have hse := hsd.drew
        generalize wd.drew = we at hse ⊢
        rw [w_addW, w_addW, w_addW, ← HN.out]
        generalize hnw : nextW b (sched b i) i = nw at *
        have HNW := Mx.hid hnw
        clear hnw
        go_wp2_with ((with_reducible show wpList _ _ _ _ _ _); refine wpl_store1 rfl 73 _ _ rfl hse (i) rfl (.int .u32 (nw.toNat : Int)) rfl rfl (by kernel_rfl) (by rw [u32s_len, List.length_append, Hlen.out, List.length_replicate]; omega) rfl ?_; intro w2 hs2)
        go_roundw
        case rel => exact ⟨i + 1, by omega, by go_num, by rw [sched, HNW.out, ← HL.out]; exact hs2⟩
        case measure => simp [intOf]; omega
    · obtain rfl : i = 64 := by omega
      have hL := Hlen.out
      have hsw := hs.swap
      rw [Nat.sub_self, List.replicate_zero, List.append_nil] at hs
      rw [Nat.sub_self, List.replicate_zero, List.append_nil] at hsw
      have HL := Mx.hid (show (u32s (sched b 64)).length = 64 by rw [u32s_len]; exact hL)
      clear hL
      have hW1 := u32s_one (sched b 64)
      generalize hWW : u32s (sched b 64) = W at *
      have HWW := Mx.hid hWW
      clear hWW
      have HCW := Mx.hid (show ∀ i u, W[i]? = some u → wr.cell? ⟨w.heap.size + 1, 0 + i, none⟩ = some u from fun i u h => by rw [Nat.zero_add]; exact hs.rcell (List.mem_cons_self ..) h)
      have HW1 := Mx.hid hW1
      have HQ2 := Mx.hid hsw
      have HZ := Mx.hid (show 0 + 64 ≤ (u32s (List.replicate 64 0)).length by rw [u32s_len, List.length_replicate]; omega)
      clear hs hsw hW1 HC HQ
      go_wp2_with (first | ((with_reducible show wpList _ _ _ _ _ _); refine wpl_loadA rfl 83 _ rfl Tryd.a64 (w.heap.size + 1) (0) rfl (W) HL.out HCW.out ?_) | ((with_reducible show wpList _ _ _ _ _ _); refine wpl_storeA rfl 83 _ _ rfl Tryd.a64 HQ2.out (0) rfl (W) rfl HL.out HZ.out HW1.out ?_; intro w2 hs2))
      have hT : List.take 0 (u32s (List.replicate 64 0)) ++ W ++ List.drop (0 + 64) (u32s (List.replicate 64 0)) = W := by
        rw [List.take_zero, List.nil_append, List.drop_eq_nil_of_le (by rw [u32s_len, List.length_replicate]; omega), List.append_nil]
      rw [hT] at hs2
      have hcw : ∀ i u, W[i]? = some u → w2.cell? ⟨w.heap.size, i, none⟩ = some u := fun i u h => hs2.rcell (List.mem_cons_self ..) h
      refine bodyPost_ret (v := .agg W.toArray) (results_cellA Tryd.results58 _ Tryd.a64 (g := w.heap.size) W ?_ HL.out hcw) ?_ ⟨by rw [HWW.out], hs2.bare⟩
      · simp [Act.put]
      · simp [Act.put]
end Go.Proofs.YtlfdnlomlbbicaaDoor
