/- Walk of (*sha.Hasher).mix. -/
import Derived.Test.YtlfdnlomlbbicaaGreatDoorJ19ShaW
namespace Go.Mx
open Go Go.RowKit
theorem S8.cells (s : S8) : u32s s.lst = [.int .u32 (s.a.toNat : Int), .int .u32 (s.b.toNat : Int), .int .u32 (s.c.toNat : Int), .int .u32 (s.d.toNat : Int), .int .u32 (s.e.toNat : Int), .int .u32 (s.f.toNat : Int), .int .u32 (s.g.toNat : Int), .int .u32 (s.h.toNat : Int)] := rfl
theorem whole {xs cs : List Value} {n : Nat} (h : xs.length = n) : xs.take 0 ++ cs ++ xs.drop (0 + n) = cs := by
  rw [List.take_zero, List.nil_append, List.drop_eq_nil_of_le (by omega), List.append_nil]
theorem rep_len (n : Nat) : (u32s (List.replicate n 0)).length = n := by rw [u32s_len, List.length_replicate]
/-- The first i words are added. -/
def mixL (s t : S8) (i : Nat) : List U32 := (s.add t).lst.take i ++ s.lst.drop i
theorem mixL_0 (s t : S8) : mixL s t 0 = s.lst := rfl
theorem mixL_8 (s t : S8) : mixL s t 8 = (s.add t).lst := rfl
theorem mixL_cell (s t : S8) (z : List Value) {i : Nat} (hi : i < 8) : (u32s (mixL s t i) ++ z)[i]? = some (.int .u32 ((s.lst.getD i 0).toNat : Int)) := by
  have h : i = 0 ∨ i = 1 ∨ i = 2 ∨ i = 3 ∨ i = 4 ∨ i = 5 ∨ i = 6 ∨ i = 7 := by omega
  rcases h with rfl | rfl | rfl | rfl | rfl | rfl | rfl | rfl <;> rfl
theorem mixL_set (s t : S8) (p : Value) (z : List Value) {i : Nat} (hi : i < 8) : (p :: (u32s (mixL s t i) ++ z)).take (1 + i) ++ [Value.int .u32 ((s.lst.getD i 0 + t.lst.getD i 0).toNat : Int)] ++ (p :: (u32s (mixL s t i) ++ z)).drop (1 + i + 1) = p :: (u32s (mixL s t (i + 1)) ++ z) := by
  have h : i = 0 ∨ i = 1 ∨ i = 2 ∨ i = 3 ∨ i = 4 ∨ i = 5 ∨ i = 6 ∨ i = 7 := by omega
  rcases h with rfl | rfl | rfl | rfl | rfl | rfl | rfl | rfl <;> rfl
theorem rnds_succ (ks ws : List U32) (s : S8) (n : Nat) : rnds ks ws s (n + 1) = rnd (rnds ks ws s n) (ks.getD n 0) (ws.getD n 0) := rfl
end Go.Mx
namespace Go.Proofs.YtlfdnlomlbbicaaGreatDoor
open Go.RowKit Go.Mx

/-- The constants' variable: read alone. -/
abbrev cq (gc : Nat) : Rd := ⟨.slice (some ⟨gc, 0, none⟩) 1 1, 75, 1, [.int .u32 1, .int .i32 0, .int .u32 0] ++ u32s I8.lst ++ u32s K64⟩
/-- A hasher's variable. -/
abbrev hrow (g gc : Nat) (s : S8) (vr : Value) (n : Int) : Row := ⟨.slice (some ⟨g, 0, none⟩) 1 1, 121, 11, 1, .pointer (some ⟨gc, 0, none⟩) :: (u32s s.lst ++ [vr, .int .i64 n])⟩
abbrev row64 (g : Nat) (l : List Value) : Row := ⟨.slice (some ⟨g, 0, none⟩) 64 64, 116, 1, 64, l⟩
abbrev row8 (g : Nat) (l : List Value) : Row := ⟨.slice (some ⟨g, 0, none⟩) 8 8, 96, 1, 8, l⟩

theorem cq_cell {w : World} {gc i : Nat} (h : Sl w 75 (.slice (some ⟨gc, 0, none⟩) 1 1) 1 (cq gc).xs) (hi : i < 64) : w.cell? ⟨gc, 11 + i, none⟩ = some (.int .u32 ((K64.getD i 0).toNat : Int)) := by
  obtain ⟨ao, cap, hv, _, _, _, _, hc⟩ := h
  simp only [Value.slice.injEq, true_and] at hv
  obtain ⟨rfl, rfl⟩ := hv
  obtain ⟨a, ha, hcell⟩ := hc (11 + i) (.int .u32 ((K64.getD i 0).toNat : Int)) (by
    rw [List.getElem?_append_right (by simp [u32s_len, S8.lst_len]), show 11 + i - ([Value.int .u32 1, .int .i32 0, .int .u32 0] ++ u32s I8.lst).length = i by simp [u32s_len, S8.lst_len], u32s_get (by simpa [K64] using hi)]
    rw [List.getD_eq_getElem?_getD, List.getElem?_eq_getElem (by simpa [K64] using hi)]
    rfl)
  obtain rfl := Option.some.inj ha
  rw [Addr.add_lit, Nat.zero_add] at hcell
  exact hcell

set_option maxRecDepth 100000 in
set_option maxHeartbeats 4000000 in
theorem mix_any (w0 w : World) (R : List Row) (Q : List Rd) (g gc : Nat) (s : S8) (vr : Value) (n : Int) (vb : Value) (b : List UInt8) (hs : St w0 w (hrow g gc s vr n :: R) Q) (hq : cq gc ∈ Q) (hb : Sl w 1 vb 64 (bs b)) (hbl : b.length = 64) :
    Calls Tryz.prog 60 #[.pointer (some ⟨g, 0, none⟩), vb] w fun e w' => e = .returned (.tuple #[]) ∧ St w0 w' (hrow g gc (comp s b) vr n :: R) Q := by
  have HQ := Mx.hid hq
  have HC : Hid (comp s b = s.add (rnds K64 (sched b 64) s 64)) := Mx.hid rfl
  clear hq
  go_enter Tryz.func60, Tryz.ntmps60
  go_wp2_with fail
  refine (schedule_any vb b w hbl hb).mono ?_
  rintro e w1 ⟨rfl, hk1⟩
  have hs1 := hs.call0 hk1
  have hs2 := hs1.madeAt (u32s (List.replicate 64 0)).toArray 116 1 64 w1.heap.size (by rfl) (by simp [maxLen]) rfl
  have HW1 := Mx.hid (u32s_one (sched b 64))
  have HWL := Mx.hid (show (u32s (sched b 64)).length = 64 by rw [u32s_len, sched_len])
  have hwl := sched_len b 64
  have HLS := Mx.hid hwl
  clear hwl
  generalize sched b 64 = ws at *
  have HZ := Mx.hid (show 0 + 64 ≤ (u32s (List.replicate 64 0)).length by rw [u32s_len, List.length_replicate]; omega)
  have HS2 := Mx.hid hs2
  clear hs hs1 hs2 hb
  have HL8 := Mx.hid (show (u32s s.lst).length = 8 from rfl)
  have H18 := Mx.hid (u32s_one s.lst)
  have HZ8 := Mx.hid (show 0 + 8 ≤ (u32s (List.replicate 8 0)).length by rw [rep_len]; omega)
  go_wp2_with (first | (((with_reducible show wpList _ _ _ _ _ _); refine wpl_storeA rfl 116 _ _ rfl Tryz.a64 HS2.out (0) rfl (u32s ws) rfl HWL.out HZ.out HW1.out ?_; intro w2 hs3); have hs4 := hs3.cast rfl (whole (rep_len 64)); have HC8 := Mx.hid (hs4.rcells (ys := [.pointer (some ⟨gc, 0, none⟩)]) (cs := u32s s.lst) (zs := [vr, .int .i64 n]) (j := 1) (List.mem_cons_of_mem _ (List.mem_cons_self ..)) rfl rfl); have HS5 := Mx.hid (hs4.madeAt (u32s (List.replicate 8 0)).toArray 96 1 8 w2.heap.size (by rfl) (by simp [maxLen]) rfl); clear hs3 hs4) | ((with_reducible show wpList _ _ _ _ _ _); refine wpl_loadA rfl 96 _ rfl Tryz.a8 (g) (1) rfl (u32s s.lst) HL8.out HC8.out ?_) | (((with_reducible show wpList _ _ _ _ _ _); refine wpl_storeA rfl 96 _ _ rfl Tryz.a8 HS5.out (0) rfl (u32s s.lst) rfl HL8.out HZ8.out H18.out ?_; intro w3 hs6); have hs7 := hs6.cast rfl (whole (rep_len 8)); clear hs6))
  go_loopw [21] (fun x wr => ∃ i : Nat, i ≤ 64 ∧ x = .int .i64 i ∧ St w0 wr (row8 w2.heap.size (u32s (rnds K64 ws s i).lst) :: row64 w1.heap.size (u32s ws) :: hrow g gc s vr n :: R) Q) (fun x _ => 64 - (intOf x).toNat)
  case atStart => exact ⟨0, by omega, rfl, hs7⟩
  case round =>
    obtain ⟨i, hi, rfl, hs⟩ := hrel
    clear hs7
    by_cases hlt : i < 64
    · have hii : (i : Int) < 64 := by omega
      have HN := Mx.hid (rnds_succ K64 ws s i)
      generalize rnds K64 ws s i = t at hs HN
      obtain ⟨a, b', c, d, e, f, gg, h⟩ := t
      have c0 : wr.cell? ⟨w2.heap.size, 0, none⟩ = some (.int .u32 (a.toNat : Int)) := hs.rcell (List.mem_cons_self ..) rfl
      have c1 : wr.cell? ⟨w2.heap.size, 1, none⟩ = some (.int .u32 (b'.toNat : Int)) := hs.rcell (List.mem_cons_self ..) rfl
      have c2 : wr.cell? ⟨w2.heap.size, 2, none⟩ = some (.int .u32 (c.toNat : Int)) := hs.rcell (List.mem_cons_self ..) rfl
      have c3 : wr.cell? ⟨w2.heap.size, 3, none⟩ = some (.int .u32 (d.toNat : Int)) := hs.rcell (List.mem_cons_self ..) rfl
      have c4 : wr.cell? ⟨w2.heap.size, 4, none⟩ = some (.int .u32 (e.toNat : Int)) := hs.rcell (List.mem_cons_self ..) rfl
      have c5 : wr.cell? ⟨w2.heap.size, 5, none⟩ = some (.int .u32 (f.toNat : Int)) := hs.rcell (List.mem_cons_self ..) rfl
      have c6 : wr.cell? ⟨w2.heap.size, 6, none⟩ = some (.int .u32 (gg.toNat : Int)) := hs.rcell (List.mem_cons_self ..) rfl
      have c7 : wr.cell? ⟨w2.heap.size, 7, none⟩ = some (.int .u32 (h.toNat : Int)) := hs.rcell (List.mem_cons_self ..) rfl
      have cw : wr.cell? ⟨w1.heap.size, i, none⟩ = some (.int .u32 ((ws.getD i 0).toNat : Int)) := by
        refine hs.rcell (List.mem_cons_of_mem _ (List.mem_cons_self ..)) ?_
        rw [u32s_get (by rw [HLS.out]; exact hlt)]
        simp [HLS.out, hlt]
      have ck := cq_cell (hs.rd (cq gc) HQ.out) hlt
      have cp : wr.cell? ⟨g, 0, none⟩ = some (.pointer (some ⟨gc, 0, none⟩)) := hs.rcell (List.mem_cons_of_mem _ (List.mem_cons_of_mem _ (List.mem_cons_self ..))) rfl
      generalize K64.getD i 0 = kk at *
      generalize ws.getD i 0 = ww at *
      go_wp2_with fail
      go_quiet (fail)
      replace hs := hs.drewN nq
      replace c0 : (wr.drewN nq).cell? ⟨w2.heap.size, 0, none⟩ = _ := c0
      replace c1 : (wr.drewN nq).cell? ⟨w2.heap.size, 1, none⟩ = _ := c1
      replace c2 : (wr.drewN nq).cell? ⟨w2.heap.size, 2, none⟩ = _ := c2
      replace c3 : (wr.drewN nq).cell? ⟨w2.heap.size, 3, none⟩ = _ := c3
      replace c4 : (wr.drewN nq).cell? ⟨w2.heap.size, 4, none⟩ = _ := c4
      replace c5 : (wr.drewN nq).cell? ⟨w2.heap.size, 5, none⟩ = _ := c5
      replace c6 : (wr.drewN nq).cell? ⟨w2.heap.size, 6, none⟩ = _ := c6
      replace c7 : (wr.drewN nq).cell? ⟨w2.heap.size, 7, none⟩ = _ := c7
      replace cw : (wr.drewN nq).cell? ⟨w1.heap.size, i, none⟩ = _ := cw
      replace ck : (wr.drewN nq).cell? ⟨gc, 11 + i, none⟩ = _ := ck
      replace cp : (wr.drewN nq).cell? ⟨g, 0, none⟩ = _ := cp
      generalize wr.drewN nq = wd at *
      have hX := w_sg1 e
      generalize hxx : sg1 e = x at hX
      have HXX := Mx.hid hxx
      clear hxx
      go_wp2_with fail
      refine (rotl6_any e _).mono ?_
      rintro e' w' ⟨rfl, rfl⟩
      go_wp2_with fail
      refine (rotl11_any e _).mono ?_
      rintro e' w' ⟨rfl, rfl⟩
      go_wp2_with fail
      refine (rotl25_any e _).mono ?_
      rintro e' w' ⟨rfl, rfl⟩
      go_wp2_with fail
      go_quiet (fail)
      rw [w_tm1]
      replace hs := hs.drewN nq
      replace c0 : (wd.drewN nq).cell? ⟨w2.heap.size, 0, none⟩ = _ := c0
      replace c1 : (wd.drewN nq).cell? ⟨w2.heap.size, 1, none⟩ = _ := c1
      replace c2 : (wd.drewN nq).cell? ⟨w2.heap.size, 2, none⟩ = _ := c2
      replace c3 : (wd.drewN nq).cell? ⟨w2.heap.size, 3, none⟩ = _ := c3
      replace c4 : (wd.drewN nq).cell? ⟨w2.heap.size, 4, none⟩ = _ := c4
      replace c5 : (wd.drewN nq).cell? ⟨w2.heap.size, 5, none⟩ = _ := c5
      replace c6 : (wd.drewN nq).cell? ⟨w2.heap.size, 6, none⟩ = _ := c6
      clear c7 cw ck cp hX
      generalize wd.drewN nq = we at *
      have HT : Hid (((((h + x) + chf e f gg) + kk) + ww) = tm1 ⟨a, b', c, d, e, f, gg, h⟩ kk ww) := Mx.hid (by rw [← HXX.out]; rfl)
      generalize ((((h + x) + chf e f gg) + kk) + ww) = T at HT ⊢
      have hY := w_sg0 a
      generalize hyy : sg0 a = y at hY
      have HYY := Mx.hid hyy
      have hM := w_maj y a b' c
      generalize huu : y + majf a b' c = u at hM
      have hP := w_add T u
      generalize hpp : T + u = p at hP
      have hD := w_add d T
      generalize hqq : d + T = q at hD
      have HNEW : Hid (rnd ⟨a, b', c, d, e, f, gg, h⟩ kk ww = ⟨p, a, b', c, q, e, f, gg⟩) := Mx.hid (by
        unfold rnd
        rw [← HT.out, hyy, ← hpp, ← huu, ← hqq, BitVec.add_assoc])
      clear hyy huu hpp hqq
      go_wp2_with fail
      refine (rotl2_any a _).mono ?_
      rintro e' w' ⟨rfl, rfl⟩
      go_wp2_with fail
      refine (rotl13_any a _).mono ?_
      rintro e' w' ⟨rfl, rfl⟩
      go_wp2_with fail
      refine (rotl22_any a _).mono ?_
      rintro e' w' ⟨rfl, rfl⟩
      go_wp2_with (((with_reducible show wpList _ _ _ _ _ _); refine wpl_storeA rfl 96 _ _ rfl Tryz.a8 hs (0) rfl (u32s (S8.lst ⟨p, a, b', c, q, e, f, gg⟩)) rfl (by rfl) (by simp [u32s, S8.lst]) (u32s_one _) ?_; intro w5 hs5))
      go_roundw
      case rel => exact ⟨i + 1, by omega, by go_num, by rw [HN.out, HNEW.out]; exact hs5.cast rfl (whole rfl)⟩
      case measure => simp [intOf]; omega
    · obtain rfl : i = 64 := by omega
      generalize rnds K64 ws s 64 = t at *
      have HLt := Mx.hid (show (u32s t.lst).length = 8 from rfl)
      have HCt := Mx.hid (hs.rcells (ys := []) (cs := u32s t.lst) (zs := []) (j := 0) (List.mem_cons_self ..) (by simp) rfl)
      have hix : ∀ i : Nat, i < 8 → ∀ w', (Instr.index 96 (.agg (u32s t.lst).toArray) (.int .i64 (i : Int))).run Tryz.prog w' = .ok (.int .u32 ((t.lst.getD i 0).toNat : Int)) w' := fun i hi w' => by
        have h : i = 0 ∨ i = 1 ∨ i = 2 ∨ i = 3 ∨ i = 4 ∨ i = 5 ∨ i = 6 ∨ i = 7 := by omega
        rcases h with rfl | rfl | rfl | rfl | rfl | rfl | rfl | rfl <;> (show Sem.run _ _ _ = _; kernel_rfl)
      have HIX := Mx.hid hix
      clear hix
      have hs8 : St w0 wr (hrow g gc s vr n :: R) Q := hs.tail.tail
      go_wp2_with ((with_reducible show wpList _ _ _ _ _ _); refine wpl_loadA rfl 96 _ rfl Tryz.a8 (w2.heap.size) (0) rfl (u32s t.lst) HLt.out HCt.out ?_)
      clear hs
      have HF : Hid (comp s b = s.add t) := HC
      go_loopw [112] (fun x wr => ∃ i : Nat, i ≤ 8 ∧ x = .int .i64 i ∧ St w0 wr (⟨.slice (some ⟨g, 0, none⟩) 1 1, 121, 11, 1, .pointer (some ⟨gc, 0, none⟩) :: (u32s (mixL s t i) ++ [vr, .int .i64 n])⟩ :: R) Q) (fun x _ => 8 - (intOf x).toNat)
      case atStart => exact ⟨0, by omega, rfl, hs8⟩
      case round =>
        clear hs8
        obtain ⟨i, hi, rfl, hs⟩ := hrel
        by_cases hlt : i < 8
        · have hii : (i : Int) < 8 := by omega
          have hx := HIX.out i hlt
          have hcs : wr.cell? ⟨g, 1 + i, none⟩ = some (.int .u32 ((s.lst.getD i 0).toNat : Int)) := hs.rcell (List.mem_cons_self ..) (by rw [Nat.add_comm, List.getElem?_cons_succ]; exact mixL_cell s t _ hlt)
          have HSET := Mx.hid (mixL_set s t (.pointer (some ⟨gc, 0, none⟩)) [vr, .int .i64 n] hlt)
          have hA := w_addW (s.lst.getD i 0) (t.lst.getD i 0)
          generalize s.lst.getD i 0 = x at *
          generalize t.lst.getD i 0 = y at *
          generalize x + y = z at *
          go_wp2_with fail
          go_still_tail 11, (by kernel_rfl)
          clear hcs hx hA
          change wpList _ _ _ _ _ wr.drew
          have hsd := hs.drew
          generalize wr.drew = wd at hsd ⊢
          go_wp2_with ((with_reducible show wpList _ _ _ _ _ _); refine wpl_store1 rfl 92 _ _ rfl hsd (1 + i) rfl (.int .u32 (z.toNat : Int)) rfl rfl (by kernel_rfl) (by simp [u32s_len, mixL, S8.lst_len]; omega) rfl ?_; intro w5 hs5)
          go_roundw
          case rel => exact ⟨i + 1, by omega, by go_num, by rw [← HSET.out]; exact hs5⟩
          case measure => simp [intOf]; omega
        · obtain rfl : i = 8 := by omega
          go_wp2_with fail
          go_end0
          refine ⟨rfl, ?_⟩
          rw [HF.out]
          exact hs
end Go.Proofs.YtlfdnlomlbbicaaGreatDoor
