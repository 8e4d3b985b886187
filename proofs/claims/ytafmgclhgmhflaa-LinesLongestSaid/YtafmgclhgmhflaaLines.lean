/- Walks of package lines: the table of lengths. -/
import Derived.Test.YtafmgclhgmhflaaBase
import Derived.Test.YtafmgclhgmhflaaLcs
import Derived.IntWalk
namespace Go.Proofs.Ytafmgclhgmhflaa
open Go.RowKit Go.Mx

theorem Try.elPair : El Try.prog 26 31 2 16 := El.mk' Try.underlying26 (z := .agg #[.int .i64 0, .int .i64 0]) (by kernel_rfl) rfl (by omega)
theorem Try.elIs : El Try.prog 49 23 1 24 := El.mk' Try.underlying49 (z := .slice none 0 0) (by kernel_rfl) rfl (by omega)

set_option maxRecDepth 100000 in
set_option maxHeartbeats 2000000 in
theorem lengths_any (va vb : Value) (a b : List ByteArray) (w : World) (ha : Sl w 1 va a.length (ss a)) (hb : Sl w 1 vb b.length (ss b)) (la : a.length ≤ 200) (lb : b.length ≤ 200) :
    Calls Try.prog 24 #[va, vb] w fun e w' => ∃ v, e = .returned v ∧ St w w' [] [] ∧ Tab w' v a b := by
  obtain ⟨ao, cap, blk, off, rfl, h1, h2, _, hc⟩ := ha.txt
  obtain ⟨ao', cap', blk', off', rfl, h1', h2', _, hc'⟩ := hb.txt
  clear ha hb
  have HA := Mx.hid hc
  have HB := Mx.hid hc'
  clear hc hc'
  obtain ⟨C1, hC1, hm1⟩ := run_make_rep (P := Try.prog) (t := 49) (e := 23) (z := .slice none 0 0) (bytes := 24) Try.underlying49 (by kernel_rfl) rfl (by omega) (a.length + 1) (by omega)
  obtain ⟨C2, hC2, hm2⟩ := run_make_rep (P := Try.prog) (t := 23) (e := 3) (z := .int .i64 0) (bytes := 8) Try.underlying23 (by kernel_rfl) rfl (by omega) (b.length + 1) (by omega)
  replace hm1 := hm1 ((a.length : Int) + 1) (by omega)
  replace hm2 := hm2 ((b.length : Int) + 1) (by omega)
  have HC1 := Mx.hid hC1
  have HC2 := Mx.hid hC2
  clear hC1 hC2
  go_enter Try.func24, Try.ntmps24
  go_wp2_with fail
  have hs0 := (St.refl w).madeAt C1 23 1 (a.length + 1) w.heap.size (by have := congrArg List.length HC1.out; simpa using this) (by unfold maxLen; omega) rfl
  generalize w.heap.size = g0 at *
  go_loopw [6, 15] (fun _ y wr => ∃ (k : Nat) (vs : List Value) (rows : List Row), k ≤ a.length + 1 ∧ y = .int .i64 k ∧ vs.length = a.length + 1 ∧ rows.length = k ∧
      Hid (RowsAt vs rows 3 (b.length + 1) 0 k fun _ r => r = List.replicate (b.length + 1) (.int .i64 0)) ∧ St w wr (⟨slv g0 (a.length + 1), 23, 1, a.length + 1, vs⟩ :: rows) []) (fun _ y _ => a.length + 1 - (intOf y).toNat)
  case atStart => exact ⟨0, _, [], by omega, rfl, by rw [HC1.out]; simp, rfl, fun k _ h => by omega, hs0⟩
  case round =>
    obtain ⟨k, vs, rows, hk, rfl, hvs, hrl, Hr, hs⟩ := hrel
    have Hvs := Mx.hid hvs
    have Hrl := Mx.hid hrl
    clear hvs hrl hs0
    by_cases hlt : k < a.length + 1
    · have hkk : (k : Int) < ((a.length + 1 : Nat) : Int) := by omega
      have hkk' : (k : Int) < (a.length : Int) + 1 := by omega
      have hsz2 : C2.size = (b.length + 1) * 1 := by have := congrArg List.length HC2.out; simpa using this
      have hsn := (hs.madeAt C2 3 1 (b.length + 1) wr.heap.size hsz2 (by unfold maxLen; omega) rfl).swap
      go_wp2_with ((with_reducible show wpList _ _ _ _ _ _); refine wpl_store1 rfl 23 _ _ rfl hsn (k) rfl _ rfl rfl (by kernel_rfl) (by rw [Hvs.out]; exact hlt) rfl ?_; intro w2 hs2)
      go_roundw
      case rel =>
        refine ⟨k + 1, _, _, by omega, by go_num, ?_, ?_, ?_, hs2.swap.perm (perm_last _ _ _)⟩
        · have := Hvs.out; rw [put_eq (by omega), List.length_set]; exact this
        · have := Hrl.out; simp [this]
        · rw [put_eq (by rw [Hvs.out]; exact hlt)]
          exact Hr.out.push Hrl.out (by rw [Hvs.out]; exact hlt) (by rw [HC2.out]; simp) HC2.out
      case measure => simp [intOf]; omega
    · obtain rfl : k = a.length + 1 := by omega
      have hkk : ¬ ((a.length : Int) + 1 < (a.length : Int) + 1) := by omega
      clear hlt hm1 hm2
      go_wp2_with fail
      have Hr0 : Hid (RowsAt vs rows 3 (b.length + 1) 0 (a.length + 1) fun k r => ((a.length : Int) - 1 < (k : Int) → ∀ j, j ≤ b.length → r[j]? = some (.int .i64 (lt2 a b k j : Int))) ∧ r[b.length]? = some (.int .i64 0)) := by
        intro k h1 h2
        obtain ⟨g, r, q1, q2, q3, q4⟩ := Hr.out k h1 h2
        refine ⟨g, r, q1, q2, q3, fun hk j hj => ?_, by rw [q4, List.getElem?_replicate, if_pos (by omega)]⟩
        subst q4
        rw [lt2_end (by omega), List.getElem?_replicate, if_pos (by omega)]; rfl
      go_loopw [7, 8] (fun y _ wr => ∃ (z : Int) (rows : List Row), y = .int .i64 z ∧ -1 ≤ z ∧ z < (a.length : Int) ∧ Hid (rows.length = a.length + 1) ∧
        Hid (RowsAt vs rows 3 (b.length + 1) 0 (a.length + 1) fun k r => (z < (k : Int) → ∀ j, j ≤ b.length → r[j]? = some (.int .i64 (lt2 a b k j : Int))) ∧ r[b.length]? = some (.int .i64 0)) ∧
        St w wr (⟨slv g0 (a.length + 1), 23, 1, a.length + 1, vs⟩ :: rows) []) (fun y _ _ => (intOf y + 1).toNat)
      case atStart => exact ⟨_, rows, rfl, by omega, by omega, Hrl, Hr0, hs⟩
      case round =>
        clear hs Hr Hr0 Hrl rows
        obtain ⟨z, rows, rfl, hz1, hz2, Hrl, Hr, hs⟩ := hrel
        by_cases hz : 0 ≤ z
        · obtain ⟨i, rfl⟩ := Int.eq_ofNat_of_zero_le hz
          have hi : i < a.length := by omega
          obtain ⟨g, r, q1, q2, q3, q4, q5⟩ := Hr.out i (by omega) (by omega)
          obtain ⟨g', r', p1, p2, p3, p4, p5⟩ := Hr.out (i + 1) (by omega) (by omega)
          have p4 := p4 (by omega)
          rw [Nat.sub_zero] at q2 p2
          have hrl := Hrl.out
          have e1 : rows[i]'(by omega) = ⟨slv g (b.length + 1), 3, 1, b.length + 1, r⟩ := by rw [List.getElem?_eq_getElem (by omega)] at q2; exact Option.some.inj q2
          have hm : (⟨slv g' (b.length + 1), 3, 1, b.length + 1, r'⟩ : Row) ∈ rows.eraseIdx i := by
            have := mem_erase_ne (l := rows) (i := i) (k := i + 1) (by omega) (by omega)
            rw [List.getElem?_eq_getElem (by omega)] at p2
            rw [Option.some.inj p2] at this; exact this
          have hsi := hs.perm (R' := ⟨slv g (b.length + 1), 3, 1, b.length + 1, r⟩ :: ⟨slv g0 (a.length + 1), 23, 1, a.length + 1, vs⟩ :: rows.eraseIdx i) (by
            have := perm_pick rows i (by omega)
            rw [e1] at this
            exact (this.cons _).trans (List.Perm.swap _ _ _))
          have Q1 := Mx.hid q1
          have P1 := Mx.hid p1
          have P4 := Mx.hid p4
          have HM := Mx.hid hm
          have R0 : Hid (∀ x : Nat, (b.length : Int) - 1 < (x : Int) → x ≤ b.length → r[x]? = some (.int .i64 (lt2 a b i x : Int))) := by
            intro x h1 h2
            obtain rfl : x = b.length := by omega
            rw [lt2_end (by omega)]; exact q5
          clear q1 q2 q4 q5 p1 p2 p3 p4 p5 hrl e1 hm hs
          go_wp2_with fail
          go_loopw [8] (fun y wr => ∃ (z : Int) (r : List Value), y = .int .i64 z ∧ -1 ≤ z ∧ z < (b.length : Int) ∧ r.length = b.length + 1 ∧
            Hid (∀ x : Nat, z < (x : Int) → x ≤ b.length → r[x]? = some (.int .i64 (lt2 a b i x : Int))) ∧
            St w wr (⟨slv g (b.length + 1), 3, 1, b.length + 1, r⟩ :: ⟨slv g0 (a.length + 1), 23, 1, a.length + 1, vs⟩ :: rows.eraseIdx i) []) (fun y _ => (intOf y + 1).toNat)
          case atStart => exact ⟨_, r, rfl, by omega, by omega, q3, R0, hsi⟩
          case round =>
            clear hsi R0 q3 r
            obtain ⟨z, r, rfl, hz3, hz4, q3, R0, hs⟩ := hrel
            by_cases hz : 0 ≤ z
            · obtain ⟨x, rfl⟩ := Int.eq_ofNat_of_zero_le hz
              have hx : x < b.length := by omega
              obtain ⟨rfl, c1⟩ := HA.out i hi
              obtain ⟨rfl, c2⟩ := HB.out x hx
              replace c1 := hs.keep c1
              replace c2 := hs.keep c2
              have hii : (i : Int) < (a.length : Int) := by omega
              have hjj : (x : Int) < (b.length : Int) := by omega
              by_cases hxy : a[i] = b[x]
              · have hb := tx_beq hxy
                have HST := Mx.hid (by have := lt2_step (a := a) (b := b) hi hx; rw [if_pos hxy] at this; exact this)
                clear hxy
                go_wp2_with fail
                go_quiet (fail)
                replace hs := hs.drewN nq
                generalize wr.drewN nq = wq at *
                have hL := lt2_le a b (i + 1) (x + 1)
                have w1' : IntKind.i64.wrap ((i : Int) + 1) = (i : Int) + 1 := IntWalk.i64_in _ (by omega)
                have w2' : IntKind.i64.wrap ((x : Int) + 1) = (x : Int) + 1 := IntWalk.i64_in _ (by omega)
                have n1 : ((i : Int) + 1).toNat = i + 1 := by omega
                have n2 : ((x : Int) + 1).toNat = x + 1 := by omega
                have s1 : (0 : Int) ≤ (i : Int) + 1 := by omega
                have s2 : (0 : Int) ≤ (x : Int) + 1 := by omega
                have b1 : (i : Int) < (a.length : Int) + 1 := by omega
                have b2 : (i : Int) + 1 < (a.length : Int) + 1 := by omega
                have b3 : (x : Int) < (b.length : Int) + 1 := by omega
                have b4 : (x : Int) + 1 < (b.length : Int) + 1 := by omega
                have o1 := hs.swap.cell Q1.out
                have o2 := hs.swap.cell P1.out
                have d1 := hs.rowCell (List.mem_cons_of_mem _ (List.mem_cons_of_mem _ HM.out)) (P4.out (x + 1) (by omega))
                generalize lt2 a b (i + 1) (x + 1) = L1 at *
                have w3 : IntKind.i64.wrap ((L1 : Int) + 1) = (L1 : Int) + 1 := IntWalk.i64_in _ (by omega)
                clear c1 c2
                go_wp2_with fail
                go_still_tail 16, (by kernel_rfl)
                clear w1' w2' n1 n2 s1 s2 w3 o1 o2 d1 b1 b2 b3 b4
                go_wp2_with ((with_reducible show wpList _ _ _ _ _ _); refine wpl_store1 rfl 3 _ _ rfl hs.drew (x) rfl _ rfl rfl (by kernel_rfl) (by omega) rfl ?_; intro w2 hs2)
                go_roundw
                case rel => exact ⟨(x : Int) - 1, _, rfl, by omega, by omega, by simp; omega, row_step R0.out (by omega) hx HST.out, hs2⟩
                case measure => simp [intOf]
              · have hb := tx_bne hxy
                have HST := Mx.hid (by have := lt2_step (a := a) (b := b) hi hx; rw [if_neg hxy] at this; exact this)
                clear hxy
                go_wp2_with fail
                go_quiet (fail)
                replace hs := hs.drewN nq
                generalize wr.drewN nq = wq at *
                have hL := lt2_le a b (i + 1) x
                have hL' := lt2_le a b i (x + 1)
                have w1' : IntKind.i64.wrap ((i : Int) + 1) = (i : Int) + 1 := IntWalk.i64_in _ (by omega)
                have w2' : IntKind.i64.wrap ((x : Int) + 1) = (x : Int) + 1 := IntWalk.i64_in _ (by omega)
                have n1 : ((i : Int) + 1).toNat = i + 1 := by omega
                have n2 : ((x : Int) + 1).toNat = x + 1 := by omega
                have s1 : (0 : Int) ≤ (i : Int) + 1 := by omega
                have s2 : (0 : Int) ≤ (x : Int) + 1 := by omega
                have b1 : (i : Int) < (a.length : Int) + 1 := by omega
                have b2 : (i : Int) + 1 < (a.length : Int) + 1 := by omega
                have b3 : (x : Int) < (b.length : Int) + 1 := by omega
                have b4 : (x : Int) + 1 < (b.length : Int) + 1 := by omega
                have o1 := hs.swap.cell Q1.out
                have o2 := hs.swap.cell P1.out
                have d1 := hs.rowCell (List.mem_cons_of_mem _ (List.mem_cons_of_mem _ HM.out)) (P4.out x (by omega))
                have d2 := hs.rowCell (List.mem_cons_self ..) (R0.out (x + 1) (by omega) (by omega))
                generalize lt2 a b (i + 1) x = L1 at *
                have HL := Mx.hid (show L1 = L1 from rfl)
                generalize hL2 : lt2 a b i (x + 1) = L2 at *
                have HL2 := Mx.hid hL2
                clear c1 c2 hL2
                go_wp2_with fail
                go_still_tail 23, (by kernel_rfl)
                clear w1' w2' n1 n2 s1 s2 o1 o2 d1 d2 b1 b2 b3 b4
                go_wp2_with ((with_reducible show wpList _ _ _ _ _ _); refine wpl_store1 rfl 3 _ _ rfl hs.drew (x) rfl _ rfl rfl (by kernel_rfl) (by omega) rfl ?_; intro w2 hs2)
                go_roundw
                case rel =>
                  refine ⟨(x : Int) - 1, _, rfl, by omega, by omega, by simp; omega, row_step R0.out (by omega) hx HST.out ?_, hs2⟩
                  rw [Nat.max_def]; split <;> split <;> omega
                case measure => simp [intOf]
            · go_wp2_with fail
              have hr2 := hs.perm (R' := ⟨slv g0 (a.length + 1), 23, 1, a.length + 1, vs⟩ :: rows.set i ⟨slv g (b.length + 1), 3, 1, b.length + 1, r⟩) ((List.Perm.swap _ _ _).trans ((perm_set rows i (by have := Hrl.out; omega) _).cons _))
              go_roundw
              case rel =>
                refine ⟨(i : Int) - 1, _, rfl, by omega, by omega, by have := Hrl.out; show List.length _ = _; rw [List.length_set]; exact this, ?_, hr2⟩
                refine RowsAt.set' Hr.out (by have := Hrl.out; omega) Q1.out q3 (fun k _ hne h' => ⟨fun hk => h'.1 (by omega), h'.2⟩) ⟨fun _ j hj => R0.out j (by omega) hj, by rw [R0.out b.length (by omega) (by omega), lt2_end (by omega)]; rfl⟩
              case measure => simp [intOf]
        · go_wp2_with fail
          go_ret
          exact ⟨_, rfl, hs.bare, RowsAt.tab (fun k h1 h2 => by obtain ⟨g, r, q1, q2, q3, q4⟩ := Hr.out k h1 h2; exact ⟨g, r, q1, q2, q3, q4.1 (by omega)⟩) hs⟩
end Go.Proofs.Ytafmgclhgmhflaa
