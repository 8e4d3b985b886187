/- Walk of the document's table of lengths. -/
import Derived.Test.YtafmgclhgmhflaaDoorLines
namespace Go.Proofs.YtafmgclhgmhflaaDoor
open Go.RowKit Go.Mx

set_option maxRecDepth 100000 in
set_option maxHeartbeats 2000000 in
theorem longest_any (va vb : Value) (a b : List ByteArray) (w : World) (ha : Sl w 1 va a.length (ss a)) (hb : Sl w 1 vb b.length (ss b)) (la : a.length ≤ 200) (lb : b.length ≤ 200) :
    Calls Tryd.prog 37 #[va, vb] w fun e w' => ∃ v, e = .returned v ∧ St w w' [] [] ∧ Tab w' v a b := by
  obtain ⟨ao, cap, blk, off, rfl, h1, h2, _, hc⟩ := ha.txt
  obtain ⟨ao', cap', blk', off', rfl, h1', h2', _, hc'⟩ := hb.txt
  clear ha hb
  have HA := Mx.hid hc
  have HB := Mx.hid hc'
  clear hc hc'
  obtain ⟨C1, hC1, hm1⟩ := run_make_rep (P := Tryd.prog) (t := 66) (e := 50) (z := .slice none 0 0) (bytes := 24) Tryd.underlying66 (by kernel_rfl) rfl (by omega) (a.length + 1) (by omega)
  obtain ⟨C2, hC2, hm2⟩ := run_make_rep (P := Tryd.prog) (t := 50) (e := 3) (z := .int .i64 0) (bytes := 8) Tryd.underlying50 (by kernel_rfl) rfl (by omega) (b.length + 1) (by omega)
  replace hm1 := hm1 ((a.length : Int) + 1) (by omega)
  replace hm2 := hm2 ((b.length : Int) + 1) (by omega)
  have HC1 := Mx.hid hC1
  have HC2 := Mx.hid hC2
  clear hC1 hC2
  go_enter Tryd.func37, Tryd.ntmps37
  go_wp2_with fail
  have hs0 := (St.refl w).madeAt C1 50 1 (a.length + 1) w.heap.size (by have := congrArg List.length HC1.out; simpa using this) (by unfold maxLen; omega) rfl
  generalize w.heap.size = g0 at *
  go_loopw [6, 7] (fun y _ wr => ∃ (z : Int) (lo : Nat) (vs : List Value) (rows : List Row), y = .int .i64 z ∧ (lo : Int) = z + 1 ∧ lo ≤ a.length + 1 ∧ Hid (vs.length = a.length + 1) ∧
      Hid (RowsAt vs rows 3 (b.length + 1) lo (a.length + 1) fun k r => ∀ j, j ≤ b.length → r[j]? = some (.int .i64 (lt2 a b k j : Int))) ∧ St w wr (⟨slv g0 (a.length + 1), 50, 1, a.length + 1, vs⟩ :: rows) []) (fun y _ _ => (intOf y + 1).toNat)
  case atStart => exact ⟨_, a.length + 1, _, [], rfl, by omega, by omega, by rw [HC1.out]; simp [Hid], fun k h1 h2 => by omega, hs0⟩
  case round =>
    obtain ⟨z, lo, vs, rows, rfl, hlo, hlo', Hvs, Hr, hs⟩ := hrel
    clear hs0
    by_cases hz : 0 ≤ z
    · obtain ⟨i, rfl⟩ := Int.eq_ofNat_of_zero_le hz
      obtain rfl : lo = i + 1 := by omega
      have hi : i < a.length + 1 := by omega
      have hsz2 : C2.size = (b.length + 1) * 1 := by have := congrArg List.length HC2.out; simpa using this
      have hsn := (hs.madeAt C2 3 1 (b.length + 1) wr.heap.size hsz2 (by unfold maxLen; omega) rfl).swap
      have b0 : (i : Int) < (a.length : Int) + 1 := by omega
      clear hlo hs
      go_wp2_with ((with_reducible show wpList _ _ _ _ _ _); refine wpl_store1 rfl 50 _ _ rfl hsn (i) rfl _ rfl rfl (by kernel_rfl) (by rw [Hvs.out]; exact hi) rfl ?_; intro w2 hs2)
      rw [put_eq (by rw [Hvs.out]; exact hi)] at hs2
      generalize wr.heap.size = g at *
      clear hsn hm2 b0
      have hs2 := hs2.swap
      by_cases hlast : i = a.length
      · subst hlast
        have hb0 : ¬ ((a.length : Int) < (a.length : Int)) := by omega
        have hb1 : decide ((a.length : Int) < (a.length : Int)) = false := decide_eq_false (by omega)
        go_wp2_with fail
        refine wp_loop_rounds 1 ?_; rw [rounds_succ]
        have HR := Mx.hid (Hr.out.front (by have := Hvs.out; omega) (g := g) (r := C2.toList) (by rw [HC2.out]; simp) (fun j hj => by rw [lt2_end (by omega), HC2.out, List.getElem?_replicate, if_pos (by omega)]; rfl))
        have HV : Hid ((vs.set a.length (slv g (b.length + 1))).length = a.length + 1) := by show _ = _; rw [List.length_set]; exact Hvs.out
        go_wp2_with (first | ((with_reducible show wpList _ _ _ _ _ _); refine wpl_want rfl ?_))
        all_goals exact ⟨⟨(a.length : Int) - 1, a.length, _, _, rfl, by omega, by omega, HV, HR, hs2.swap⟩, by simp [intOf]⟩
      · have hi : i < a.length := by omega
        obtain ⟨g', r', p1, p2, p3, p4⟩ := Hr.out (i + 1) (by omega) (by omega)
        have HM : Hid ((⟨slv g' (b.length + 1), 3, 1, b.length + 1, r'⟩ : Row) ∈ rows) := List.mem_of_getElem? p2
        have Q1 : Hid ((vs.set i (slv g (b.length + 1)))[i]? = some (slv g (b.length + 1))) := List.getElem?_set_self (by rw [Hvs.out]; omega)
        have P1 : Hid ((vs.set i (slv g (b.length + 1)))[i + 1]? = some (slv g' (b.length + 1))) := by show _ = _; rw [List.getElem?_set_ne (by omega)]; exact p1
        have P4 := Mx.hid p4
        have q3 : C2.toList.length = b.length + 1 := by rw [HC2.out]; simp
        have R0 : Hid (∀ x : Nat, (b.length : Int) - 1 < (x : Int) → x ≤ b.length → C2.toList[x]? = some (.int .i64 (lt2 a b i x : Int))) := by
          intro x h1 h2
          obtain rfl : x = b.length := by omega
          rw [lt2_end (by omega), HC2.out, List.getElem?_replicate, if_pos (by omega)]; rfl
        have hii : (i : Int) < (a.length : Int) := by omega
        clear p1 p2 p3 p4 hlast hlo'
        go_wp2_with fail
        go_loopw [7] (fun y wr => ∃ (z : Int) (r : List Value), y = .int .i64 z ∧ -1 ≤ z ∧ z < (b.length : Int) ∧ r.length = b.length + 1 ∧
          Hid (∀ x : Nat, z < (x : Int) → x ≤ b.length → r[x]? = some (.int .i64 (lt2 a b i x : Int))) ∧
          St w wr (⟨slv g (b.length + 1), 3, 1, b.length + 1, r⟩ :: ⟨slv g0 (a.length + 1), 50, 1, a.length + 1, vs.set i (slv g (b.length + 1))⟩ :: rows) []) (fun y _ => (intOf y + 1).toNat)
        case atStart => exact ⟨_, _, rfl, by omega, by omega, q3, R0, hs2⟩
        case round =>
          clear hs2 R0 q3
          obtain ⟨z, r, rfl, hz3, hz4, q3, R0, hs⟩ := hrel
          by_cases hz : 0 ≤ z
          · obtain ⟨x, rfl⟩ := Int.eq_ofNat_of_zero_le hz
            have hx : x < b.length := by omega
            obtain ⟨rfl, c1⟩ := HA.out i hi
            obtain ⟨rfl, c2⟩ := HB.out x hx
            have hjj : (x : Int) < (b.length : Int) := by omega
            have hL := lt2_le a b (i + 1) x
            have hL' := lt2_le a b i (x + 1)
            have hL3 := lt2_le a b (i + 1) (x + 1)
            have hle3 := hL3
            have w1' : IntKind.i64.wrap ((i : Int) + 1) = (i : Int) + 1 := IntWalk.i64_in _ (by omega)
            have w2' : IntKind.i64.wrap ((x : Int) + 1) = (x : Int) + 1 := IntWalk.i64_in _ (by omega)
            have n1 : ((i : Int) + 1).toNat = i + 1 := by omega
            have n2 : ((x : Int) + 1).toNat = x + 1 := by omega
            have s1 : (0 : Int) ≤ (i : Int) + 1 := by omega
            have s2 : (0 : Int) ≤ (x : Int) + 1 := by omega
            have b1 : (i : Int) < (a.length : Int) + 1 := by omega
            have b2 : (i : Int) + 1 < (a.length : Int) + 1 := by omega
            have b3 : (x : Int) < (b.length : Int) + 1 := by omega
            have b4 : (x : Int) + 1 < (b.length : Int) + 1 := by omega
            have o1 := hs.swap.cell Q1.out
            have o2 := hs.swap.cell P1.out
            have d1 := hs.rowCell (List.mem_cons_of_mem _ (List.mem_cons_of_mem _ HM.out)) (P4.out x (by omega))
            have d2 := hs.rowCell (List.mem_cons_self ..) (R0.out (x + 1) (by omega) (by omega))
            have HST := Mx.hid (lt2_step (a := a) (b := b) hi hx)
            generalize hL1 : lt2 a b (i + 1) x = L1 at *
            generalize hL2 : lt2 a b i (x + 1) = L2 at *
            generalize hLL : lt2 a b (i + 1) (x + 1) = L3 at *
            have HL3 := Mx.hid hLL
            clear hL1 hL2 hLL
            have hmx : (if L1 < L2 then (L2 : Int) else (L1 : Int)) = ((max L1 L2 : Nat) : Int) := by rw [Nat.max_def]; split <;> split <;> omega
            generalize max L1 L2 = M at *
            go_wp2_with (first | ((with_reducible show wpList _ _ _ _ _ _); refine wpl_want rfl ?_))
            go_still_tail 23, (by kernel_rfl)
            go_wp2_with ((with_reducible show wpList _ _ _ _ _ _); refine wpl_store1 rfl 3 _ _ rfl hs.drew (x) rfl (.int .i64 (M : Int)) rfl rfl (by kernel_rfl) (by omega) rfl ?_; intro w3 hs3)
            replace c1 := hs3.keep c1
            replace c2 := hs3.keep c2
            have hlen : (r.take x ++ [Value.int .i64 (M : Int)] ++ r.drop (x + 1)).length = b.length + 1 := by rw [put_eq (by omega), List.length_set]; exact q3
            have hold : ∀ y : Nat, (x : Int) < (y : Int) → y ≤ b.length → (r.take x ++ [Value.int .i64 (M : Int)] ++ r.drop (x + 1))[y]? = some (.int .i64 (lt2 a b i y : Int)) := by
              intro y h1 h2
              rw [put_eq (by omega), List.getElem?_set_ne (by omega)]
              exact R0.out y h1 h2
            by_cases hxy : a[i] = b[x]
            · have hb := tx_beq hxy
              have hst := HST.out
              rw [if_pos hxy] at hst
              have HST2 := Mx.hid hst
              have HO := Mx.hid hold
              have d3 := hs3.rowCell (List.mem_cons_of_mem _ (List.mem_cons_of_mem _ HM.out)) (P4.out (x + 1) (by omega))
              rw [HL3.out] at d3
              have o1 := hs3.swap.cell Q1.out
              have o2 := hs3.swap.cell P1.out
              have w3' : IntKind.i64.wrap ((L3 : Int) + 1) = (L3 : Int) + 1 := IntWalk.i64_in _ (by omega)
              generalize (r.take x ++ [Value.int .i64 (M : Int)] ++ r.drop (x + 1)) = rr at *
              clear hxy hst hmx hold
              go_wp2_with fail
              go_quiet (fail)
              replace hs3 := hs3.drewN nq
              replace d3 := hs3.rowCell (List.mem_cons_of_mem _ (List.mem_cons_of_mem _ HM.out)) (P4.out (x + 1) (by omega))
              rw [HL3.out] at d3
              replace o1 := hs3.swap.cell Q1.out
              replace o2 := hs3.swap.cell P1.out
              clear c1 c2
              generalize w3.drewN nq = wq at *
              go_wp2_with fail
              go_still_tail 16, (by kernel_rfl)
              clear w1' w2' w3' n1 n2 s1 s2 o1 o2 d3 b1 b2 b3 b4
              go_wp2_with ((with_reducible show wpList _ _ _ _ _ _); refine wpl_store1 rfl 3 _ _ rfl hs3.drew (x) rfl (.int .i64 ((L3 : Int) + 1)) rfl rfl (by kernel_rfl) (by omega) rfl ?_; intro w4 hs4)
              have R2 := row_step HO.out (by omega) hx HST2.out (z := (L3 : Int) + 1) rfl
              go_roundw
              case rel => exact ⟨(x : Int) - 1, _, rfl, by omega, by omega, by rw [put_eq (by omega), List.length_set]; exact hlen, R2, hs4⟩
              case measure => simp [intOf]
            · have hb := tx_bne hxy
              have hst := HST.out
              rw [if_neg hxy] at hst
              have R2 := row_step R0.out (by omega) hx hst (z := (M : Int)) rfl
              clear hxy hst hmx hold
              generalize (r.take x ++ [Value.int .i64 (M : Int)] ++ r.drop (x + 1)) = rr at *
              clear w1' w2' n1 n2 s1 s2 b1 b2 b3 b4
              go_wp2_with fail
              go_quiet (fail)
              go_wp2_with fail
              go_roundw
              case rel => exact ⟨(x : Int) - 1, _, rfl, by omega, by omega, hlen, R2, hs3.drewN _⟩
              case measure => simp [intOf]
          · have HR := Mx.hid (Hr.out.front (by have := Hvs.out; omega) (g := g) (r := r) q3 (fun j hj => R0.out j (by omega) hj))
            have HV : Hid ((vs.set i (slv g (b.length + 1))).length = a.length + 1) := by show _ = _; rw [List.length_set]; exact Hvs.out
            go_wp2_with (first | ((with_reducible show wpList _ _ _ _ _ _); refine wpl_want rfl ?_))
            go_roundw
            case rel => exact ⟨(i : Int) - 1, i, _, _, rfl, by omega, by omega, HV, HR, hs.swap⟩
            case measure => simp [intOf]
    · go_wp2_with fail
      go_ret
      obtain rfl : lo = 0 := by omega
      exact ⟨_, rfl, hs.bare, RowsAt.tab Hr.out hs⟩
end Go.Proofs.YtafmgclhgmhflaaDoor
