/- marlaw2.WireOrder. -/
import Derived.Test.YtdalcdgkigkbbaaSortD
namespace Go.Proofs.Ytdalcdgkigkbbaa
open Go.RowKit Go.Mx

set_option maxRecDepth 100000 in
set_option maxHeartbeats 4000000 in
theorem wireOrder_any (w : World) (va : Value) (l : List ByteArray) (HL : Sl w 1 va l.length (ss l)) (s : ByteArray) :
    Calls Try.prog 8 #[va, .string s] w fun e w' => e = .returned (.bool true) ∧ Below w.heap.size w w' := by
  go_enter Try.func8, Try.ntmps8
  go_wp2_with fail
  refine (first_any _).mono ?_
  rintro e w1 ⟨rfl, hs1⟩
  go_wp2_with (first
    | ((with_reducible show wpList _ _ _ _ _ _); refine wpl_want rfl ?_)
    | (go_at_call 23; refine (few_any _ l _ (hs1.old HL)).mono ?_; rintro e w2 ⟨⟨f, rfl, hf⟩, rfl⟩; cases f; rotate_left; replace hf := hf rfl)
    | (go_at_call 12; refine (first_any _).mono ?_; rintro e w2 ⟨rfl, hs2⟩; replace hs2 := hs1.call0 hs2)
    | (go_at_call 24; refine (sort_any l.length va l _ (Nat.le_refl _) (hs1.old HL) (by omega)).mono ?_; rintro e w2 ⟨x1, rfl, t1⟩)
    | (go_at_call 25; refine (unique_any va l _ (t1.old (hs1.old HL)) (by omega)).mono ?_; rintro e w3 ⟨x2, rfl, t2⟩))
  · have H1 := t2.old (t1.cast (sortL_len l).symm rfl).sl0
    have H2 := t2.sl0
    replace HL := t2.old (t1.old (hs1.old HL))
    replace hs1 := (hs1.call0 t1.bare).call0 t2.bare
    clear t1 t2
    have n1 := sortL_len l
    have n2 := uniqL_len l
    have HS := hid (sortL_sorted l)
    have HU := hid (uniqL_strict l)
    have K1 := H1
    have K2 := H2
    have K0 := HL
    obtain ⟨ao, cap, blk, off, rfl, p1, p2, _, c0⟩ := K0.txt
    obtain ⟨ao1, cap1, blk1, off1, rfl, q1, q2, _, c1⟩ := K1.txt
    obtain ⟨ao2, cap2, blk2, off2, rfl, r1, r2, _, c2⟩ := K2.txt
    clear K0 K1 K2
    have C0 := hid c0
    have C1 := hid c1
    have C2 := hid c2
    clear c0 c1 c2
    generalize hA : sortL l = A at *
    generalize hB : uniqL l = B at *
    replace n1 := hid n1
    replace hA := hid hA
    replace hB := hid hB
    go_loopw [7] (fun x wr => ∃ j : Nat, x = .int .i64 ((j + 1 : Nat) : Int) ∧ j ≤ A.length ∧ St w3 wr [] []) (fun x _ => A.length + 1 - (intOf x).toNat)
    case atStart => exact ⟨0, rfl, by omega, St.refl w3⟩
    case round =>
      obtain ⟨j, rfl, hj, hs⟩ := hrel
      by_cases hlt : j + 1 < A.length
      · obtain ⟨rfl, c1⟩ := C1.out j (by omega)
        obtain ⟨_, c2⟩ := C1.out (j + 1) hlt
        have c1 := hs.keep c1
        have c2 := hs.keep c2
        have hd : decide ((j : Int) + 1 < (A.length : Int)) = true := decide_eq_true (by omega)
        have hb := cmpL_gt0 A[j] A[j + 1]
        rw [show lt A[j + 1] A[j] = false from List.pairwise_iff_getElem.1 HS.out j (j + 1) (by omega) hlt (by omega)] at hb
        go_wp2_with fail
        go_quiet ((go_at_call 21; exact Calls.quiet_of_same ((compare_any _ _ _).mono fun _ _ h => ⟨h.1, h.2.symm⟩)))
        go_wp2_with fail
        go_roundw
        case rel => exact ⟨j + 1, by go_num, by omega, hs.drewN _⟩
        case measure => simp [intOf]; omega
      · have hd : decide ((j : Int) + 1 < (A.length : Int)) = false := decide_eq_false (by omega)
        replace H1 := hs.old H1
        replace H2 := hs.old H2
        replace HL := hs.old HL
        replace hs1 := hs1.call0 hs
        replace C0 := keepC hs C0
        replace C1 := keepC hs C1
        replace C2 := keepC hs C2
        go_wp2_with fail
        clear hs hd hlt hj
        obtain ⟨w4, rfl⟩ : ∃ x : World, x = wr := ⟨_, rfl⟩
        go_loopw [8] (fun x wr => ∃ j : Nat, x = .int .i64 ((j + 1 : Nat) : Int) ∧ j ≤ B.length ∧ St w4 wr [] []) (fun x _ => B.length + 1 - (intOf x).toNat)
        case atStart => exact ⟨0, rfl, by omega, St.refl w4⟩
        case round =>
          obtain ⟨j, rfl, hj, hs⟩ := hrel
          by_cases hlt : j + 1 < B.length
          · obtain ⟨rfl, c1⟩ := C2.out j (by omega)
            obtain ⟨_, c2⟩ := C2.out (j + 1) hlt
            have c1 := hs.keep c1
            have c2 := hs.keep c2
            have hd : decide ((j : Int) + 1 < (B.length : Int)) = true := decide_eq_true (by omega)
            have hb := cmpL_ge0 B[j] B[j + 1]
            rw [show lt B[j] B[j + 1] = true from List.pairwise_iff_getElem.1 HU.out j (j + 1) (by omega) hlt (by omega)] at hb
            go_wp2_with fail
            go_quiet ((go_at_call 21; exact Calls.quiet_of_same ((compare_any _ _ _).mono fun _ _ h => ⟨h.1, h.2.symm⟩)))
            go_wp2_with fail
            go_roundw
            case rel => exact ⟨j + 1, by go_num, by omega, hs.drewN _⟩
            case measure => simp [intOf]; omega
          · have hd : decide ((j : Int) + 1 < (B.length : Int)) = false := decide_eq_false (by omega)
            replace H1 := hs.old H1
            replace H2 := hs.old H2
            replace HL := hs.old HL
            replace hs1 := hs1.call0 hs
            replace C0 := keepC hs C0
            replace C1 := keepC hs C1
            replace C2 := keepC hs C2
            go_wp2_with fail
            clear hs hd hlt hj
            obtain ⟨w5, rfl⟩ : ∃ x : World, x = wr := ⟨_, rfl⟩
            go_loop [9, 10, 11, 12] (fun x y z i => ∃ k : Nat, k ≤ l.length ∧ i = .int .i64 (k : Int) ∧ x = .int .i64 (cnt (l.take k) s : Int) ∧ y = .int .i64 (cnt (A.take k) s : Int) ∧ z = .int .i64 (cnt (B.take k) s : Int)) (fun _ _ _ i => l.length - (intOf i).toNat)
            case atStart => exact ⟨0, by omega, rfl, rfl, rfl, rfl⟩
            case round =>
              obtain ⟨k, hk, rfl, rfl, rfl, rfl⟩ := hrel
              by_cases hlt : k < l.length
              · have hltA : k < A.length := by rw [n1.out]; exact hlt
                obtain ⟨rfl, c1⟩ := C0.out k hlt
                obtain ⟨rfl, c2⟩ := C1.out k hltA
                have hd : decide ((k : Int) < (l.length : Int)) = true := decide_eq_true (by omega)
                have hd' : decide ((k : Int) < (A.length : Int)) = true := decide_eq_true (by omega)
                have s0 := hid (cnt_step hlt s)
                have s1 := hid (cnt_step hltA s)
                have b0 := cnt_le (l.take k) s
                have b1 := cnt_le (A.take k) s
                have b2 := cnt_le (B.take k) s
                rw [List.length_take] at b0 b1 b2
                generalize hX : cnt (l.take k) s = X at *
                generalize hY : cnt (A.take k) s = Y at *
                generalize hZ : cnt (B.take k) s = Z at *
                have g0 : X ≤ 400 := by omega
                have g1 : Y ≤ 400 := by omega
                have g2 : Z ≤ 400 := by omega
                clear b0 b1 b2
                by_cases hltB : k < B.length
                · obtain ⟨rfl, c3⟩ := C2.out k hltB
                  have hd'' : decide ((k : Int) < (B.length : Int)) = true := decide_eq_true (by omega)
                  have s2 := hid (cnt_step hltB s)
                  rw [hZ] at s2
                  go_wp2_with (first | ((with_reducible show wpList _ _ _ _ _ _); refine wpl_want rfl ?_) | (have := hF2; go_at_call 26; refine (flag_nat _ _).mono ?_; rintro e w' ⟨⟨f3, rfl, hf3, hF3⟩, rfl⟩) | (have := hF1; go_at_call 26; refine (flag_nat _ _).mono ?_; rintro e w' ⟨⟨f2, rfl, hf2, hF2⟩, rfl⟩) | (go_at_call 26; refine (flag_nat _ _).mono ?_; rintro e w' ⟨⟨f1, rfl, hf1, hF1⟩, rfl⟩))
                  have t0 : cnt (l.take (k + 1)) s = X + f1 := by rw [s0.out, hF1.out, tx_ite]
                  have t1 : cnt (A.take (k + 1)) s = Y + f2 := by rw [s1.out, hF2.out, tx_ite]
                  have t2 : cnt (B.take (k + 1)) s = Z + f3 := by rw [s2.out, hF3.out, tx_ite]
                  refine ⟨⟨(by first | trivial | rfl), ?_⟩, ?measure⟩
                  iterate 20 apply Exists.intro
                  repeat apply Exists.intro
                  refine ⟨?rel, rfl⟩
                  case rel => exact ⟨k + 1, by omega, by go_num, by rw [t0]; rfl, by rw [t1]; rfl, by rw [t2]; rfl⟩
                  case measure => simp [intOf]; omega
                · have hd'' : decide ((k : Int) < (B.length : Int)) = false := decide_eq_false (by omega)
                  go_wp2_with (first | ((with_reducible show wpList _ _ _ _ _ _); refine wpl_want rfl ?_) | (have := hF2; go_at_call 26; refine (flag_nat _ _).mono ?_; rintro e w' ⟨⟨f3, rfl, hf3, hF3⟩, rfl⟩) | (have := hF1; go_at_call 26; refine (flag_nat _ _).mono ?_; rintro e w' ⟨⟨f2, rfl, hf2, hF2⟩, rfl⟩) | (go_at_call 26; refine (flag_nat _ _).mono ?_; rintro e w' ⟨⟨f1, rfl, hf1, hF1⟩, rfl⟩))
                  have t0 : cnt (l.take (k + 1)) s = X + f1 := by rw [s0.out, hF1.out, tx_ite]
                  have t1 : cnt (A.take (k + 1)) s = Y + f2 := by rw [s1.out, hF2.out, tx_ite]
                  have t2 : cnt (B.take (k + 1)) s = Z + f3 := by
                    have := hF3.out
                    rw [List.take_of_length_le (by omega)] at hZ ⊢
                    simp at this
                    omega
                  refine ⟨⟨(by first | trivial | rfl), ?_⟩, ?measure⟩
                  iterate 20 apply Exists.intro
                  repeat apply Exists.intro
                  refine ⟨?rel, rfl⟩
                  case rel => exact ⟨k + 1, by omega, by go_num, by rw [t0]; rfl, by rw [t1]; rfl, by rw [t2]; rfl⟩
                  case measure => simp [intOf]; omega
              · have e0 : l.take k = l := List.take_of_length_le (by omega)
                have e1 : A.take k = A := List.take_of_length_le (by rw [n1.out]; omega)
                have e2 : B.take k = B := List.take_of_length_le (by omega)
                have f1 : cnt A s = cnt l s := by rw [← hA.out, cnt_sort]
                have f2 : cnt B s = min (cnt l s) 1 := by rw [← hB.out, cnt_uniq]
                have f3 : hasL l s = decide (0 < (cnt l s : Int)) := by
                  by_cases hm : s ∈ l
                  · have := (cnt_pos l s).2 hm
                    rw [hasL_iff.2 hm]; exact (decide_eq_true (by omega)).symm
                  · have : ¬ 0 < cnt l s := fun h => hm ((cnt_pos l s).1 h)
                    rw [hasL_not hm]; exact (decide_eq_false (by omega)).symm
                have E1 := hid (show sortL A = A by rw [← hA.out, sortL_idem])
                have E2 := hid (show uniqL A = B by rw [← hA.out, ← hB.out, uniqL_sort])
                have hA4 : A.length ≤ 400 := by rw [n1.out]; exact hf
                have hd : decide ((k : Int) < (l.length : Int)) = false := decide_eq_false (by omega)
                have hn : ((A.length : Int) == (l.length : Int)) = true := by rw [n1.out]; simp
                rw [e0, e1, e2, f1] at *
                generalize cnt l s = X at *
                generalize cnt B s = Z at *
                have hz : ((Z : Int) == min (X : Int) 1) = true := by simp; omega
                have F3 := hid f3
                clear f1 f2 f3 e0 e1 e2 C0 C1 C2 HS HU
                go_wp2_with (first
                  | ((with_reducible show wpList _ _ _ _ _ _); refine wpl_want rfl ?_)
                  | (go_at_call 12; refine (first_any _).mono ?_; rintro e w' ⟨rfl, t⟩; replace HL := t.old HL; replace H1 := t.old H1; replace H2 := t.old H2; replace hs1 := hs1.call0 t.bare; clear t)
                  | (go_at_call 27; refine ((has_any _ l _ HL s).mono fun e w' h => (by rw [F3.out] at h; exact h)).mono ?_; rintro e w' ⟨rfl, rfl⟩)
                  | (go_at_call 24; refine (sort_any A.length _ A _ (Nat.le_refl _) H1 (by omega)).mono ?_; rintro e w' ⟨x3, rfl, t⟩; replace HL := t.old HL; replace H1 := t.old H1; replace H2 := t.old H2; replace hs1 := hs1.call0 t.bare; have H3 := (t.cast rfl (congrArg ss E1.out)).sl0; clear t)
                  | (go_at_call 25; refine (unique_any _ A _ H1 (by omega)).mono ?_; rintro e w' ⟨x4, rfl, t⟩; replace HL := t.old HL; replace H1 := t.old H1; replace H2 := t.old H2; replace hs1 := hs1.call0 t.bare; have H4 := (t.cast (congrArg List.length E2.out) (congrArg ss E2.out)).sl0; clear t)
                  | (go_at_call 28; (with_reducible show Calls _ _ #[x3, _] _ _); refine (texts_same x3 _ A A _ H3 H1 rfl).mono ?_; rintro e w' ⟨rfl, t⟩; replace HL := t.old HL; replace H1 := t.old H1; replace H2 := t.old H2; replace hs1 := hs1.call0 t.bare; clear t)
                  | (go_at_call 28; (with_reducible show Calls _ _ #[x4, _] _ _); refine (texts_same x4 _ B B _ H4 H2 rfl).mono ?_; rintro e w' ⟨rfl, t⟩; replace HL := t.old HL; replace H1 := t.old H1; replace H2 := t.old H2; replace hs1 := hs1.call0 t.bare; clear t))
                go_ret
                exact ⟨rfl, hs1.below⟩
  all_goals
    go_ret
    exact ⟨rfl, hs2.below⟩

theorem wireOrderRow (v : Value) (l : List ByteArray) {w : World} (hv : Sl w 1 v l.length (ss l)) (_hl : ∀ s ∈ l, s.size ≤ maxLen) (s : ByteArray) (_hs : s.size ≤ maxLen) (_w : World) :
    Calls Try.prog 8 #[v, .string s] w fun e w' => e = .returned (.bool true) ∧ Below w.heap.size w w' := wireOrder_any w v l hv s
end Go.Proofs.Ytdalcdgkigkbbaa
