/- marlaw15.Diff3Both: it returns true and leaves what was there as it was. -/
import Derived.Test.YtafmgclhgmhflaaDoorD3F
import Derived.Test.YtafmgclhgmhflaaDoorD3LT
import Derived.Test.YtafmgclhgmhflaaDoorD3B
namespace Go.Proofs.YtafmgclhgmhflaaDoor
open Go.RowKit Go.Mx

theorem u8_beqf {x y : UInt8} (h : ¬ x = y) {k : Int} (hk : (y.toNat : Int) = k) : ((x.toNat : Int) == k) = false := by
  rw [beq_eq_false_iff_ne]
  intro he
  exact h (UInt8.toNat_inj.1 (by omega))
theorem l3_cells {i : Nat} (hi : i < 100) (x : UInt8) : ([.int .u8 (65 + (i : Int)), .int .u8 (x.toNat : Int), .int .u8 10] : List Value) = bs (l3 i x) := by
  show _ = [Value.int .u8 _, Value.int .u8 _, Value.int .u8 _]
  rw [u8_nat (by omega)]
  rfl
set_option maxRecDepth 100000 in
set_option maxHeartbeats 8000000 in
theorem diff3Both_any (w : World) (n y : Int) (c d : UInt8) (hn : -9223372036854775808 ≤ n ∧ n ≤ 9223372036854775807) (hy : -9223372036854775808 ≤ y ∧ y ≤ 9223372036854775807) :
    Calls Tryd.prog 8 #[.int .i64 n, .int .i64 y, .int .u8 (c.toNat : Int), .int .u8 (d.toNat : Int)] w fun e w' => e = .returned (.bool true) ∧ Below w.heap.size w w' := by
  have hc := u8_lt c
  have hd := u8_lt d
  go_enter Tryd.func8, Tryd.ntmps8
  go_wp2_with fail
  refine (first_any _).mono ?_
  rintro e w1 ⟨rfl, hs1⟩
  by_cases t0 : n < 3
  · have q0 : decide (n < 3) = true := decide_eq_true t0
    skip
    go_wp2_with (first | ((with_reducible show wpList _ _ _ _ _ _); refine wpl_want rfl ?_) | (go_at_call 9; refine (first_any _).mono ?_; rintro e w2 ⟨rfl, hs2⟩))
    go_ret
    exact ⟨rfl, (hs1.call0 hs2).below⟩
  have q0 : decide (n < 3) = false := decide_eq_false t0
  by_cases t1 : 20 < n
  · have q1 : decide (20 < n) = true := decide_eq_true t1
    skip
    go_wp2_with (first | ((with_reducible show wpList _ _ _ _ _ _); refine wpl_want rfl ?_) | (go_at_call 9; refine (first_any _).mono ?_; rintro e w2 ⟨rfl, hs2⟩))
    go_ret
    exact ⟨rfl, (hs1.call0 hs2).below⟩
  have q1 : decide (20 < n) = false := decide_eq_false t1
  have hw : IntKind.i64.wrap (n - 2) = n - 2 := IntWalk.i64_in _ (by omega)
  by_cases t2 : y < 1
  · have q2 : decide (y < 1) = true := decide_eq_true t2
    skip
    go_wp2_with (first | ((with_reducible show wpList _ _ _ _ _ _); refine wpl_want rfl ?_) | (go_at_call 9; refine (first_any _).mono ?_; rintro e w2 ⟨rfl, hs2⟩))
    go_ret
    exact ⟨rfl, (hs1.call0 hs2).below⟩
  have q2 : decide (y < 1) = false := decide_eq_false t2
  by_cases t3 : n - 2 < y
  · have q3 : decide (n - 2 < y) = true := decide_eq_true t3
    skip
    go_wp2_with (first | ((with_reducible show wpList _ _ _ _ _ _); refine wpl_want rfl ?_) | (go_at_call 9; refine (first_any _).mono ?_; rintro e w2 ⟨rfl, hs2⟩))
    go_ret
    exact ⟨rfl, (hs1.call0 hs2).below⟩
  have q3 : decide (n - 2 < y) = false := decide_eq_false t3
  by_cases t4 : c = 10
  · have q4 : ((c.toNat : Int) == 10) = true := by rw [t4]; rfl
    clear t4
    go_wp2_with (first | ((with_reducible show wpList _ _ _ _ _ _); refine wpl_want rfl ?_) | (go_at_call 9; refine (first_any _).mono ?_; rintro e w2 ⟨rfl, hs2⟩))
    go_ret
    exact ⟨rfl, (hs1.call0 hs2).below⟩
  have q4 : ((c.toNat : Int) == 10) = false := u8_beqf t4 (by decide)
  by_cases t5 : d = 10
  · have q5 : ((d.toNat : Int) == 10) = true := by rw [t5]; rfl
    clear t4 t5
    go_wp2_with (first | ((with_reducible show wpList _ _ _ _ _ _); refine wpl_want rfl ?_) | (go_at_call 9; refine (first_any _).mono ?_; rintro e w2 ⟨rfl, hs2⟩))
    go_ret
    exact ⟨rfl, (hs1.call0 hs2).below⟩
  have q5 : ((d.toNat : Int) == 10) = false := u8_beqf t5 (by decide)
  by_cases t6 : c = 0
  · have q6 : ((c.toNat : Int) == 0) = true := by rw [t6]; rfl
    clear t4 t5 t6
    go_wp2_with (first | ((with_reducible show wpList _ _ _ _ _ _); refine wpl_want rfl ?_) | (go_at_call 9; refine (first_any _).mono ?_; rintro e w2 ⟨rfl, hs2⟩))
    go_ret
    exact ⟨rfl, (hs1.call0 hs2).below⟩
  have q6 : ((c.toNat : Int) == 0) = false := u8_beqf t6 (by decide)
  by_cases t7 : d = 0
  · have q7 : ((d.toNat : Int) == 0) = true := by rw [t7]; rfl
    clear t4 t5 t6 t7
    go_wp2_with (first | ((with_reducible show wpList _ _ _ _ _ _); refine wpl_want rfl ?_) | (go_at_call 9; refine (first_any _).mono ?_; rintro e w2 ⟨rfl, hs2⟩))
    go_ret
    exact ⟨rfl, (hs1.call0 hs2).below⟩
  have q7 : ((d.toNat : Int) == 0) = false := u8_beqf t7 (by decide)
  by_cases t8 : c = 46
  · have q8 : ((c.toNat : Int) == 46) = true := by rw [t8]; rfl
    clear t4 t5 t6 t7 t8
    go_wp2_with (first | ((with_reducible show wpList _ _ _ _ _ _); refine wpl_want rfl ?_) | (go_at_call 9; refine (first_any _).mono ?_; rintro e w2 ⟨rfl, hs2⟩))
    go_ret
    exact ⟨rfl, (hs1.call0 hs2).below⟩
  have q8 : ((c.toNat : Int) == 46) = false := u8_beqf t8 (by decide)
  by_cases t9 : d = 46
  · have q9 : ((d.toNat : Int) == 46) = true := by rw [t9]; rfl
    clear t4 t5 t6 t7 t8 t9
    go_wp2_with (first | ((with_reducible show wpList _ _ _ _ _ _); refine wpl_want rfl ?_) | (go_at_call 9; refine (first_any _).mono ?_; rintro e w2 ⟨rfl, hs2⟩))
    go_ret
    exact ⟨rfl, (hs1.call0 hs2).below⟩
  have q9 : ((d.toNat : Int) == 46) = false := u8_beqf t9 (by decide)
  obtain ⟨N, rfl⟩ := Int.eq_ofNat_of_zero_le (show 0 ≤ n by omega)
  obtain ⟨T, rfl⟩ := Int.eq_ofNat_of_zero_le (show 0 ≤ y by omega)
  have hN : N ≤ 20 := by omega
  have hT : T < N := by omega
  have HR := Mx.hid (both_R (n := N) (T := T) (c := c) (d := d) hN hT t4 t6 t8 t5 t7 t9)
  clear t0 t1 t2 t3 t4 t5 t6 t7 t8 t9 hn hy
  go_wp2_with (first | ((with_reducible show wpList _ _ _ _ _ _); refine wpl_want rfl ?_))
  clear q0 q1 q2 q3 q4 q5 q6 q7 q8 q9 hw
  go_loopw [9, 10, 11, 12] (fun x1 x2 x3 x4 wr => ∃ i : Nat, i ≤ N ∧ x4 = .int .i64 i ∧ St w1 wr [⟨x1, 5, 1, (fX T 46 i).length, bs (fX T 46 i)⟩, ⟨x2, 5, 1, (fX T c i).length, bs (fX T c i)⟩, ⟨x3, 5, 1, (fX T d i).length, bs (fX T d i)⟩] []) (fun _ _ _ y _ => N - (intOf y).toNat)
  case atStart => exact ⟨0, by omega, rfl, ((St.nil w1 _ _).addNil _ _).addNil _ _⟩
  case round =>
    obtain ⟨i, hi, rfl, hs⟩ := hrel
    by_cases hlt : i < N
    · have hii : (i : Int) < (N : Int) := by omega
      have e1 := fX_len T 46 i
      have e2 := fX_len T c i
      have e3 := fX_len T d i
      have b1 : (fX T 46 i).length ≤ 60 := by omega
      have b2 : (fX T c i).length ≤ 60 := by omega
      have b3 : (fX T d i).length ≤ 60 := by omega
      have s1 := Mx.hid (fX_succ T 46 i)
      have s2 := Mx.hid (fX_succ T c i)
      have s3 := Mx.hid (fX_succ T d i)
      clear e1 e2 e3
      have m1 : (l3 i 46).length ≤ 3 := Nat.le_refl 3
      have m2 : (l3 i c).length ≤ 3 := Nat.le_refl 3
      have m3 : (l3 i d).length ≤ 3 := Nat.le_refl 3
      have hl0 := (hs.madeAt #[.int .u8 (65 + (i : Int)), .int .u8 46, .int .u8 10] 5 1 3 wr.heap.size rfl (by simp [maxLen]) rfl).cast (n' := (l3 i 46).length) rfl (l3_cells (by omega) 46)
      by_cases hit : i = T
      · have HIT := Mx.hid hit
        have g1 : ((i : Int) == (T : Int)) = true := by rw [hit]; simp
        clear hit
        go_wp2_with (first | ((at_builtin; refine wpl_app rfl _ _ 36 rfl Tryd.elU8 hl0.rot rfl (by exact hl0.sl0) (bs_one _) (by omega) ?_; intro vO w2 hs2 _); have hr2 := hs2.rot.rot.rot) | (((with_reducible show wpList _ _ _ _ _ _); refine wpl_store1 rfl 5 _ _ rfl hr2 (1) rfl (.int .u8 (c.toNat : Int)) rfl rfl (by kernel_rfl) (by show 1 < 3; omega) rfl ?_; intro w3 hs3); have hl3 := hs3.cast (n' := (l3 i c).length) (xs' := bs (l3 i c)) rfl rfl; have hr3 := hl3.rot.rot) | ((at_builtin; refine wpl_app rfl _ _ 36 rfl Tryd.elU8 hr3 rfl (by exact hl3.sl0) (bs_one _) (by omega) ?_; intro vA w4 hs4 _); have hr4 := hs4.rot.rot) | (((with_reducible show wpList _ _ _ _ _ _); refine wpl_store1 rfl 5 _ _ rfl hr4 (1) rfl (.int .u8 (d.toNat : Int)) rfl rfl (by kernel_rfl) (by show 1 < 3; omega) rfl ?_; intro w5 hs5); have hl5 := hs5.cast (n' := (l3 i d).length) (xs' := bs (l3 i d)) rfl rfl; have hr5 := hl5.rot.rot.rot) | ((at_builtin; refine wpl_app rfl _ _ 36 rfl Tryd.elU8 hr5 rfl (by exact hl5.sl0) (bs_one _) (by omega) ?_; intro vB w6 hs6 _); have hr6 := hs6.rot.tail))
        go_roundw
        case rel =>
          refine ⟨i + 1, by omega, by go_num, ?_⟩
          rw [s1.out, s2.out, s3.out, if_pos HIT.out, if_pos HIT.out, if_pos HIT.out]
          have z := hr6
          simp only [List.length_append, bs_app]
          exact z
        case measure => simp [intOf]; omega
      · have HIT := Mx.hid hit
        have g1 : ((i : Int) == (T : Int)) = false := by rw [beq_eq_false_iff_ne]; omega
        clear hit
        go_wp2_with (first | ((at_builtin; refine wpl_app rfl _ _ 36 rfl Tryd.elU8 hl0.rot rfl (by exact hl0.sl0) (bs_one _) (by omega) ?_; intro vO w2 hs2 _); have hr2 := hs2.rot) | ((at_builtin; refine wpl_app rfl _ _ 36 rfl Tryd.elU8 hr2 rfl (by exact hr2.sl2) (bs_one _) (by omega) ?_; intro vA w4 hs4 _); have hr4 := hs4.rot) | ((at_builtin; refine wpl_app rfl _ _ 36 rfl Tryd.elU8 hr4 rfl (by exact hr4.sl1) (bs_one _) (by omega) ?_; intro vB w6 hs6 _); have hr6 := hs6.rot.tail))
        go_roundw
        case rel =>
          refine ⟨i + 1, by omega, by go_num, ?_⟩
          rw [s1.out, s2.out, s3.out, if_neg HIT.out, if_neg HIT.out, if_neg HIT.out]
          have z := hr6
          simp only [List.length_append, bs_app]
          exact z
        case measure => simp [intOf]; omega
    · have hiN : i = N := by omega
      subst hiN
      obtain ⟨rE, rR⟩ := HR.out
      have b1 : (fX T 46 i).length ≤ 1000000 := by rw [fX_len]; omega
      have b2 : (fX T c i).length ≤ 1000000 := by rw [fX_len]; omega
      have b3 : (fX T d i).length ≤ 1000000 := by rw [fX_len]; omega
      by_cases hcd : c = d
      · rw [if_pos hcd] at rR
        have g2 : ((c.toNat : Int) == (d.toNat : Int)) = true := by rw [hcd]; simp
        clear hcd
        go_wp2_with fail
        refine (merge_as _ _ _ _ _ _ _ hs.sl0 hs.sl1 hs.sl2 b1 b2 b3 rR rE).mono ?_
        rintro e w2 ⟨vm, rfl, hs2⟩
        replace hs2 := hs.call1 hs2
        go_wp2_with fail
        refine (first_any _).mono ?_
        rintro e w3 ⟨rfl, hs3⟩
        replace hs3 := hs2.call0 hs3
        simp only [Option.getD_some, Option.isSome_some] at hs3 ⊢
        have k1 := Mx.hid (bytes_any _ _ _ _ _ hs3.sl0 hs3.sl2)
        have kd : decide (fX T c i = fX T c i) = true := decide_eq_true rfl
        rw [kd] at k1
        clear kd
        go_wp2_with (first | ((with_reducible show wpList _ _ _ _ _ _); refine wpl_want rfl ?_))
        refine k1.out.mono ?_
        rintro e w' ⟨rfl, rfl⟩
        go_wp2_with (first | ((with_reducible show wpList _ _ _ _ _ _); refine wpl_want rfl ?_))
        go_ret
        exact ⟨rfl, (hs1.call0 hs3.bare).below⟩
      · rw [if_neg hcd] at rR
        have g2 : ((c.toNat : Int) == (d.toNat : Int)) = false := u8_beqf hcd rfl
        clear hcd
        go_wp2_with fail
        refine (merge_as _ _ _ _ _ _ _ hs.sl0 hs.sl1 hs.sl2 b1 b2 b3 rR rE).mono ?_
        rintro e w2 ⟨vm, rfl, hs2⟩
        obtain ⟨m1, m2, rfl, _⟩ := hs2.sl0
        replace hs2 := hs.call1 hs2
        go_wp2_with fail
        refine (first_any _).mono ?_
        rintro e w3 ⟨rfl, hs3⟩
        replace hs3 := hs2.call0 hs3
        simp only [Option.getD_none, Option.isSome_none, List.length_nil] at hs3 ⊢
        go_wp2_with (first | ((with_reducible show wpList _ _ _ _ _ _); refine wpl_want rfl ?_))
        go_ret
        exact ⟨rfl, (hs1.call0 hs3.bare).below⟩

theorem diff3BothRow (n : Int) (hn : (Lit.int .i64 n).wf) (y : Int) (hy : (Lit.int .i64 y).wf) (c d : UInt8) (w : World) :
    Calls Tryd.prog 8 #[.int .i64 n, .int .i64 y, .int .u8 (c.toNat : Int), .int .u8 (d.toNat : Int)] w fun e w' => e = .returned (.bool true) ∧ Below w.heap.size w w' :=
  diff3Both_any w n y c d (by simpa [Lit.wf, IntKind.min, IntKind.max, IntKind.signed, IntKind.bits] using hn) (by simpa [Lit.wf, IntKind.min, IntKind.max, IntKind.signed, IntKind.bits] using hy)
end Go.Proofs.YtafmgclhgmhflaaDoor
