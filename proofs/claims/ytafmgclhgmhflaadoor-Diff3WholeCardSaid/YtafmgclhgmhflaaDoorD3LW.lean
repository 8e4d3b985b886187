/- marlaw15.Diff3Whole: it returns true and leaves what was there as it was. -/
import Derived.Test.YtafmgclhgmhflaaDoorD3F
namespace Go.Mx
open Go Go.RowKit
def fo (cs : List Ck) (k : Nat) : Tx := ((cs.take k).map (·.o)).flatten
def fa (cs : List Ck) (k : Nat) : Tx := ((cs.take k).map (·.a)).flatten
def fb (cs : List Ck) (k : Nat) : Tx := ((cs.take k).map (·.b)).flatten
theorem fo_succ {cs : List Ck} {k : Nat} (h : k < cs.length) : fo cs (k + 1) = fo cs k ++ cs[k].o := by unfold fo; rw [List.take_succ_eq_append_getElem h, List.map_append, List.flatten_append]; simp only [List.map_cons, List.map_nil, List.flatten_cons, List.flatten_nil, List.append_nil]
theorem fa_succ {cs : List Ck} {k : Nat} (h : k < cs.length) : fa cs (k + 1) = fa cs k ++ cs[k].a := by unfold fa; rw [List.take_succ_eq_append_getElem h, List.map_append, List.flatten_append]; simp only [List.map_cons, List.map_nil, List.flatten_cons, List.flatten_nil, List.append_nil]
theorem fb_succ {cs : List Ck} {k : Nat} (h : k < cs.length) : fb cs (k + 1) = fb cs k ++ cs[k].b := by unfold fb; rw [List.take_succ_eq_append_getElem h, List.map_append, List.flatten_append]; simp only [List.map_cons, List.map_nil, List.flatten_cons, List.flatten_nil, List.append_nil]
theorem fo_le (cs : List Ck) (k : Nat) : (fo cs k).length ≤ ((cs.map (·.o)).flatten).length := by
  have : cs.map (·.o) = (cs.take k).map (·.o) ++ (cs.drop k).map (·.o) := by rw [← List.map_append, List.take_append_drop]
  rw [this, List.flatten_append, List.length_append]; exact Nat.le_add_right _ _
theorem fa_le (cs : List Ck) (k : Nat) : (fa cs k).length ≤ ((cs.map (·.a)).flatten).length := by
  have : cs.map (·.a) = (cs.take k).map (·.a) ++ (cs.drop k).map (·.a) := by rw [← List.map_append, List.take_append_drop]
  rw [this, List.flatten_append, List.length_append]; exact Nat.le_add_right _ _
theorem fb_le (cs : List Ck) (k : Nat) : (fb cs k).length ≤ ((cs.map (·.b)).flatten).length := by
  have : cs.map (·.b) = (cs.take k).map (·.b) ++ (cs.drop k).map (·.b) := by rw [← List.map_append, List.take_append_drop]
  rw [this, List.flatten_append, List.length_append]; exact Nat.le_add_right _ _
theorem Sl.four {w : World} {g cap : Nat} {x y z u : Value} (h : Sl w 4 (.slice (some ⟨g, 0, none⟩) 1 cap) 1 [x, y, z, u]) : w.cell? ⟨g, 0, none⟩ = some x ∧ w.cell? ⟨g, 1, none⟩ = some y ∧ w.cell? ⟨g, 2, none⟩ = some z ∧ w.cell? ⟨g, 3, none⟩ = some u := by
  obtain ⟨ao, c, he, _, _, _, _, hc⟩ := h
  obtain ⟨rfl, rfl⟩ : some ⟨g, 0, none⟩ = ao ∧ cap = c := by simpa using he
  obtain ⟨a0, ha0, h0⟩ := hc 0 x rfl
  obtain ⟨a1, ha1, h1⟩ := hc 1 y rfl
  obtain ⟨a2, ha2, h2⟩ := hc 2 z rfl
  obtain ⟨a3, ha3, h3⟩ := hc 3 u rfl
  cases ha0; cases ha1; cases ha2; cases ha3
  exact ⟨h0, h1, h2, h3⟩
theorem ck_cases {cs : List Ck} (h1 : ∀ c ∈ cs, CkOk c) (h2 : Alt cs) {i : Nat} (hi : i < cs.length) {ck : Nat} {co ca cb : Tx} (hc : cs[i] = ⟨ck, co, ca, cb⟩) :
    co.length + ca.length + cb.length ≠ 0 ∧ ((ck = 1 ∧ decide (ca = co) = true ∧ decide (cb = co) = true ∧ i = 0) ∨ (ck = 1 ∧ decide (ca = co) = true ∧ decide (cb = co) = true ∧ ∃ (p : Nat) (hp : p < cs.length), i = p + 1 ∧ cs[p].k ≠ 1) ∨
      (ck = 2 ∧ decide (cb = co) = true) ∨ (ck = 3 ∧ decide (cb = co) = false ∧ decide (ca = co) = true) ∨ (ck = 4 ∧ decide (ca = co) = false ∧ decide (ca = cb) = true) ∨ (ck = 5 ∧ decide (cb = co) = false ∧ decide (ca = co) = false ∧ decide (ca = cb) = false)) := by
  have hok := h1 _ (List.getElem_mem hi)
  have halt : ∀ p, i = p + 1 → ∃ hp : p < cs.length, cs[p].k ≠ 1 ∨ cs[i].k ≠ 1 := fun p hp => by
    subst hp
    exact ⟨by omega, alt_get hi h2⟩
  rw [hc] at hok
  refine ⟨hok.1, ?_⟩
  rcases hok.2 with ⟨k1, k2, k3⟩ | k
  · replace k1 : ck = 1 := k1
    replace k2 : ca = co := k2
    replace k3 : cb = co := k3
    cases i with
    | zero => exact .inl ⟨k1, decide_eq_true k2, decide_eq_true k3, rfl⟩
    | succ p =>
      obtain ⟨hp, h⟩ := halt p rfl
      rw [hc] at h
      refine .inr (.inl ⟨k1, decide_eq_true k2, decide_eq_true k3, p, hp, rfl, ?_⟩)
      rcases h with h | h
      · exact h
      · exact absurd k1 h
  · replace k : ck = kin co ca cb := k
    unfold kin at k
    split at k
    · rename_i h; exact .inr (.inr (.inl ⟨k, decide_eq_true h⟩))
    · rename_i h
      split at k
      · rename_i h'; exact .inr (.inr (.inr (.inl ⟨k, decide_eq_false h, decide_eq_true h'⟩)))
      · rename_i h'
        split at k
        · rename_i h''; exact .inr (.inr (.inr (.inr (.inl ⟨k, decide_eq_false h', decide_eq_true h''⟩))))
        · rename_i h''; exact .inr (.inr (.inr (.inr (.inr ⟨k, decide_eq_false h, decide_eq_false h', decide_eq_false h''⟩))))
end Go.Mx
namespace Go.Proofs.YtafmgclhgmhflaaDoor
open Go.RowKit Go.Mx
set_option maxRecDepth 100000 in
set_option maxHeartbeats 8000000 in
theorem diff3Whole_any (w : World) (vo va vb : Value) (o a b : List ByteArray) (ho : Sl w 1 vo o.length (ss o)) (ha : Sl w 1 va a.length (ss a)) (hb : Sl w 1 vb b.length (ss b)) :
    Calls Tryd.prog 5 #[vo, va, vb] w fun e w' => e = .returned (.bool true) ∧ Below w.heap.size w w' := by
  have HO := Mx.hid ho
  have HA := Mx.hid ha
  have HB := Mx.hid hb
  obtain ⟨o1, o2, rfl, _⟩ := ho
  obtain ⟨a1, a2, rfl, _⟩ := ha
  obtain ⟨b1, b2, rfl, _⟩ := hb
  go_enter Tryd.func5, Tryd.ntmps5
  go_wp2_with fail
  refine (first_any _).mono ?_
  rintro e w1 ⟨rfl, hs1⟩
  go_wp2_with fail
  refine (few_any _ o _ (hs1.old HO.out)).mono ?_
  rintro e w' ⟨⟨ba, rfl, fa⟩, rfl⟩
  cases ba with
  | false =>
    clear fa
    go_wp2_with (first | ((with_reducible show wpList _ _ _ _ _ _); refine wpl_want rfl ?_) | (go_at_call 9; refine (first_any _).mono ?_; rintro e w2 ⟨rfl, hs2⟩))
    go_ret
    exact ⟨rfl, (hs1.call0 hs2).below⟩
  | true =>
  have lo := fa rfl
  clear fa
  go_wp2_with (first | ((with_reducible show wpList _ _ _ _ _ _); refine wpl_want rfl ?_))
  refine (few_any _ a _ (hs1.old HA.out)).mono ?_
  rintro e w' ⟨⟨ba, rfl, fa⟩, rfl⟩
  cases ba with
  | false =>
    clear fa
    go_wp2_with (first | ((with_reducible show wpList _ _ _ _ _ _); refine wpl_want rfl ?_) | (go_at_call 9; refine (first_any _).mono ?_; rintro e w2 ⟨rfl, hs2⟩))
    go_ret
    exact ⟨rfl, (hs1.call0 hs2).below⟩
  | true =>
  have la := fa rfl
  clear fa
  go_wp2_with (first | ((with_reducible show wpList _ _ _ _ _ _); refine wpl_want rfl ?_))
  refine (few_any _ b _ (hs1.old HB.out)).mono ?_
  rintro e w' ⟨⟨ba, rfl, fa⟩, rfl⟩
  cases ba with
  | false =>
    clear fa
    go_wp2_with (first | ((with_reducible show wpList _ _ _ _ _ _); refine wpl_want rfl ?_) | (go_at_call 9; refine (first_any _).mono ?_; rintro e w2 ⟨rfl, hs2⟩))
    go_ret
    exact ⟨rfl, (hs1.call0 hs2).below⟩
  | true =>
  have lb := fa rfl
  clear fa
  go_wp2_with (first | ((with_reducible show wpList _ _ _ _ _ _); refine wpl_want rfl ?_))
  refine (chunks_any _ _ _ o a b _ (hs1.old HO.out) (hs1.old HA.out) (hs1.old HB.out)).mono ?_
  rintro e w2 ⟨vl, he, hs2, hl⟩
  replace hs2 := hs1.call0 hs2
  clear hs1
  by_cases hbig : 200 < o.length ∨ 200 < a.length ∨ 200 < b.length
  · have hE : chE o a b = 14 := if_pos hbig
    rw [hE] at he
    subst he
    clear hE hl
    have hb' : 200 < o.length ∨ (o.length ≤ 200 ∧ 200 < a.length) ∨ (o.length ≤ 200 ∧ a.length ≤ 200 ∧ 200 < b.length) := by omega
    clear hbig
    rcases hb' with g | ⟨g, g2⟩ | ⟨g, g2, g3⟩
    · have d1 : decide ((200 : Int) < (o.length : Int)) = true := decide_eq_true (by omega)
      go_wp2_with (first | ((with_reducible show wpList _ _ _ _ _ _); refine wpl_want rfl ?_) | (go_at_call 9; refine (first_any _).mono ?_; rintro e w3 ⟨rfl, hs3⟩))
      go_ret
      exact ⟨rfl, (hs2.call0 hs3).below⟩
    · have d1 : decide ((200 : Int) < (o.length : Int)) = false := decide_eq_false (by omega)
      have d2 : decide ((200 : Int) < (a.length : Int)) = true := decide_eq_true (by omega)
      go_wp2_with (first | ((with_reducible show wpList _ _ _ _ _ _); refine wpl_want rfl ?_) | (go_at_call 9; refine (first_any _).mono ?_; rintro e w3 ⟨rfl, hs3⟩))
      go_ret
      exact ⟨rfl, (hs2.call0 hs3).below⟩
    · have d1 : decide ((200 : Int) < (o.length : Int)) = false := decide_eq_false (by omega)
      have d2 : decide ((200 : Int) < (a.length : Int)) = false := decide_eq_false (by omega)
      have d3 : decide ((200 : Int) < (b.length : Int)) = true := decide_eq_true (by omega)
      go_wp2_with (first | ((with_reducible show wpList _ _ _ _ _ _); refine wpl_want rfl ?_) | (go_at_call 9; refine (first_any _).mono ?_; rintro e w3 ⟨rfl, hs3⟩))
      go_ret
      exact ⟨rfl, (hs2.call0 hs3).below⟩
  · have hE : chE o a b = 0 := if_neg hbig
    have hC : chC o a b = chk o a b := if_neg hbig
    rw [hE] at he
    rw [hC] at hl
    subst he
    obtain ⟨k1, k2⟩ := chk_ok o a b
    obtain ⟨f1, f2, f3⟩ := chk_flat o a b
    generalize chk o a b = cs at *
    have HK1 := Mx.hid k1
    have HK2 := Mx.hid k2
    have HF1 := Mx.hid f1
    have HF2 := Mx.hid f2
    have HF3 := Mx.hid f3
    clear hE hC hbig k1 k2 f1 f2 f3
    obtain ⟨ac, cc, bc, oc, us, rfl, u1, u2, hc, hd⟩ := hl.at
    have HC := Mx.hid hc
    have HD := Mx.hid hd
    have HS2 := Mx.hid hs2
    clear hc hd hl hs2
    go_wp2_with fail
    go_loopw [9, 10, 11, 12] (fun x y z c wr => ∃ i : Nat, i ≤ cs.length ∧ c = .int .i64 i ∧ St w2 wr [⟨x, 9, 1, (fo cs i).length, ss (fo cs i)⟩, ⟨y, 9, 1, (fa cs i).length, ss (fa cs i)⟩, ⟨z, 9, 1, (fb cs i).length, ss (fb cs i)⟩] []) (fun _ _ _ c _ => cs.length - (intOf c).toNat)
    case atStart => exact ⟨0, by omega, rfl, ((St.nil w2 _ _).addNil _ _).addNil _ _⟩
    case round =>
      obtain ⟨i, hi, rfl, hs⟩ := hrel
      by_cases hlt : i < cs.length
      · obtain ⟨rfl, c1, c2, c3, c4⟩ := HC.out i hlt
        obtain ⟨⟨z1, y1, e1, _⟩, ⟨z2, y2, e2, _⟩, ⟨z3, y3, e3, _⟩⟩ := HD.out i hlt
        obtain ⟨D1, D2, D3⟩ := HD.out i hlt
        rw [e1] at c2 D1
        rw [e2] at c3 D2
        rw [e3] at c4 D3
        replace c1 := hs.keep c1
        replace c2 := hs.keep c2
        replace c3 := hs.keep c3
        replace c4 := hs.keep c4
        have hii : (i : Int) < (cs.length : Int) := by omega
        have s1 := fo_succ hlt
        have s2 := fa_succ hlt
        have s3 := fb_succ hlt
        have l1 := fo_le cs (i + 1)
        have l2 := fa_le cs (i + 1)
        have l3 := fb_le cs (i + 1)
        rw [HF1.out, s1, List.length_append] at l1
        rw [HF2.out, s2, List.length_append] at l2
        rw [HF3.out, s3, List.length_append] at l3
        have hcas := fun ck co ca cb h => ck_cases HK1.out HK2.out hlt (ck := ck) (co := co) (ca := ca) (cb := cb) h
        generalize hcq : cs[i] = c at *
        obtain ⟨ck, co, ca, cb⟩ := c
        obtain ⟨hne, hcases⟩ := hcas ck co ca cb rfl
        simp only [] at c1 c2 c3 c4 D1 D2 D3 s1 s2 s3 l1 l2 l3
        have S1 := Mx.hid s1
        have S2 := Mx.hid s2
        have S3 := Mx.hid s3
        have HD1 := Mx.hid D1
        have HD2 := Mx.hid D2
        have HD3 := Mx.hid D3
        have hsum : (((co.length : Int) + (ca.length : Int) + (cb.length : Int)) == 0) = false := by rw [beq_eq_false_iff_ne]; omega
        have hcas := Mx.hid hcases
        clear e1 e2 e3 D1 D2 D3 s1 s2 s3 hcq hne hcases
        have hsp := (hs.madeAt #[.int .i64 (ck : Int), .slice z1 co.length y1, .slice z2 ca.length y2, .slice z3 cb.length y3] 42 4 1 wr.heap.size rfl (by simp [maxLen]) rfl).freeze
        go_wp2_with fail
        generalize wr.alloc (Obj.cells #[Value.int IntKind.i64 (ck : Int), Value.slice z1 co.length y1, Value.slice z2 ca.length y2, Value.slice z3 cb.length y3] 42) = W at hsp ⊢
        generalize wr.heap.size = g at hsp ⊢
        clear hs c1 c2 c3 c4
        have hsd := hsp.drew
        clear hsp
        go_region_held3 (fun W' => W'.cell? ⟨g, 1, none⟩ = some (.slice z1 co.length y1) ∧ W'.cell? ⟨g, 2, none⟩ = some (.slice z2 ca.length y2) ∧ W'.cell? ⟨g, 3, none⟩ = some (.slice z3 cb.length y3)) (first | exact (Sl.four hC.q0).2 | exact (Sl.four hB.q0).2 | exact (Sl.four hA.q0).2 | exact (Sl.four hsd.q0).2) (first
          | (refine step_app rfl _ _ 22 rfl Tryd.elStr (by exact hsd) rfl (by exact hsd.old HD1.out) (ss_one _) (by omega) ?_; intro vX wA hA0 _; have hA := hA0.rot)
          | (refine step_app rfl _ _ 22 rfl Tryd.elStr (by exact hA) rfl (by exact hA.old HD2.out) (ss_one _) (by omega) ?_; intro vY wB hB0 _; have hB := hB0.rot)
          | (refine step_app rfl _ _ 22 rfl Tryd.elStr (by exact hB) rfl (by exact hB.old HD3.out) (ss_one _) (by omega) ?_; intro vZ wC hC0 _; have hC := hC0.rot))
        obtain ⟨y0, y5, y6, y7⟩ := Sl.four hC.q0
        have X1 := Mx.hid (fun n => texts_q (.slice z2 ca.length y2) (.slice z1 co.length y1) ca co (wC.drewN n) ((hC.drewN n).old HD2.out) ((hC.drewN n).old HD1.out))
        have X2 := Mx.hid (fun n => texts_q (.slice z3 cb.length y3) (.slice z1 co.length y1) cb co (wC.drewN n) ((hC.drewN n).old HD3.out) ((hC.drewN n).old HD1.out))
        have X3 := Mx.hid (fun n => texts_q (.slice z2 ca.length y2) (.slice z3 cb.length y3) ca cb (wC.drewN n) ((hC.drewN n).old HD2.out) ((hC.drewN n).old HD3.out))
        have HCC : Hid (∀ n, St w2 (wC.drewN n) [⟨vX, 9, 1, (fo cs (i + 1)).length, ss (fo cs (i + 1))⟩, ⟨vY, 9, 1, (fa cs (i + 1)).length, ss (fa cs (i + 1))⟩, ⟨vZ, 9, 1, (fb cs (i + 1)).length, ss (fb cs (i + 1))⟩] []) := fun n => by
          have h := (hC.drewN n).noQ
          rw [S1.out, S2.out, S3.out, ss_app, ss_app, ss_app, List.length_append, List.length_append, List.length_append]
          exact h
        have hcur : St w2 wC [] [] := hC.bare.noQ
        have HCUR := Mx.hid hcur
        clear hcur hC hA hB hsd hA0 hB0 hC0
        rcases hcas.out with ⟨rfl, r1, r2, hi0⟩ | ⟨rfl, r1, r2, p, hp, hip, hpk⟩ | ⟨rfl, r2⟩ | ⟨rfl, r2, r1⟩ | ⟨rfl, r1, r3⟩ | ⟨rfl, r2, r1, r3⟩
        · rw [r1] at X1
          rw [r2] at X2
          have g1 : ((i : Int) == 0) = true := by rw [hi0]; rfl
          clear r1 r2 hi0 hcas
          go_wp2_with fail
          go_quiet ((go_at_call 15; first | ((with_reducible show Calls _ _ #[Value.slice z2 _ _, Value.slice z1 _ _] _ _); exact Calls.quiet_of (X1.out _)) | ((with_reducible show Calls _ _ #[Value.slice z3 _ _, Value.slice z1 _ _] _ _); exact Calls.quiet_of (X2.out _)) | ((with_reducible show Calls _ _ #[Value.slice z2 _ _, Value.slice z3 _ _] _ _); exact Calls.quiet_of (X3.out _))))
          go_wp2_with (first | ((with_reducible show wpList _ _ _ _ _ _); refine wpl_want rfl ?_))
          go_roundw
          case rel => exact ⟨i + 1, by omega, by go_num, HCC.out _⟩
          case measure => simp [intOf]; omega
        · rw [r1] at X1
          rw [r2] at X2
          have g1 : ((i : Int) == 0) = false := by rw [beq_eq_false_iff_ne]; omega
          have hi1 : 1 ≤ i := by omega
          obtain ⟨_, cp, _⟩ := HC.out p hp
          have hpp : p = i - 1 := by omega
          have g2 : ((cs[p].k : Int) != 1) = true := by rw [bne_iff_ne]; omega
          generalize cs[p].k = pk at cp g2
          rw [hpp] at cp
          replace cp := HCUR.out.keep cp
          clear r1 r2 hip hpk hpp hcas
          go_wp2_with fail
          go_quiet ((go_at_call 15; first | ((with_reducible show Calls _ _ #[Value.slice z2 _ _, Value.slice z1 _ _] _ _); exact Calls.quiet_of (X1.out _)) | ((with_reducible show Calls _ _ #[Value.slice z3 _ _, Value.slice z1 _ _] _ _); exact Calls.quiet_of (X2.out _)) | ((with_reducible show Calls _ _ #[Value.slice z2 _ _, Value.slice z3 _ _] _ _); exact Calls.quiet_of (X3.out _))))
          go_wp2_with (first | ((with_reducible show wpList _ _ _ _ _ _); refine wpl_want rfl ?_))
          go_roundw
          case rel => exact ⟨i + 1, by omega, by go_num, HCC.out _⟩
          case measure => simp [intOf]; omega
        · rw [r2] at X2
          clear r2 hcas
          go_wp2_with fail
          go_quiet ((go_at_call 15; first | ((with_reducible show Calls _ _ #[Value.slice z2 _ _, Value.slice z1 _ _] _ _); exact Calls.quiet_of (X1.out _)) | ((with_reducible show Calls _ _ #[Value.slice z3 _ _, Value.slice z1 _ _] _ _); exact Calls.quiet_of (X2.out _)) | ((with_reducible show Calls _ _ #[Value.slice z2 _ _, Value.slice z3 _ _] _ _); exact Calls.quiet_of (X3.out _))))
          go_wp2_with (first | ((with_reducible show wpList _ _ _ _ _ _); refine wpl_want rfl ?_))
          go_roundw
          case rel => exact ⟨i + 1, by omega, by go_num, HCC.out _⟩
          case measure => simp [intOf]; omega
        · rw [r1] at X1
          rw [r2] at X2
          clear r1 r2 hcas
          go_wp2_with fail
          go_quiet ((go_at_call 15; first | ((with_reducible show Calls _ _ #[Value.slice z2 _ _, Value.slice z1 _ _] _ _); exact Calls.quiet_of (X1.out _)) | ((with_reducible show Calls _ _ #[Value.slice z3 _ _, Value.slice z1 _ _] _ _); exact Calls.quiet_of (X2.out _)) | ((with_reducible show Calls _ _ #[Value.slice z2 _ _, Value.slice z3 _ _] _ _); exact Calls.quiet_of (X3.out _))))
          go_wp2_with (first | ((with_reducible show wpList _ _ _ _ _ _); refine wpl_want rfl ?_))
          go_roundw
          case rel => exact ⟨i + 1, by omega, by go_num, HCC.out _⟩
          case measure => simp [intOf]; omega
        · rw [r1] at X1
          rw [r3] at X3
          clear r1 r3 hcas
          go_wp2_with fail
          go_quiet ((go_at_call 15; first | ((with_reducible show Calls _ _ #[Value.slice z2 _ _, Value.slice z1 _ _] _ _); exact Calls.quiet_of (X1.out _)) | ((with_reducible show Calls _ _ #[Value.slice z3 _ _, Value.slice z1 _ _] _ _); exact Calls.quiet_of (X2.out _)) | ((with_reducible show Calls _ _ #[Value.slice z2 _ _, Value.slice z3 _ _] _ _); exact Calls.quiet_of (X3.out _))))
          go_wp2_with (first | ((with_reducible show wpList _ _ _ _ _ _); refine wpl_want rfl ?_))
          go_roundw
          case rel => exact ⟨i + 1, by omega, by go_num, HCC.out _⟩
          case measure => simp [intOf]; omega
        · rw [r1] at X1
          rw [r2] at X2
          rw [r3] at X3
          clear r1 r2 r3 hcas
          go_wp2_with fail
          go_quiet ((go_at_call 15; first | ((with_reducible show Calls _ _ #[Value.slice z2 _ _, Value.slice z1 _ _] _ _); exact Calls.quiet_of (X1.out _)) | ((with_reducible show Calls _ _ #[Value.slice z3 _ _, Value.slice z1 _ _] _ _); exact Calls.quiet_of (X2.out _)) | ((with_reducible show Calls _ _ #[Value.slice z2 _ _, Value.slice z3 _ _] _ _); exact Calls.quiet_of (X3.out _))))
          go_wp2_with (first | ((with_reducible show wpList _ _ _ _ _ _); refine wpl_want rfl ?_))
          go_roundw
          case rel => exact ⟨i + 1, by omega, by go_num, HCC.out _⟩
          case measure => simp [intOf]; omega
      · have hin : i = cs.length := by omega
        have f1 : fo cs i = o := by unfold fo; rw [hin, List.take_length]; exact HF1.out
        have f2 : fa cs i = a := by unfold fa; rw [hin, List.take_length]; exact HF2.out
        have f3 : fb cs i = b := by unfold fb; rw [hin, List.take_length]; exact HF3.out
        rw [f1, f2, f3] at hs
        clear f1 f2 f3 hin
        go_wp2_with fail
        refine (first_any _).mono ?_
        rintro e w5 ⟨rfl, hs5⟩
        replace hs5 := hs.call0 hs5
        have hs6 := HS2.out.call0 hs5.bare
        go_wp2_with (first | ((with_reducible show wpList _ _ _ _ _ _); refine wpl_want rfl ?_))
        refine (texts_same _ _ o o _ hs5.sl0 (hs6.old HO.out) rfl).mono ?_
        rintro e w6 ⟨rfl, hs7⟩
        replace hs7 := hs5.call0 hs7
        have hs8 := HS2.out.call0 hs7.bare
        go_wp2_with (first | ((with_reducible show wpList _ _ _ _ _ _); refine wpl_want rfl ?_))
        refine (texts_same _ _ a a _ hs7.sl1 (hs8.old HA.out) rfl).mono ?_
        rintro e w7 ⟨rfl, hs9⟩
        replace hs9 := hs7.call0 hs9
        have hsA := HS2.out.call0 hs9.bare
        go_wp2_with (first | ((with_reducible show wpList _ _ _ _ _ _); refine wpl_want rfl ?_))
        refine (texts_same _ _ b b _ hs9.sl2 (hsA.old HB.out) rfl).mono ?_
        rintro e w8 ⟨rfl, hsB⟩
        go_wp2_with (first | ((with_reducible show wpList _ _ _ _ _ _); refine wpl_want rfl ?_))
        go_ret
        exact ⟨rfl, (hsA.call0 hsB).below⟩

theorem diff3WholeRow (vo : Value) (o : List ByteArray) {w : World} (ho : Sl w 1 vo o.length (ss o)) (_lo : ∀ s ∈ o, s.size ≤ maxLen) (va : Value) (a : List ByteArray) (ha : Sl w 1 va a.length (ss a)) (_la : ∀ s ∈ a, s.size ≤ maxLen) (vb : Value) (b : List ByteArray) (hb : Sl w 1 vb b.length (ss b)) (_lb : ∀ s ∈ b, s.size ≤ maxLen) (_w : World) :
    Calls Tryd.prog 5 #[vo, va, vb] w fun e w' => e = .returned (.bool true) ∧ Below w.heap.size w w' := diff3Whole_any w vo va vb o a b ho ha hb
end Go.Proofs.YtafmgclhgmhflaaDoor
