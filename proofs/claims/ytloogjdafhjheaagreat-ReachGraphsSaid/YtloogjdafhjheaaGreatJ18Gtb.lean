/- Walk of slices' insertionSort (stable sort) over a slice of strings that the call's owner holds. Plain: one element's way up or down; the two halves of a merge by rotation. -/
import Derived.Test.YtloogjdafhjheaaGreatJ17Sta
import Derived.Test.YtloogjdafhjheaaGreatJ16SrtG
namespace Go.Mx
open Go Go.RowKit
/-- One on its way down: j's is no greater than those behind it. -/
structure Ins (f : ByteArray → Int) (l : List ByteArray) (a j i : Nat) : Prop where
  lo : Rise f l a j
  hi : Rise f l j (i + 1)
  cross : ∀ x y, a ≤ x → x < j → j < y → y < i + 1 → f (gv l x) ≤ f (gv l y)
theorem Ins.start {f : ByteArray → Int} {l : List ByteArray} {a i : Nat} (h : Rise f l a i) : Ins f l a i i := ⟨h, fun _ _ _ _ _ => by omega, fun _ _ _ _ _ _ => by omega⟩
theorem ins_done {f : ByteArray → Int} {l : List ByteArray} {a j i : Nat} (h : Ins f l a j i) (hd : j = a ∨ f (gv l (j - 1)) ≤ f (gv l j)) : Rise f l a (i + 1) := by
  intro x y hx hxy hy
  by_cases h1 : j ≤ x
  · exact h.hi x y h1 hxy hy
  · by_cases h2 : y < j
    · exact h.lo x y hx hxy h2
    · by_cases h3 : y = j
      · subst h3
        have q : f (gv l (y - 1)) ≤ f (gv l y) := by omega
        by_cases h4 : x = y - 1
        · rw [h4]; exact q
        · have := h.lo x (y - 1) hx (by omega) (by omega); omega
      · exact h.cross x y hx (by omega) (by omega) hy
theorem rot1 (k i : Nat) : rotI k (k + 1) (k + 2) i = if i = k then k + 1 else if i = k + 1 then k else i := by
  unfold rotI
  (repeat' split) <;> omega
theorem ins_step {f : ByteArray → Int} {l l3 : List ByteArray} {a k i : Nat} (h : Ins f l a (k + 1) i) (hk : a ≤ k) (hK : f (gv l (k + 1)) < f (gv l k)) (hr : Rot l l3 k (k + 1) (k + 2)) : Ins f l3 a k i := by
  have e1 : ∀ x, x < k → gv l3 x = gv l x := fun x hx => by rw [hr.at', rot1, if_neg (by omega), if_neg (by omega)]
  have e2 : gv l3 k = gv l (k + 1) := by rw [hr.at', rot1, if_pos rfl]
  have e3 : gv l3 (k + 1) = gv l k := by rw [hr.at', rot1, if_neg (by omega), if_pos rfl]
  have e4 : ∀ x, k + 1 < x → gv l3 x = gv l x := fun x hx => by rw [hr.at', rot1, if_neg (by omega), if_neg (by omega)]
  refine ⟨fun x y hx hxy hy => ?_, fun x y hx hxy hy => ?_, fun x y hx hxj hjy hy => ?_⟩
  · rw [e1 x (by omega), e1 y hy]; exact h.lo x y hx hxy (by omega)
  · by_cases h1 : x = k
    · subst h1
      rw [e2]
      by_cases h2 : y = x + 1
      · subst h2; rw [e3]; omega
      · rw [e4 y (by omega)]; exact h.hi (x + 1) y (by omega) (by omega) hy
    · by_cases h2 : x = k + 1
      · subst h2
        rw [e3, e4 y (by omega)]
        exact h.cross k y hk (by omega) (by omega) hy
      · rw [e4 x (by omega), e4 y (by omega)]; exact h.hi x y (by omega) hxy hy
  · rw [e1 x hxj]
    by_cases h2 : y = k + 1
    · subst h2; rw [e3]; exact h.lo x k hx (by omega) (by omega)
    · rw [e4 y (by omega)]; exact h.cross x y hx (by omega) (by omega) hy
theorem swp_up {l : List ByteArray} {k : Nat} (h : k + 1 < l.length) : Rot l ((l.set k (gv l (k + 1))).set (k + 1) (gv l k)) k (k + 1) (k + 2) := by
  have h1 := (Swp.zero l k (k + 1)).step (by omega) (by omega)
  have h2 := rot_even (m := k + 1) (i := 1) (l := l) (l2 := (l.set k (gv l (k + 1))).set (k + 1) (gv l k)) (by omega) h1
  exact h2
theorem swp_dn {l : List ByteArray} {k : Nat} (h : k + 1 < l.length) : Rot l ((l.set (k + 1) (gv l k)).set k (gv l (k + 1))) k (k + 1) (k + 2) := by
  rw [List.set_comm _ _ (show k + 1 ≠ k by omega)]
  exact swp_up h
theorem mov_dn {f : ByteArray → Int} {l l' l3 : List ByteArray} {a b k : Nat} (h : Mov f l l' a b) (ha : a ≤ k) (hb : k + 2 ≤ b) (hbl : b ≤ l'.length) (hK : f (gv l' (k + 1)) < f (gv l' k)) (hr : Rot l' l3 k (k + 1) (k + 2)) : Mov f l l3 a b :=
  h.trans (rot_mov hr (by omega) (by omega) (fun i j h1 h2 h3 h4 => by rw [show i = k by omega, show j = k + 1 by omega]; exact hK) (by omega)) ha hb
/-- The keys fit the machine's numbers. -/
def KB (f : ByteArray → Int) : Prop := ∀ x, -9223372036854775807 ≤ f x ∧ f x ≤ 0
end Go.Mx
namespace Go.Proofs.YtloogjdafhjheaaGreat
open Go.RowKit Go.Mx

/-- What the comparing function answers behind w0. -/
def CmpOK (w0 : World) (gp : Nat) (f : ByteArray → Int) : Prop := KB f ∧ ∀ (a b : ByteArray) (wx : World) (R : List Row) (Q : List Rd), St w0 wx R Q → Calls Tryz.prog 27 #[.string a, .string b, .pointer (some ⟨gp, 0, none⟩)] wx fun e w' => e = .returned (.int .i64 (f a - f b)) ∧ St wx w' [] []
def MovPost (w0 : World) (g N cap : Nat) (Q : List Rd) (f : ByteArray → Int) (l : List ByteArray) (a b : Nat) (e : Ending) (w' : World) : Prop := ∃ l', e = .returned (.tuple #[]) ∧ St w0 w' [srow g N cap l'] Q ∧ Mov f l l' a b ∧ Rise f l' a b

set_option maxHeartbeats 2000000 in
theorem insSort_any (w0 w : World) (g N cap gp : Nat) (Q : List Rd) (f : ByteArray → Int) (l : List ByteArray) (a b : Nat) (hc : CmpOK w0 gp f) (hs : St w0 w [srow g N cap l] Q) (hN : l.length = N) (hab : a ≤ b) (hb : b ≤ N) (hl : N ≤ 100000) :
    Calls Tryz.prog 68 #[.slice (some ⟨g, 0, none⟩) N cap, .int .i64 a, .int .i64 b, .func (Fn.func 27) #[] #[.pointer (some ⟨gp, 0, none⟩)]] w (MovPost w0 g N cap Q f l a b) := by
  have HN := Mx.hid hN
  have HKB := Mx.hid hc.1
  have HCM := Mx.hid hc.2
  have hcap : N ≤ cap := by
    obtain ⟨_, _, he, h1, _⟩ := hs.sl0.form
    cases he
    exact h1
  clear hN hc
  go_enter Tryz.func68, Tryz.ntmps68
  go_wp2_with fail
  go_loopw [8, 9] (fun x y wr => ∃ (i : Nat) (l' : List ByteArray), a + 1 ≤ i ∧ i ≤ b + 1 ∧ x = .int .i64 i ∧ Hid (Mov f l l' a b) ∧ Hid (∀ c, c ≤ i → c ≤ b → Rise f l' a c) ∧ St w0 wr [srow g N cap l'] Q) (fun x _ _ => b + 1 - (intOf x).toNat)
  case atStart => exact ⟨a + 1, l, by omega, by omega, by go_num, Mx.hid (Mov.refl f l a b), Mx.hid (fun c h1 h2 x y hx hxy hy => by omega), hs⟩
  case round =>
    clear hs
    obtain ⟨i, l', hai, hib, rfl, HM, HR, hs⟩ := hrel
    by_cases hlt : i < b
    · have hii : (i : Int) < (b : Int) := by omega
      have HI0 := Mx.hid (Ins.start (HR.out i (Nat.le_refl _) (by omega)))
      clear HR
      go_wp2_with fail
      go_loopw [9] (fun y wr => ∃ (j : Nat) (l2 : List ByteArray), a ≤ j ∧ j ≤ i ∧ y = .int .i64 j ∧ Hid (Mov f l l2 a b) ∧ Hid (Ins f l2 a j i) ∧ St w0 wr [srow g N cap l2] Q) (fun y _ => (intOf y).toNat)
      case atStart => exact ⟨i, l', by omega, by omega, rfl, HM, HI0, hs⟩
      case round =>
        clear hs HM HI0
        obtain ⟨j, l2, haj, hji, rfl, HM, HI, hs⟩ := hrel
        have HL := Mx.hid (HM.out.len.trans HN.out)
        by_cases hja : j = a
        · subst hja
          have hd : decide ((j : Int) < (j : Int)) = false := decide_eq_false (by omega)
          have HD := Mx.hid (ins_done HI.out (.inl rfl))
          go_wp2_with fail
          refine wp_region_C (fun W' => St w0 W' [srow g N cap l2] Q) (by kernel_rfl) (by kernel_rfl) (by exact hs.drew) ?_
          repeat ((first | (refine cq_y0 (v := ?_) (by with_reducible rfl) ?_ ?_; rotate_left 1; (focus (intro wq hq; (try dsimp only at hq); skip; go_simp; (first | done | with_reducible rfl | fail)))) | (refine cq_no (by go_simp; first | done | (intro h9; cases h9)) ?_) | (refine cq_yes (v := ?_) (by go_simp) ?_ ?_; rotate_left 1; (focus (intro wq hq; (try dsimp only at hq); skip; go_simp; (first | done | with_reducible rfl | fail))))); (try simp only [Act.put, List.setIfInBounds_toArray, List.set_cons_zero, List.set_cons_succ]))
          refine cq_nil ?_
          intro wq hq
          (try dsimp only at hq)
          go_wp2_with fail
          refine ⟨⟨i + 1, l2, by omega, by omega, by go_num, HM, Mx.hid (fun c h1 h2 x y hx hxy hy => HD.out x y hx hxy (by omega)), hq⟩, by simp [intOf]; omega⟩
        · obtain ⟨k, hk⟩ : ∃ k, j = k + 1 := ⟨j - 1, by omega⟩
          have hd : a < j := by omega
          have hw1 : IntKind.i64.wrap ((j : Int) - 1) = (k : Int) := by rw [IntWalk.i64_in _ (by omega)]; omega
          have hjN : (j : Int) < (N : Int) := by omega
          have hkN : (k : Int) < (N : Int) := by omega
          have HSX := Mx.hid (ss_gv (l := l2) (j := k) (by rw [HL.out]; omega))
          have HSY := Mx.hid (ss_gv (l := l2) (j := j) (by rw [HL.out]; omega))
          have HBD := Mx.hid (show a ≤ k ∧ k + 2 ≤ b ∧ k ≤ i ∧ j = k + 1 ∧ k < N ∧ j < N by omega)
          generalize hx : gv l2 k = x at *
          generalize hy : gv l2 j = y at *
          have HX := Mx.hid hx
          have HY := Mx.hid hy
          have HKX := HKB.out x
          have HKY := HKB.out y
          clear hx hy hja hk
          by_cases hlt : f y < f x
          · have hcmp : decide (f y - f x < 0) = true := decide_eq_true (by omega)
            have HLT := Mx.hid hlt
            clear hlt
            go_wp2_with fail
            refine wp_region_C (fun W' => St w0 W' [srow g N cap l2] Q) (by kernel_rfl) (by kernel_rfl) (by exact hs.drew) ?_
            repeat ((first | (refine cq_y0 (v := ?_) (by with_reducible rfl) ?_ ?_; rotate_left 1; (focus (intro wq hq; (try dsimp only at hq); (have y1 := hq.cell HSX.out; have y2 := hq.cell HSY.out); go_simp; (first | done | with_reducible rfl | (go_at_call 27; refine (HCM.out _ _ _ _ _ hq).mono ?_; rintro e w9 ⟨rfl, hk9⟩; refine ⟨?_, hq.call0 hk9⟩; with_reducible rfl))))) | (refine cq_no (by go_simp; first | done | (intro h9; cases h9)) ?_) | (refine cq_yes (v := ?_) (by go_simp) ?_ ?_; rotate_left 1; (focus (intro wq hq; (try dsimp only at hq); (have y1 := hq.cell HSX.out; have y2 := hq.cell HSY.out); go_simp; (first | done | with_reducible rfl | (go_at_call 27; refine (HCM.out _ _ _ _ _ hq).mono ?_; rintro e w9 ⟨rfl, hk9⟩; refine ⟨?_, hq.call0 hk9⟩; with_reducible rfl)))))); (try simp only [Act.put, List.setIfInBounds_toArray, List.set_cons_zero, List.set_cons_succ]))
            refine cq_nil ?_
            intro wq hq
            (try dsimp only at hq)
            clear hcmp
            have c1 := hq.drew.cell HSX.out
            have c2 := hq.drew.cell HSY.out
            go_wp2_with fail
            (refine wp_region_S (15) (fun W' => W'.cell? ⟨g, k, none⟩ = some (.string x) ∧ W'.cell? ⟨g, j, none⟩ = some (.string y)) (by kernel_rfl) ?_ (fun hHeld => ?_); (focus ((try dsimp only); go_keep)))
            (refine wpAnyS_takeW (i := 0) (v := ?_) rfl (by kernel_rfl) (by kernel_rfl) (by kernel_rfl) (by kernel_rfl) (fun _ _ _ h => h) (Or.inl ⟨by rfl, ?_⟩) hHeld ?_; rotate_left 1; (focus (intro w' hSw; go_simp; (try with_reducible rfl))); (try simp only [Act.put, List.setIfInBounds_toArray, List.set_cons_zero, List.set_cons_succ]))
            (refine wpAnyS_takeW (i := 1) (v := ?_) rfl (by kernel_rfl) (by kernel_rfl) (by kernel_rfl) (by kernel_rfl) (fun _ _ _ h => h) (Or.inl ⟨by rfl, ?_⟩) hHeld ?_; rotate_left 1; (focus (intro w' hSw; go_simp; (try with_reducible rfl))); (try simp only [Act.put, List.setIfInBounds_toArray, List.set_cons_zero, List.set_cons_succ]))
            (refine wpAnyS_takeW (i := 2) (v := ?_) rfl (by kernel_rfl) (by kernel_rfl) (by kernel_rfl) (by kernel_rfl) (fun _ _ _ h => h) (Or.inl ⟨by rfl, ?_⟩) hHeld ?_; rotate_left 1; (focus (intro w' hSw; go_simp; (try with_reducible rfl))); (try simp only [Act.put, List.setIfInBounds_toArray, List.set_cons_zero, List.set_cons_succ]))
            (refine wpAnyS_takeW (i := 3) (v := ?_) rfl (by kernel_rfl) (by kernel_rfl) (by kernel_rfl) (by kernel_rfl) (fun _ _ _ h => h) (Or.inl ⟨by rfl, ?_⟩) hHeld ?_; rotate_left 1; (focus (intro w' hSw; go_simp; (try with_reducible rfl))); (try simp only [Act.put, List.setIfInBounds_toArray, List.set_cons_zero, List.set_cons_succ]))
            (refine wpAnyS_takeW (i := 4) (v := ?_) rfl (by kernel_rfl) (by kernel_rfl) (by kernel_rfl) (by kernel_rfl) (fun _ _ _ h => h) (Or.inl ⟨by rfl, ?_⟩) hHeld ?_; rotate_left 1; (focus (intro w' hSw; go_simp; (try with_reducible rfl))); (try simp only [Act.put, List.setIfInBounds_toArray, List.set_cons_zero, List.set_cons_succ]))
            (refine wpAnyS_takeW (i := 5) (v := ?_) rfl (by kernel_rfl) (by kernel_rfl) (by kernel_rfl) (by kernel_rfl) (fun _ _ _ h => h) (Or.inl ⟨by rfl, ?_⟩) hHeld ?_; rotate_left 1; (focus (intro w' hSw; go_simp; (try with_reducible rfl))); (try simp only [Act.put, List.setIfInBounds_toArray, List.set_cons_zero, List.set_cons_succ]))
            (refine wpAnyS_takeW (i := 6) (v := ?_) rfl (by kernel_rfl) (by kernel_rfl) (by kernel_rfl) (by kernel_rfl) (fun _ _ _ h => h) (Or.inl ⟨by rfl, ?_⟩) hHeld ?_; rotate_left 1; (focus (intro w' hSw; go_simp; (try with_reducible rfl))); (try simp only [Act.put, List.setIfInBounds_toArray, List.set_cons_zero, List.set_cons_succ]))
            (refine wpAnyS_takeW (i := 7) (v := ?_) rfl (by kernel_rfl) (by kernel_rfl) (by kernel_rfl) (by kernel_rfl) (fun _ _ _ h => h) (Or.inl ⟨by rfl, ?_⟩) hHeld ?_; rotate_left 1; (focus (intro w' hSw; go_simp; (try with_reducible rfl))); (try simp only [Act.put, List.setIfInBounds_toArray, List.set_cons_zero, List.set_cons_succ]))
            (refine wpAnyS_takeW (i := 8) (v := ?_) rfl (by kernel_rfl) (by kernel_rfl) (by kernel_rfl) (by kernel_rfl) (fun _ _ _ h => h) (Or.inl ⟨by rfl, ?_⟩) hHeld ?_; rotate_left 1; (focus (intro w' hSw; go_simp; (try with_reducible rfl))); (try simp only [Act.put, List.setIfInBounds_toArray, List.set_cons_zero, List.set_cons_succ]))
            (refine wpAnyS_takeL (i := 9) (v := ?_) rfl (by kernel_rfl) (by kernel_rfl) (by kernel_rfl) (by kernel_rfl) (by kernel_rfl) (by kernel_rfl) (fun _ _ _ h => h) (Or.inl ⟨by rfl, ?_⟩) hHeld ?_; rotate_left 1; (focus (intro w' hSw; (try dsimp only at hSw); go_simp; (try with_reducible rfl))); (try simp only [Act.put, List.setIfInBounds_toArray, List.set_cons_zero, List.set_cons_succ]))
            (refine wpAnyS_takeW (i := 10) (v := ?_) rfl (by kernel_rfl) (by kernel_rfl) (by kernel_rfl) (by kernel_rfl) (fun _ _ _ h => h) (Or.inl ⟨by rfl, ?_⟩) hHeld ?_; rotate_left 1; (focus (intro w' hSw; go_simp; (try with_reducible rfl))); (try simp only [Act.put, List.setIfInBounds_toArray, List.set_cons_zero, List.set_cons_succ]))
            (refine wpAnyS_takeW (i := 11) (v := ?_) rfl (by kernel_rfl) (by kernel_rfl) (by kernel_rfl) (by kernel_rfl) (fun _ _ _ h => h) (Or.inl ⟨by rfl, ?_⟩) hHeld ?_; rotate_left 1; (focus (intro w' hSw; go_simp; (try with_reducible rfl))); (try simp only [Act.put, List.setIfInBounds_toArray, List.set_cons_zero, List.set_cons_succ]))
            (refine wpAnyS_takeW (i := 12) (v := ?_) rfl (by kernel_rfl) (by kernel_rfl) (by kernel_rfl) (by kernel_rfl) (fun _ _ _ h => h) (Or.inl ⟨by rfl, ?_⟩) hHeld ?_; rotate_left 1; (focus (intro w' hSw; go_simp; (try with_reducible rfl))); (try simp only [Act.put, List.setIfInBounds_toArray, List.set_cons_zero, List.set_cons_succ]))
            (refine wpAnyS_takeL (i := 13) (v := ?_) rfl (by kernel_rfl) (by kernel_rfl) (by kernel_rfl) (by kernel_rfl) (by kernel_rfl) (by kernel_rfl) (fun _ _ _ h => h) (Or.inl ⟨by rfl, ?_⟩) hHeld ?_; rotate_left 1; (focus (intro w' hSw; (try dsimp only at hSw); go_simp; (try with_reducible rfl))); (try simp only [Act.put, List.setIfInBounds_toArray, List.set_cons_zero, List.set_cons_succ]))
            (refine wpAnyS_takeW (i := 14) (v := ?_) rfl (by kernel_rfl) (by kernel_rfl) (by kernel_rfl) (by kernel_rfl) (fun _ _ _ h => h) (Or.inl ⟨by rfl, ?_⟩) hHeld ?_; rotate_left 1; (focus (intro w' hSw; go_simp; (try with_reducible rfl))); (try simp only [Act.put, List.setIfInBounds_toArray, List.set_cons_zero, List.set_cons_succ]))
            (refine wpAnyS_seq (by rfl) (by kernel_rfl) ?_; simp only [List.drop_succ_cons, List.drop_zero])
            clear c1 c2 hHeld hw1
            have HR := Mx.hid (show ∀ wz, St w0 wz [⟨.slice (some ⟨g, 0, none⟩) N cap, 9, 1, N, (ss l2).take j ++ [.string x] ++ (ss l2).drop (j + 1)⟩] Q → St w0 wz [srow g N cap (l2.set j x)] Q from fun wz h => h.cast rfl (ss_set (by rw [HL.out]; exact HBD.out.2.2.2.2.2)))
            have HR2 := Mx.hid (show ∀ wz, St w0 wz [⟨.slice (some ⟨g, 0, none⟩) N cap, 9, 1, N, (ss (l2.set j x)).take k ++ [.string y] ++ (ss (l2.set j x)).drop (k + 1)⟩] Q → St w0 wz [srow g N cap ((l2.set j x).set k y)] Q from fun wz h => h.cast rfl (ss_set (by rw [List.length_set, HL.out]; exact HBD.out.2.2.2.2.1)))
            have HPL := Mx.hid (show j < (ss l2).length by rw [ss_len, HL.out]; exact HBD.out.2.2.2.2.2)
            have HQL := Mx.hid (show k < (ss (l2.set j x)).length by rw [ss_len, List.length_set, HL.out]; exact HBD.out.2.2.2.2.1)
            go_wp2_with (first | (((with_reducible show wpList _ _ _ _ _ _); refine wpl_store1 rfl 9 _ _ rfl hq.drew (j) rfl (.string x) rfl rfl (by kernel_rfl) HPL.out rfl ?_; intro w1 hs1); replace hs1 := HR.out _ hs1) | (((with_reducible show wpList _ _ _ _ _ _); refine wpl_store1 rfl 9 _ _ rfl hs1 (k) rfl (.string y) rfl rfl (by kernel_rfl) HQL.out rfl ?_; intro w2 hs2); replace hs2 := HR2.out _ hs2))
            obtain ⟨b1, b2, b3, b4, b5, b6⟩ := HBD.out
            have hrot : Rot l2 ((l2.set j x).set k y) k (k + 1) (k + 2) := by
              rw [← HX.out, ← HY.out, b4]
              exact swp_dn (by rw [HL.out]; omega)
            have hkey : f (gv l2 (k + 1)) < f (gv l2 k) := by rw [← b4, HX.out, HY.out]; exact HLT.out
            refine ⟨⟨k, _, b1, b3, by go_num, Mx.hid (mov_dn HM.out b1 b2 (by rw [HL.out]; omega) hkey hrot), Mx.hid (ins_step (by rw [← b4]; exact HI.out) b1 hkey hrot), hs2⟩, by simp [intOf]; omega⟩
          · have hcmp : decide (f y - f x < 0) = false := decide_eq_false (by omega)
            have HD := Mx.hid (ins_done HI.out (.inr (by rw [HY.out, show j - 1 = k by have := HBD.out; omega, HX.out]; omega)))
            clear hlt
            go_wp2_with fail
            refine wp_region_C (fun W' => St w0 W' [srow g N cap l2] Q) (by kernel_rfl) (by kernel_rfl) (by exact hs.drew) ?_
            repeat ((first | (refine cq_y0 (v := ?_) (by with_reducible rfl) ?_ ?_; rotate_left 1; (focus (intro wq hq; (try dsimp only at hq); (have y1 := hq.cell HSX.out; have y2 := hq.cell HSY.out); go_simp; (first | done | with_reducible rfl | (go_at_call 27; refine (HCM.out _ _ _ _ _ hq).mono ?_; rintro e w9 ⟨rfl, hk9⟩; refine ⟨?_, hq.call0 hk9⟩; with_reducible rfl))))) | (refine cq_no (by go_simp; first | done | (intro h9; cases h9)) ?_) | (refine cq_yes (v := ?_) (by go_simp) ?_ ?_; rotate_left 1; (focus (intro wq hq; (try dsimp only at hq); (have y1 := hq.cell HSX.out; have y2 := hq.cell HSY.out); go_simp; (first | done | with_reducible rfl | (go_at_call 27; refine (HCM.out _ _ _ _ _ hq).mono ?_; rintro e w9 ⟨rfl, hk9⟩; refine ⟨?_, hq.call0 hk9⟩; with_reducible rfl)))))); (try simp only [Act.put, List.setIfInBounds_toArray, List.set_cons_zero, List.set_cons_succ]))
            refine cq_nil ?_
            intro wq hq
            (try dsimp only at hq)
            go_wp2_with fail
            refine ⟨⟨i + 1, l2, by omega, by omega, by go_num, HM, Mx.hid (fun c h1 h2 x y hx hxy hy => HD.out x y hx hxy (by omega)), hq⟩, by simp [intOf]; omega⟩
    · have hii : ¬ (i : Int) < (b : Int) := by omega
      go_wp2_with fail
      go_end0
      exact ⟨l', rfl, hs, HM.out, HR.out b (by omega) (Nat.le_refl _)⟩
end Go.Proofs.YtloogjdafhjheaaGreat

namespace Go.Mx
open Go Go.RowKit
theorem rot_id0 (l : List ByteArray) (s e : Nat) : Rot l l s s e := ⟨List.Perm.refl _, fun i => by unfold rotI; congr 1; (repeat' split) <;> omega⟩
theorem rot_id1 (l : List ByteArray) (s e : Nat) (h : s ≤ e) : Rot l l s e e := ⟨List.Perm.refl _, fun i => by unfold rotI; congr 1; (repeat' split) <;> omega⟩
theorem rot_up {l l1 l2 : List ByteArray} {a k : Nat} (hak : a ≤ k) (h : Rot l l1 a (a + 1) (k + 1)) (h2 : Rot l1 l2 k (k + 1) (k + 2)) : Rot l l2 a (a + 1) (k + 2) where
  perm := h2.perm.trans h.perm
  at' z := by
    rw [h2.at', h.at']
    congr 1
    unfold rotI
    (repeat' split) <;> omega
theorem rot_dn {l l1 l2 : List ByteArray} {m k : Nat} (hkm : k + 1 ≤ m) (h : Rot l l1 (k + 1) m (m + 1)) (h2 : Rot l1 l2 k (k + 1) (k + 2)) : Rot l l2 k m (m + 1) where
  perm := h2.perm.trans h.perm
  at' z := by
    rw [h2.at', h.at']
    congr 1
    unfold rotI
    (repeat' split) <;> omega
theorem one_up {f : ByteArray → Int} {l l' : List ByteArray} {a i b : Nat} (h : Rot l l' a (a + 1) i) (hai : a + 1 ≤ i) (hib : i ≤ b) (hbl : b ≤ l.length) (hr : Rise f l (a + 1) b) (h1 : ∀ x, a + 1 ≤ x → x < i → f (gv l x) < f (gv l a)) (h2 : ∀ x, i ≤ x → x < b → f (gv l a) ≤ f (gv l x)) : Mov f l l' a b ∧ Rise f l' a b := by
  constructor
  · refine (rot_mov h (by omega) hai (fun x y hx hx2 hy hy2 => ?_) (by omega)).wide (Nat.le_refl _) hib
    rw [show x = a by omega]
    exact h1 y hy hy2
  · have r2 : ∀ z, a ≤ z → z + 1 < i → rotI a (a + 1) i z = z + 1 := fun z hz h2 => by unfold rotI; (repeat' split) <;> omega
    have r3 : rotI a (a + 1) i (i - 1) = a := by unfold rotI; (repeat' split) <;> omega
    have r4 : ∀ z, i ≤ z → rotI a (a + 1) i z = z := fun z hz => by unfold rotI; (repeat' split) <;> omega
    intro x y hx hxy hy
    rw [h.at', h.at']
    by_cases c1 : x + 1 < i
    · rw [r2 x hx c1]
      by_cases c2 : y + 1 < i
      · rw [r2 y (by omega) c2]; exact hr _ _ (by omega) (by omega) (by omega)
      · by_cases c3 : y + 1 = i
        · rw [show y = i - 1 by omega, r3]; have := h1 (x + 1) (by omega) c1; omega
        · rw [r4 y (by omega)]; exact hr _ _ (by omega) (by omega) hy
    · by_cases c3 : x + 1 = i
      · rw [show x = i - 1 by omega, r3, r4 y (by omega)]; exact h2 y (by omega) hy
      · rw [r4 x (by omega), r4 y (by omega)]; exact hr _ _ (by omega) hxy hy
theorem one_dn {f : ByteArray → Int} {l l' : List ByteArray} {a i m : Nat} (h : Rot l l' i m (m + 1)) (hai : a ≤ i) (him : i ≤ m) (hml : m + 1 ≤ l.length) (hr : Rise f l a m) (h1 : ∀ x, a ≤ x → x < i → f (gv l x) ≤ f (gv l m)) (h2 : ∀ x, i ≤ x → x < m → f (gv l m) < f (gv l x)) : Mov f l l' a (m + 1) ∧ Rise f l' a (m + 1) := by
  constructor
  · refine (rot_mov h him (by omega) (fun x y hx hx2 hy hy2 => ?_) (by omega)).wide hai (Nat.le_refl _)
    rw [show y = m by omega]
    exact h2 x hx hx2
  · have r1 : ∀ z, z < i → rotI i m (m + 1) z = z := fun z hz => by unfold rotI; (repeat' split) <;> omega
    have r2 : rotI i m (m + 1) i = m := by unfold rotI; (repeat' split) <;> omega
    have r3 : ∀ z, i < z → z < m + 1 → rotI i m (m + 1) z = z - 1 := fun z hz hz2 => by unfold rotI; (repeat' split) <;> omega
    intro x y hx hxy hy
    rw [h.at', h.at']
    by_cases c1 : y < i
    · rw [r1 x (by omega), r1 y c1]; exact hr _ _ hx hxy (by omega)
    · by_cases c2 : y = i
      · rw [c2, r1 x (by omega), r2]; exact h1 x hx (by omega)
      · rw [r3 y (by omega) hy]
        by_cases c3 : x < i
        · rw [r1 x c3]
          by_cases c4 : x = y - 1
          · omega
          · exact hr _ _ hx (by omega) (by omega)
        · by_cases c4 : x = i
          · rw [c4, r2]; have := h2 (y - 1) (by omega) (by omega); omega
          · rw [r3 x (by omega) (by omega)]; exact hr _ _ (by omega) (by omega) (by omega)
/-- What the search of a merge's middle has found. -/
structure Mid (f : ByteArray → Int) (l : List ByteArray) (a m b s : Nat) : Prop where
  sa : a ≤ s
  sm : s ≤ m
  em : m ≤ (a + b) / 2 + m - s
  eb : (a + b) / 2 + m - s ≤ b
  A : s = a ∨ (a + b) / 2 + m - s = b ∨ f (gv l (s - 1)) ≤ f (gv l ((a + b) / 2 + m - s))
  B : s = m ∨ (a + b) / 2 + m - s = m ∨ f (gv l ((a + b) / 2 + m - s - 1)) < f (gv l s)
theorem mid_rise {f : ByteArray → Int} {l l1 : List ByteArray} {a m b s : Nat} (h : Mid f l a m b s) (hb : b ≤ l.length) (h1 : Rise f l a m) (h2 : Rise f l m b) (hr : Rot l l1 s m ((a + b) / 2 + m - s)) :
    Mov f l l1 a b ∧ Rise f l1 a s ∧ Rise f l1 s ((a + b) / 2) ∧ Rise f l1 ((a + b) / 2) ((a + b) / 2 + m - s) ∧ Rise f l1 ((a + b) / 2 + m - s) b ∧ Halves f l1 a ((a + b) / 2) b := by
  obtain ⟨sa, sm, em, eb, A, B⟩ := h
  obtain ⟨k1, k2, k3, k4, k5, k6⟩ := rot_rise hr sa sm em eb h1 h2 A B
  rw [show s + ((a + b) / 2 + m - s - m) = (a + b) / 2 by omega] at k2 k3 k5
  exact ⟨(rot_mov hr sm em k6 (by omega)).wide sa eb, k1, k2, k3, k4, k5⟩
/-- Behind the rotation and perhaps the lower half's merge. -/
structure Fin2 (f : ByteArray → Int) (l lx : List ByteArray) (a mid e b : Nat) : Prop where
  mov : Mov f l lx a b
  lo : Rise f lx a mid
  r1 : Rise f lx mid e
  r2 : Rise f lx e b
  hv : Halves f lx a mid b
theorem fin_rec1 {f : ByteArray → Int} {l l1 l2 : List ByteArray} {a mid e b : Nat} (h0 : Mov f l l1 a b) (k3 : Rise f l1 mid e) (k4 : Rise f l1 e b) (k5 : Halves f l1 a mid b) (hb : mid ≤ b) (he : mid ≤ e) (hm : Mov f l1 l2 a mid) (hr : Rise f l2 a mid) : Fin2 f l l2 a mid e b :=
  ⟨h0.trans hm (Nat.le_refl _) hb, hr, hm.rise k3 (.inr (Nat.le_refl _)), hm.rise k4 (.inr he), hm.halves k5 (.inl ⟨Nat.le_refl _, Nat.le_refl _⟩)⟩
theorem fin_end {f : ByteArray → Int} {l lx : List ByteArray} {a mid e b : Nat} (h : Fin2 f l lx a mid e b) (he : e = mid ∨ e = b) : Mov f l lx a b ∧ Rise f lx a b :=
  ⟨h.mov, rise_of h.lo (by rcases he with rfl | rfl; exact h.r2; exact h.r1) h.hv⟩
theorem fin_rec2 {f : ByteArray → Int} {l lx l3 : List ByteArray} {a mid e b : Nat} (h : Fin2 f l lx a mid e b) (ha : a ≤ mid) (hm : Mov f lx l3 mid b) (hr : Rise f l3 mid b) : Mov f l l3 a b ∧ Rise f l3 a b :=
  ⟨h.mov.trans hm ha (Nat.le_refl _), rise_of (hm.rise h.lo (.inl (Nat.le_refl _))) hr (hm.halves h.hv (.inr ⟨Nat.le_refl _, Nat.le_refl _⟩))⟩
end Go.Mx
