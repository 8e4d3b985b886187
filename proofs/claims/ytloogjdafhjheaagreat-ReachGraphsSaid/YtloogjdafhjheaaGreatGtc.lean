/- Walk of slices' symMerge (stable sort). -/
import Derived.Test.YtloogjdafhjheaaGreatJ18Gtb
namespace Go.Proofs.YtloogjdafhjheaaGreat
open Go.RowKit Go.Mx

def SymIH (w0 : World) (g N cap gp : Nat) (Q : List Rd) (f : ByteArray → Int) (d : Nat) : Prop := ∀ (w : World) (l : List ByteArray) (a m b : Nat), b - a ≤ d → St w0 w [srow g N cap l] Q → l.length = N → a < m → m < b → b ≤ N → Rise f l a m → Rise f l m b →
    Calls Tryz.prog 69 #[.slice (some ⟨g, 0, none⟩) N cap, .int .i64 a, .int .i64 m, .int .i64 b, .func (Fn.func 27) #[] #[.pointer (some ⟨gp, 0, none⟩)]] w (MovPost w0 g N cap Q f l a b)
set_option maxRecDepth 200000 in
set_option maxHeartbeats 4000000 in
theorem sym_step (w0 : World) (g N cap gp : Nat) (Q : List Rd) (f : ByteArray → Int) (hc : CmpOK w0 gp f) (hl : N ≤ 100000) (d : Nat) (hih : SymIH w0 g N cap gp Q f d) (w : World) (l : List ByteArray) (a m b : Nat) (hd : b - a ≤ d + 1) (hs : St w0 w [srow g N cap l] Q) (hN : l.length = N) (ham : a < m) (hmb : m < b) (hb : b ≤ N) (hr1 : Rise f l a m) (hr2 : Rise f l m b) :
    Calls Tryz.prog 69 #[.slice (some ⟨g, 0, none⟩) N cap, .int .i64 a, .int .i64 m, .int .i64 b, .func (Fn.func 27) #[] #[.pointer (some ⟨gp, 0, none⟩)]] w (MovPost w0 g N cap Q f l a b) := by
  have IH := Mx.hid hih
  have HN := Mx.hid hN
  have HKB := Mx.hid hc.1
  have HCM := Mx.hid hc.2
  have hcap : N ≤ cap := by
    obtain ⟨_, _, he, h1, _⟩ := hs.sl0.form
    cases he
    exact h1
  have HR1 := Mx.hid hr1
  have HR2 := Mx.hid hr2
  clear hN hc hr1 hr2 hih
  by_cases hm1 : m = a + 1
  · have hne1 : ((m : Int) - (a : Int) == 1) = true := by simp; omega
    have HM1 := Mx.hid hm1
    have haN : (a : Int) < (N : Int) := by omega
    have HSY := Mx.hid (ss_gv (l := l) (j := a) (by rw [HN.out]; omega))
    generalize hy : gv l a = y at HSY
    have HY := Mx.hid hy
    have HKY := HKB.out y
    clear hy hm1
    go_enter Tryz.func69, Tryz.ntmps69
    go_wp2_with fail
    go_loopw [10, 11, 12] (fun u v _ wr => ∃ i j : Nat, m ≤ i ∧ i ≤ j ∧ j ≤ b ∧ u = .int .i64 i ∧ v = .int .i64 j ∧ Hid (∀ x, m ≤ x → x < i → f (gv l x) < f y) ∧ Hid (∀ x, j ≤ x → x < b → f y ≤ f (gv l x)) ∧ St w0 wr [srow g N cap l] Q) (fun u v _ _ => (intOf v).toNat - (intOf u).toNat)
    case atStart => exact ⟨m, b, Nat.le_refl _, by omega, Nat.le_refl _, rfl, rfl, Mx.hid (fun x h1 h2 => by omega), Mx.hid (fun x h1 h2 => by omega), hs⟩
    case round =>
      clear hs
      obtain ⟨i, j, hmi, hij, hjb, rfl, rfl, HA, HB, hs⟩ := hrel
      by_cases hlt : i < j
      · obtain ⟨c, hc⟩ : ∃ c, c = (i + j) / 2 := ⟨_, rfl⟩
        have hci : ((i : Int) + (j : Int)) / 2 = (c : Int) := by omega
        have HCB := Mx.hid (show i ≤ c ∧ c < j ∧ m ≤ c ∧ c < b by omega)
        have hcN : (c : Int) < (N : Int) := by omega
        have HSX := Mx.hid (ss_gv (l := l) (j := c) (by rw [HN.out]; omega))
        generalize hx : gv l c = x at HSX
        have HX := Mx.hid hx
        have HKX := HKB.out x
        clear hx hc
        by_cases hlt2 : f x < f y
        · have hcmp : decide (f x - f y < 0) = true := decide_eq_true (by omega)
          have HLT := Mx.hid hlt2
          clear hlt2
          go_wp2_with fail
          refine wp_region_C (fun W' => St w0 W' [srow g N cap l] Q) (by kernel_rfl) (by kernel_rfl) (by exact hs.drew) ?_
          repeat ((first | (refine cq_y0 (v := ?_) (by with_reducible rfl) ?_ ?_; rotate_left 1; (focus (intro wq hq; (try dsimp only at hq); (have y1 := hq.cell HSX.out; have y2 := hq.cell HSY.out); go_simp; (first | done | with_reducible rfl | (go_at_call 27; refine (HCM.out _ _ _ _ _ hq).mono ?_; rintro e w9 ⟨rfl, hk9⟩; refine ⟨?_, hq.call0 hk9⟩; with_reducible rfl))))) | (refine cq_no (by go_simp; first | done | (intro h9; cases h9)) ?_) | (refine cq_yes (v := ?_) (by go_simp) ?_ ?_; rotate_left 1; (focus (intro wq hq; (try dsimp only at hq); (have y1 := hq.cell HSX.out; have y2 := hq.cell HSY.out); go_simp; (first | done | with_reducible rfl | (go_at_call 27; refine (HCM.out _ _ _ _ _ hq).mono ?_; rintro e w9 ⟨rfl, hk9⟩; refine ⟨?_, hq.call0 hk9⟩; with_reducible rfl)))))); (try simp only [Act.put, List.setIfInBounds_toArray, List.set_cons_zero, List.set_cons_succ]))
          refine cq_nil ?_
          intro wq hq
          (try dsimp only at hq)
          go_wp2_with fail
          have hcb := HCB.out
          refine ⟨⟨c + 1, j, by omega, by omega, hjb, by go_num, rfl, Mx.hid (fun z h1 h2 => ?_), HB, hq⟩, by simp [intOf]; omega⟩
          have hl9 := HLT.out
          by_cases hz : z = c
          · rw [hz, HX.out]; exact hl9
          · have := HR2.out z c h1 (by omega) hcb.2.2.2; rw [HX.out] at this; omega
        · have hcmp : decide (f x - f y < 0) = false := decide_eq_false (by omega)
          have HLT := Mx.hid hlt2
          clear hlt2
          go_wp2_with fail
          refine wp_region_C (fun W' => St w0 W' [srow g N cap l] Q) (by kernel_rfl) (by kernel_rfl) (by exact hs.drew) ?_
          repeat ((first | (refine cq_y0 (v := ?_) (by with_reducible rfl) ?_ ?_; rotate_left 1; (focus (intro wq hq; (try dsimp only at hq); (have y1 := hq.cell HSX.out; have y2 := hq.cell HSY.out); go_simp; (first | done | with_reducible rfl | (go_at_call 27; refine (HCM.out _ _ _ _ _ hq).mono ?_; rintro e w9 ⟨rfl, hk9⟩; refine ⟨?_, hq.call0 hk9⟩; with_reducible rfl))))) | (refine cq_no (by go_simp; first | done | (intro h9; cases h9)) ?_) | (refine cq_yes (v := ?_) (by go_simp) ?_ ?_; rotate_left 1; (focus (intro wq hq; (try dsimp only at hq); (have y1 := hq.cell HSX.out; have y2 := hq.cell HSY.out); go_simp; (first | done | with_reducible rfl | (go_at_call 27; refine (HCM.out _ _ _ _ _ hq).mono ?_; rintro e w9 ⟨rfl, hk9⟩; refine ⟨?_, hq.call0 hk9⟩; with_reducible rfl)))))); (try simp only [Act.put, List.setIfInBounds_toArray, List.set_cons_zero, List.set_cons_succ]))
          refine cq_nil ?_
          intro wq hq
          (try dsimp only at hq)
          go_wp2_with fail
          have hcb := HCB.out
          refine ⟨⟨i, c, hmi, hcb.1, by omega, rfl, by go_num, HA, Mx.hid (fun z h1 h2 => ?_), hq⟩, by simp [intOf]; omega⟩
          have hl9 := HLT.out
          by_cases hz : z = c
          · rw [hz, HX.out]; omega
          · have := HR2.out c z hcb.2.2.1 (by omega) h2; rw [HX.out] at this; omega
      · have hij2 : i = j := by omega
        subst hij2
        have HFIN := Mx.hid (show ∀ l', Rot l l' a (a + 1) i → Mov f l l' a b ∧ Rise f l' a b from fun l' h => one_up h (by have := HM1.out; omega) hjb (by rw [HN.out]; exact hb) (by rw [← HM1.out]; exact HR2.out) (fun x h1 h2 => by rw [HY.out]; exact HA.out x (by have := HM1.out; omega) h2) (fun x h1 h2 => by rw [HY.out]; exact HB.out x h1 h2))
        have hai : a + 1 ≤ i := by have := HM1.out; omega
        clear HA HB hij
        go_wp2_with fail
        clear hlt
        go_loopw [13] (fun u wr => ∃ (k : Nat) (l' : List ByteArray), a ≤ k ∧ k + 1 ≤ i ∧ u = .int .i64 k ∧ Hid (Rot l l' a (a + 1) (k + 1)) ∧ St w0 wr [srow g N cap l'] Q) (fun u _ => i - (intOf u).toNat)
        case atStart => exact ⟨a, l, Nat.le_refl _, hai, rfl, Mx.hid (rot_id1 l a (a + 1) (by omega)), hs⟩
        case round =>
          clear hs HSY HY
          obtain ⟨k, l', hak, hki, rfl, HRO, hs⟩ := hrel
          have HL := Mx.hid (HRO.out.perm.length_eq.trans HN.out)
          by_cases hlt : k + 1 < i
          · have hti : (k : Int) < (i : Int) - 1 := by omega
            obtain ⟨p, hp⟩ : ∃ p, p = k + 1 := ⟨_, rfl⟩
            have hw1 : IntKind.i64.wrap ((k : Int) + 1) = (p : Int) := by rw [IntWalk.i64_in _ (by omega)]; omega
            have hkN : (k : Int) < (N : Int) := by omega
            have hpN : (p : Int) < (N : Int) := by omega
            have HBD := Mx.hid (show k < N ∧ p < N ∧ p = k + 1 ∧ k + 1 < i ∧ k + 1 < N by omega)
            have HSX := Mx.hid (ss_gv (l := l') (j := k) (by rw [HL.out]; omega))
            have HSY := Mx.hid (ss_gv (l := l') (j := p) (by rw [HL.out]; omega))
            generalize hx : gv l' k = x at HSX
            generalize hy : gv l' p = z at HSY
            have HX := Mx.hid hx
            have HY := Mx.hid hy
            have c1 := hs.drew.cell HSX.out
            have c2 := hs.drew.cell HSY.out
            clear hx hy hlt hp
            go_wp2_with fail
            (refine wp_region_S (15) (fun W' => W'.cell? ⟨g, k, none⟩ = some (.string x) ∧ W'.cell? ⟨g, p, none⟩ = some (.string z)) (by kernel_rfl) ?_ (fun hHeld => ?_); (focus ((try dsimp only); go_keep)))
            (refine wpAnyS_takeW (i := 0) (v := ?_) rfl (by kernel_rfl) (by kernel_rfl) (by kernel_rfl) (by kernel_rfl) (fun _ _ _ h => h) (Or.inl ⟨by rfl, ?_⟩) hHeld ?_; rotate_left 1; (focus (intro w' hSw; go_simp; (try with_reducible rfl))); (try simp only [Act.put, List.setIfInBounds_toArray, List.set_cons_zero, List.set_cons_succ]))
            (refine wpAnyS_takeW (i := 1) (v := ?_) rfl (by kernel_rfl) (by kernel_rfl) (by kernel_rfl) (by kernel_rfl) (fun _ _ _ h => h) (Or.inl ⟨by rfl, ?_⟩) hHeld ?_; rotate_left 1; (focus (intro w' hSw; go_simp; (try with_reducible rfl))); (try simp only [Act.put, List.setIfInBounds_toArray, List.set_cons_zero, List.set_cons_succ]))
            (refine wpAnyS_takeW (i := 2) (v := ?_) rfl (by kernel_rfl) (by kernel_rfl) (by kernel_rfl) (by kernel_rfl) (fun _ _ _ h => h) (Or.inl ⟨by rfl, ?_⟩) hHeld ?_; rotate_left 1; (focus (intro w' hSw; go_simp; (try with_reducible rfl))); (try simp only [Act.put, List.setIfInBounds_toArray, List.set_cons_zero, List.set_cons_succ]))
            (refine wpAnyS_takeW (i := 3) (v := ?_) rfl (by kernel_rfl) (by kernel_rfl) (by kernel_rfl) (by kernel_rfl) (fun _ _ _ h => h) (Or.inl ⟨by rfl, ?_⟩) hHeld ?_; rotate_left 1; (focus (intro w' hSw; go_simp; (try with_reducible rfl))); (try simp only [Act.put, List.setIfInBounds_toArray, List.set_cons_zero, List.set_cons_succ]))
            (refine wpAnyS_takeW (i := 4) (v := ?_) rfl (by kernel_rfl) (by kernel_rfl) (by kernel_rfl) (by kernel_rfl) (fun _ _ _ h => h) (Or.inl ⟨by rfl, ?_⟩) hHeld ?_; rotate_left 1; (focus (intro w' hSw; go_simp; (try with_reducible rfl))); (try simp only [Act.put, List.setIfInBounds_toArray, List.set_cons_zero, List.set_cons_succ]))
            (refine wpAnyS_takeW (i := 5) (v := ?_) rfl (by kernel_rfl) (by kernel_rfl) (by kernel_rfl) (by kernel_rfl) (fun _ _ _ h => h) (Or.inl ⟨by rfl, ?_⟩) hHeld ?_; rotate_left 1; (focus (intro w' hSw; go_simp; (try with_reducible rfl))); (try simp only [Act.put, List.setIfInBounds_toArray, List.set_cons_zero, List.set_cons_succ]))
            (refine wpAnyS_takeW (i := 6) (v := ?_) rfl (by kernel_rfl) (by kernel_rfl) (by kernel_rfl) (by kernel_rfl) (fun _ _ _ h => h) (Or.inl ⟨by rfl, ?_⟩) hHeld ?_; rotate_left 1; (focus (intro w' hSw; go_simp; (try with_reducible rfl))); (try simp only [Act.put, List.setIfInBounds_toArray, List.set_cons_zero, List.set_cons_succ]))
            (refine wpAnyS_takeW (i := 7) (v := ?_) rfl (by kernel_rfl) (by kernel_rfl) (by kernel_rfl) (by kernel_rfl) (fun _ _ _ h => h) (Or.inl ⟨by rfl, ?_⟩) hHeld ?_; rotate_left 1; (focus (intro w' hSw; go_simp; (try with_reducible rfl))); (try simp only [Act.put, List.setIfInBounds_toArray, List.set_cons_zero, List.set_cons_succ]))
            (refine wpAnyS_takeW (i := 8) (v := ?_) rfl (by kernel_rfl) (by kernel_rfl) (by kernel_rfl) (by kernel_rfl) (fun _ _ _ h => h) (Or.inl ⟨by rfl, ?_⟩) hHeld ?_; rotate_left 1; (focus (intro w' hSw; go_simp; (try with_reducible rfl))); (try simp only [Act.put, List.setIfInBounds_toArray, List.set_cons_zero, List.set_cons_succ]))
            (refine wpAnyS_takeL (i := 9) (v := ?_) rfl (by kernel_rfl) (by kernel_rfl) (by kernel_rfl) (by kernel_rfl) (by kernel_rfl) (by kernel_rfl) (fun _ _ _ h => h) (Or.inl ⟨by rfl, ?_⟩) hHeld ?_; rotate_left 1; (focus (intro w' hSw; (try dsimp only at hSw); go_simp; (try with_reducible rfl))); (try simp only [Act.put, List.setIfInBounds_toArray, List.set_cons_zero, List.set_cons_succ]))
            (refine wpAnyS_takeW (i := 10) (v := ?_) rfl (by kernel_rfl) (by kernel_rfl) (by kernel_rfl) (by kernel_rfl) (fun _ _ _ h => h) (Or.inl ⟨by rfl, ?_⟩) hHeld ?_; rotate_left 1; (focus (intro w' hSw; go_simp; (try with_reducible rfl))); (try simp only [Act.put, List.setIfInBounds_toArray, List.set_cons_zero, List.set_cons_succ]))
            (refine wpAnyS_takeW (i := 11) (v := ?_) rfl (by kernel_rfl) (by kernel_rfl) (by kernel_rfl) (by kernel_rfl) (fun _ _ _ h => h) (Or.inl ⟨by rfl, ?_⟩) hHeld ?_; rotate_left 1; (focus (intro w' hSw; go_simp; (try with_reducible rfl))); (try simp only [Act.put, List.setIfInBounds_toArray, List.set_cons_zero, List.set_cons_succ]))
            (refine wpAnyS_takeW (i := 12) (v := ?_) rfl (by kernel_rfl) (by kernel_rfl) (by kernel_rfl) (by kernel_rfl) (fun _ _ _ h => h) (Or.inl ⟨by rfl, ?_⟩) hHeld ?_; rotate_left 1; (focus (intro w' hSw; go_simp; (try with_reducible rfl))); (try simp only [Act.put, List.setIfInBounds_toArray, List.set_cons_zero, List.set_cons_succ]))
            (refine wpAnyS_takeL (i := 13) (v := ?_) rfl (by kernel_rfl) (by kernel_rfl) (by kernel_rfl) (by kernel_rfl) (by kernel_rfl) (by kernel_rfl) (fun _ _ _ h => h) (Or.inl ⟨by rfl, ?_⟩) hHeld ?_; rotate_left 1; (focus (intro w' hSw; (try dsimp only at hSw); go_simp; (try with_reducible rfl))); (try simp only [Act.put, List.setIfInBounds_toArray, List.set_cons_zero, List.set_cons_succ]))
            (refine wpAnyS_takeW (i := 14) (v := ?_) rfl (by kernel_rfl) (by kernel_rfl) (by kernel_rfl) (by kernel_rfl) (fun _ _ _ h => h) (Or.inl ⟨by rfl, ?_⟩) hHeld ?_; rotate_left 1; (focus (intro w' hSw; go_simp; (try with_reducible rfl))); (try simp only [Act.put, List.setIfInBounds_toArray, List.set_cons_zero, List.set_cons_succ]))
            (refine wpAnyS_seq (by rfl) (by kernel_rfl) ?_; simp only [List.drop_succ_cons, List.drop_zero])
            clear c1 c2 hHeld hw1
            have HR := Mx.hid (show ∀ wz, St w0 wz [⟨.slice (some ⟨g, 0, none⟩) N cap, 9, 1, N, (ss l').take k ++ [.string z] ++ (ss l').drop (k + 1)⟩] Q → St w0 wz [srow g N cap (l'.set k z)] Q from fun wz h => h.cast rfl (ss_set (by rw [HL.out]; exact HBD.out.1)))
            have HRR := Mx.hid (show ∀ wz, St w0 wz [⟨.slice (some ⟨g, 0, none⟩) N cap, 9, 1, N, (ss (l'.set k z)).take p ++ [.string x] ++ (ss (l'.set k z)).drop (p + 1)⟩] Q → St w0 wz [srow g N cap ((l'.set k z).set p x)] Q from fun wz h => h.cast rfl (ss_set (by rw [List.length_set, HL.out]; exact HBD.out.2.1)))
            have HPL := Mx.hid (show k < (ss l').length by rw [ss_len, HL.out]; exact HBD.out.1)
            have HQL := Mx.hid (show p < (ss (l'.set k z)).length by rw [ss_len, List.length_set, HL.out]; exact HBD.out.2.1)
            go_wp2_with (first | (((with_reducible show wpList _ _ _ _ _ _); refine wpl_store1 rfl 9 _ _ rfl hs.drew (k) rfl (.string z) rfl rfl (by kernel_rfl) HPL.out rfl ?_; intro w1 hs1); replace hs1 := HR.out _ hs1) | (((with_reducible show wpList _ _ _ _ _ _); refine wpl_store1 rfl 9 _ _ rfl hs1 (p) rfl (.string x) rfl rfl (by kernel_rfl) HQL.out rfl ?_; intro w2 hs2); replace hs2 := HRR.out _ hs2))
            obtain ⟨b1, b2, b3, b4, b5⟩ := HBD.out
            have hrot : Rot l' ((l'.set k z).set p x) k (k + 1) (k + 2) := by
              rw [← HX.out, ← HY.out, b3]
              exact swp_up (by rw [HL.out]; exact b5)
            refine ⟨⟨k + 1, _, by omega, by omega, by go_num, Mx.hid (rot_up hak HRO.out hrot), hs2⟩, by simp [intOf]; omega⟩
          · have hti : ¬ (k : Int) < (i : Int) - 1 := by omega
            have HF := Mx.hid (HFIN.out l' (by rw [show i = k + 1 by omega]; exact HRO.out))
            go_wp2_with fail
            go_end0
            exact ⟨l', rfl, hs, HF.out⟩
  · have hne1 : ((m : Int) - (a : Int) == 1) = false := by simp; omega
    by_cases hb1 : b = m + 1
    · have hne2 : ((b : Int) - (m : Int) == 1) = true := by simp; omega
      have HB1 := Mx.hid hb1
      have hmN : (m : Int) < (N : Int) := by omega
      have HSY := Mx.hid (ss_gv (l := l) (j := m) (by rw [HN.out]; omega))
      generalize hy : gv l m = y at HSY
      have HY := Mx.hid hy
      have HKY := HKB.out y
      clear hy hb1 hm1 hd
      go_enter Tryz.func69, Tryz.ntmps69
      go_wp2_with fail
      go_loopw [14, 15, 16] (fun u v _ wr => ∃ i j : Nat, a ≤ i ∧ i ≤ j ∧ j ≤ m ∧ u = .int .i64 i ∧ v = .int .i64 j ∧ Hid (∀ x, a ≤ x → x < i → f (gv l x) ≤ f y) ∧ Hid (∀ x, j ≤ x → x < m → f y < f (gv l x)) ∧ St w0 wr [srow g N cap l] Q) (fun u v _ _ => (intOf v).toNat - (intOf u).toNat)
      case atStart => exact ⟨a, m, Nat.le_refl _, by omega, Nat.le_refl _, rfl, rfl, Mx.hid (fun x h1 h2 => by omega), Mx.hid (fun x h1 h2 => by omega), hs⟩
      case round =>
        clear hs
        obtain ⟨i, j, hmi, hij, hjb, rfl, rfl, HA, HB, hs⟩ := hrel
        by_cases hlt : i < j
        · obtain ⟨c, hc⟩ : ∃ c, c = (i + j) / 2 := ⟨_, rfl⟩
          have hci : ((i : Int) + (j : Int)) / 2 = (c : Int) := by omega
          have HCB := Mx.hid (show i ≤ c ∧ c < j ∧ a ≤ c ∧ c < m by omega)
          have hcN : (c : Int) < (N : Int) := by omega
          have HSX := Mx.hid (ss_gv (l := l) (j := c) (by rw [HN.out]; omega))
          generalize hx : gv l c = x at HSX
          have HX := Mx.hid hx
          have HKX := HKB.out x
          clear hx hc
          by_cases hlt2 : f y < f x
          · have hcmp : decide (f y - f x < 0) = true := decide_eq_true (by omega)
            have HLT := Mx.hid hlt2
            clear hlt2
            go_wp2_with fail
            refine wp_region_C (fun W' => St w0 W' [srow g N cap l] Q) (by kernel_rfl) (by kernel_rfl) (by exact hs.drew) ?_
            repeat ((first | (refine cq_y0 (v := ?_) (by with_reducible rfl) ?_ ?_; rotate_left 1; (focus (intro wq hq; (try dsimp only at hq); (have y1 := hq.cell HSX.out; have y2 := hq.cell HSY.out); go_simp; (first | done | with_reducible rfl | (go_at_call 27; refine (HCM.out _ _ _ _ _ hq).mono ?_; rintro e w9 ⟨rfl, hk9⟩; refine ⟨?_, hq.call0 hk9⟩; with_reducible rfl))))) | (refine cq_no (by go_simp; first | done | (intro h9; cases h9)) ?_) | (refine cq_yes (v := ?_) (by go_simp) ?_ ?_; rotate_left 1; (focus (intro wq hq; (try dsimp only at hq); (have y1 := hq.cell HSX.out; have y2 := hq.cell HSY.out); go_simp; (first | done | with_reducible rfl | (go_at_call 27; refine (HCM.out _ _ _ _ _ hq).mono ?_; rintro e w9 ⟨rfl, hk9⟩; refine ⟨?_, hq.call0 hk9⟩; with_reducible rfl)))))); (try simp only [Act.put, List.setIfInBounds_toArray, List.set_cons_zero, List.set_cons_succ]))
            refine cq_nil ?_
            intro wq hq
            (try dsimp only at hq)
            go_wp2_with fail
            have hcb := HCB.out
            refine ⟨⟨i, c, hmi, hcb.1, by omega, rfl, by go_num, HA, Mx.hid (fun z h1 h2 => ?_), hq⟩, by simp [intOf]; omega⟩
            have hl9 := HLT.out
            by_cases hz : z = c
            · rw [hz, HX.out]; exact hl9
            · have := HR1.out c z hcb.2.2.1 (by omega) h2; rw [HX.out] at this; omega
          · have hcmp : decide (f y - f x < 0) = false := decide_eq_false (by omega)
            have HLT := Mx.hid hlt2
            clear hlt2
            go_wp2_with fail
            refine wp_region_C (fun W' => St w0 W' [srow g N cap l] Q) (by kernel_rfl) (by kernel_rfl) (by exact hs.drew) ?_
            repeat ((first | (refine cq_y0 (v := ?_) (by with_reducible rfl) ?_ ?_; rotate_left 1; (focus (intro wq hq; (try dsimp only at hq); (have y1 := hq.cell HSX.out; have y2 := hq.cell HSY.out); go_simp; (first | done | with_reducible rfl | (go_at_call 27; refine (HCM.out _ _ _ _ _ hq).mono ?_; rintro e w9 ⟨rfl, hk9⟩; refine ⟨?_, hq.call0 hk9⟩; with_reducible rfl))))) | (refine cq_no (by go_simp; first | done | (intro h9; cases h9)) ?_) | (refine cq_yes (v := ?_) (by go_simp) ?_ ?_; rotate_left 1; (focus (intro wq hq; (try dsimp only at hq); (have y1 := hq.cell HSX.out; have y2 := hq.cell HSY.out); go_simp; (first | done | with_reducible rfl | (go_at_call 27; refine (HCM.out _ _ _ _ _ hq).mono ?_; rintro e w9 ⟨rfl, hk9⟩; refine ⟨?_, hq.call0 hk9⟩; with_reducible rfl)))))); (try simp only [Act.put, List.setIfInBounds_toArray, List.set_cons_zero, List.set_cons_succ]))
            refine cq_nil ?_
            intro wq hq
            (try dsimp only at hq)
            go_wp2_with fail
            have hcb := HCB.out
            refine ⟨⟨c + 1, j, by omega, by omega, hjb, by go_num, rfl, Mx.hid (fun z h1 h2 => ?_), HB, hq⟩, by simp [intOf]; omega⟩
            have hl9 := HLT.out
            by_cases hz : z = c
            · rw [hz, HX.out]; omega
            · have := HR1.out z c h1 (by omega) hcb.2.2.2; rw [HX.out] at this; omega
        · have hij2 : i = j := by omega
          subst hij2
          have HFIN := Mx.hid (show ∀ l', Rot l l' i m (m + 1) → Mov f l l' a b ∧ Rise f l' a b from fun l' h => by
            rw [HB1.out]
            exact one_dn h hmi hjb (by rw [HN.out]; omega) HR1.out (fun x h1 h2 => by rw [HY.out]; exact HA.out x h1 h2) (fun x h1 h2 => by rw [HY.out]; exact HB.out x h1 h2))
          clear HA HB hij
          go_wp2_with fail
          clear hlt
          go_loopw [17] (fun u wr => ∃ (k : Nat) (l' : List ByteArray), i ≤ k ∧ k ≤ m ∧ u = .int .i64 k ∧ Hid (Rot l l' k m (m + 1)) ∧ St w0 wr [srow g N cap l'] Q) (fun u _ => (intOf u).toNat)
          case atStart => exact ⟨m, l, hjb, Nat.le_refl _, rfl, Mx.hid (rot_id0 l m (m + 1)), hs⟩
          case round =>
            clear hs HSY HY
            obtain ⟨k, l', hik, hkm, rfl, HRO, hs⟩ := hrel
            have HL := Mx.hid (HRO.out.perm.length_eq.trans HN.out)
            by_cases hlt : i < k
            · obtain ⟨p, hp⟩ : ∃ p, k = p + 1 := ⟨k - 1, by omega⟩
              have hw1 : IntKind.i64.wrap ((k : Int) - 1) = (p : Int) := by rw [IntWalk.i64_in _ (by omega)]; omega
              have hkN : (k : Int) < (N : Int) := by omega
              have hpN : (p : Int) < (N : Int) := by omega
              have HBD := Mx.hid (show k < N ∧ p < N ∧ k = p + 1 ∧ i ≤ p ∧ p ≤ m ∧ p + 1 ≤ m by omega)
              have HSX := Mx.hid (ss_gv (l := l') (j := k) (by rw [HL.out]; omega))
              have HSY := Mx.hid (ss_gv (l := l') (j := p) (by rw [HL.out]; omega))
              generalize hx : gv l' k = x at HSX
              generalize hy : gv l' p = z at HSY
              have HX := Mx.hid hx
              have HY := Mx.hid hy
              have c1 := hs.drew.cell HSX.out
              have c2 := hs.drew.cell HSY.out
              clear hx hy hp
              go_wp2_with fail
              (refine wp_region_S (15) (fun W' => W'.cell? ⟨g, k, none⟩ = some (.string x) ∧ W'.cell? ⟨g, p, none⟩ = some (.string z)) (by kernel_rfl) ?_ (fun hHeld => ?_); (focus ((try dsimp only); go_keep)))
              (refine wpAnyS_takeW (i := 0) (v := ?_) rfl (by kernel_rfl) (by kernel_rfl) (by kernel_rfl) (by kernel_rfl) (fun _ _ _ h => h) (Or.inl ⟨by rfl, ?_⟩) hHeld ?_; rotate_left 1; (focus (intro w' hSw; go_simp; (try with_reducible rfl))); (try simp only [Act.put, List.setIfInBounds_toArray, List.set_cons_zero, List.set_cons_succ]))
              (refine wpAnyS_takeW (i := 1) (v := ?_) rfl (by kernel_rfl) (by kernel_rfl) (by kernel_rfl) (by kernel_rfl) (fun _ _ _ h => h) (Or.inl ⟨by rfl, ?_⟩) hHeld ?_; rotate_left 1; (focus (intro w' hSw; go_simp; (try with_reducible rfl))); (try simp only [Act.put, List.setIfInBounds_toArray, List.set_cons_zero, List.set_cons_succ]))
              (refine wpAnyS_takeW (i := 2) (v := ?_) rfl (by kernel_rfl) (by kernel_rfl) (by kernel_rfl) (by kernel_rfl) (fun _ _ _ h => h) (Or.inl ⟨by rfl, ?_⟩) hHeld ?_; rotate_left 1; (focus (intro w' hSw; go_simp; (try with_reducible rfl))); (try simp only [Act.put, List.setIfInBounds_toArray, List.set_cons_zero, List.set_cons_succ]))
              (refine wpAnyS_takeW (i := 3) (v := ?_) rfl (by kernel_rfl) (by kernel_rfl) (by kernel_rfl) (by kernel_rfl) (fun _ _ _ h => h) (Or.inl ⟨by rfl, ?_⟩) hHeld ?_; rotate_left 1; (focus (intro w' hSw; go_simp; (try with_reducible rfl))); (try simp only [Act.put, List.setIfInBounds_toArray, List.set_cons_zero, List.set_cons_succ]))
              (refine wpAnyS_takeW (i := 4) (v := ?_) rfl (by kernel_rfl) (by kernel_rfl) (by kernel_rfl) (by kernel_rfl) (fun _ _ _ h => h) (Or.inl ⟨by rfl, ?_⟩) hHeld ?_; rotate_left 1; (focus (intro w' hSw; go_simp; (try with_reducible rfl))); (try simp only [Act.put, List.setIfInBounds_toArray, List.set_cons_zero, List.set_cons_succ]))
              (refine wpAnyS_takeW (i := 5) (v := ?_) rfl (by kernel_rfl) (by kernel_rfl) (by kernel_rfl) (by kernel_rfl) (fun _ _ _ h => h) (Or.inl ⟨by rfl, ?_⟩) hHeld ?_; rotate_left 1; (focus (intro w' hSw; go_simp; (try with_reducible rfl))); (try simp only [Act.put, List.setIfInBounds_toArray, List.set_cons_zero, List.set_cons_succ]))
              (refine wpAnyS_takeW (i := 6) (v := ?_) rfl (by kernel_rfl) (by kernel_rfl) (by kernel_rfl) (by kernel_rfl) (fun _ _ _ h => h) (Or.inl ⟨by rfl, ?_⟩) hHeld ?_; rotate_left 1; (focus (intro w' hSw; go_simp; (try with_reducible rfl))); (try simp only [Act.put, List.setIfInBounds_toArray, List.set_cons_zero, List.set_cons_succ]))
              (refine wpAnyS_takeW (i := 7) (v := ?_) rfl (by kernel_rfl) (by kernel_rfl) (by kernel_rfl) (by kernel_rfl) (fun _ _ _ h => h) (Or.inl ⟨by rfl, ?_⟩) hHeld ?_; rotate_left 1; (focus (intro w' hSw; go_simp; (try with_reducible rfl))); (try simp only [Act.put, List.setIfInBounds_toArray, List.set_cons_zero, List.set_cons_succ]))
              (refine wpAnyS_takeW (i := 8) (v := ?_) rfl (by kernel_rfl) (by kernel_rfl) (by kernel_rfl) (by kernel_rfl) (fun _ _ _ h => h) (Or.inl ⟨by rfl, ?_⟩) hHeld ?_; rotate_left 1; (focus (intro w' hSw; go_simp; (try with_reducible rfl))); (try simp only [Act.put, List.setIfInBounds_toArray, List.set_cons_zero, List.set_cons_succ]))
              (refine wpAnyS_takeL (i := 9) (v := ?_) rfl (by kernel_rfl) (by kernel_rfl) (by kernel_rfl) (by kernel_rfl) (by kernel_rfl) (by kernel_rfl) (fun _ _ _ h => h) (Or.inl ⟨by rfl, ?_⟩) hHeld ?_; rotate_left 1; (focus (intro w' hSw; (try dsimp only at hSw); go_simp; (try with_reducible rfl))); (try simp only [Act.put, List.setIfInBounds_toArray, List.set_cons_zero, List.set_cons_succ]))
              (refine wpAnyS_takeW (i := 10) (v := ?_) rfl (by kernel_rfl) (by kernel_rfl) (by kernel_rfl) (by kernel_rfl) (fun _ _ _ h => h) (Or.inl ⟨by rfl, ?_⟩) hHeld ?_; rotate_left 1; (focus (intro w' hSw; go_simp; (try with_reducible rfl))); (try simp only [Act.put, List.setIfInBounds_toArray, List.set_cons_zero, List.set_cons_succ]))
              (refine wpAnyS_takeW (i := 11) (v := ?_) rfl (by kernel_rfl) (by kernel_rfl) (by kernel_rfl) (by kernel_rfl) (fun _ _ _ h => h) (Or.inl ⟨by rfl, ?_⟩) hHeld ?_; rotate_left 1; (focus (intro w' hSw; go_simp; (try with_reducible rfl))); (try simp only [Act.put, List.setIfInBounds_toArray, List.set_cons_zero, List.set_cons_succ]))
              (refine wpAnyS_takeW (i := 12) (v := ?_) rfl (by kernel_rfl) (by kernel_rfl) (by kernel_rfl) (by kernel_rfl) (fun _ _ _ h => h) (Or.inl ⟨by rfl, ?_⟩) hHeld ?_; rotate_left 1; (focus (intro w' hSw; go_simp; (try with_reducible rfl))); (try simp only [Act.put, List.setIfInBounds_toArray, List.set_cons_zero, List.set_cons_succ]))
              (refine wpAnyS_takeL (i := 13) (v := ?_) rfl (by kernel_rfl) (by kernel_rfl) (by kernel_rfl) (by kernel_rfl) (by kernel_rfl) (by kernel_rfl) (fun _ _ _ h => h) (Or.inl ⟨by rfl, ?_⟩) hHeld ?_; rotate_left 1; (focus (intro w' hSw; (try dsimp only at hSw); go_simp; (try with_reducible rfl))); (try simp only [Act.put, List.setIfInBounds_toArray, List.set_cons_zero, List.set_cons_succ]))
              (refine wpAnyS_takeW (i := 14) (v := ?_) rfl (by kernel_rfl) (by kernel_rfl) (by kernel_rfl) (by kernel_rfl) (fun _ _ _ h => h) (Or.inl ⟨by rfl, ?_⟩) hHeld ?_; rotate_left 1; (focus (intro w' hSw; go_simp; (try with_reducible rfl))); (try simp only [Act.put, List.setIfInBounds_toArray, List.set_cons_zero, List.set_cons_succ]))
              (refine wpAnyS_seq (by rfl) (by kernel_rfl) ?_; simp only [List.drop_succ_cons, List.drop_zero])
              clear c1 c2 hHeld hw1
              have HR := Mx.hid (show ∀ wz, St w0 wz [⟨.slice (some ⟨g, 0, none⟩) N cap, 9, 1, N, (ss l').take k ++ [.string z] ++ (ss l').drop (k + 1)⟩] Q → St w0 wz [srow g N cap (l'.set k z)] Q from fun wz h => h.cast rfl (ss_set (by rw [HL.out]; exact HBD.out.1)))
              have HRR := Mx.hid (show ∀ wz, St w0 wz [⟨.slice (some ⟨g, 0, none⟩) N cap, 9, 1, N, (ss (l'.set k z)).take p ++ [.string x] ++ (ss (l'.set k z)).drop (p + 1)⟩] Q → St w0 wz [srow g N cap ((l'.set k z).set p x)] Q from fun wz h => h.cast rfl (ss_set (by rw [List.length_set, HL.out]; exact HBD.out.2.1)))
              have HPL := Mx.hid (show k < (ss l').length by rw [ss_len, HL.out]; exact HBD.out.1)
              have HQL := Mx.hid (show p < (ss (l'.set k z)).length by rw [ss_len, List.length_set, HL.out]; exact HBD.out.2.1)
              go_wp2_with (first | (((with_reducible show wpList _ _ _ _ _ _); refine wpl_store1 rfl 9 _ _ rfl hs.drew (k) rfl (.string z) rfl rfl (by kernel_rfl) HPL.out rfl ?_; intro w1 hs1); replace hs1 := HR.out _ hs1) | (((with_reducible show wpList _ _ _ _ _ _); refine wpl_store1 rfl 9 _ _ rfl hs1 (p) rfl (.string x) rfl rfl (by kernel_rfl) HQL.out rfl ?_; intro w2 hs2); replace hs2 := HRR.out _ hs2))
              obtain ⟨b1, b2, b3, b4, b5, b6⟩ := HBD.out
              have hrot : Rot l' ((l'.set k z).set p x) p (p + 1) (p + 2) := by
                rw [← HX.out, ← HY.out, b3]
                exact swp_dn (by rw [HL.out]; omega)
              refine ⟨⟨p, _, b4, b5, by go_num, Mx.hid (rot_dn b6 (by rw [← b3]; exact HRO.out) hrot), hs2⟩, by simp [intOf]; omega⟩
            · have hti : ¬ i < k := hlt
              have HF := Mx.hid (HFIN.out l' (by rw [show i = k by omega]; exact HRO.out))
              go_wp2_with fail
              go_end0
              exact ⟨l', rfl, hs, HF.out⟩
    · have hne2 : ((b : Int) - (m : Int) == 1) = false := by simp; omega
      have HD := Mx.hid hd
      have hA : (a : Int) + 1 ≤ (m : Int) := by omega
      have hB : (m : Int) + 1 ≤ (b : Int) := by omega
      have hBN : (b : Int) ≤ (N : Int) := by omega
      have HMB := Mx.hid (And.intro hm1 (And.intro hb1 (And.intro ham hmb)))
      clear hd hm1 hb1
      obtain ⟨mid, hm⟩ : ∃ mid, mid = (a + b) / 2 := ⟨_, rfl⟩
      have hmid : ((a : Int) + (b : Int)) / 2 = (mid : Int) := by omega
      have HMD := Mx.hid hm
      have hma : a < mid := by omega
      have hmb2 : mid < b := by omega
      clear hm
      by_cases hmm : mid < m
      · obtain ⟨s0, hs0⟩ : ∃ s0, s0 + b = mid + m := ⟨mid + m - b, by have := HMD.out; have := HMB.out; omega⟩
        have hs0i : (mid : Int) + (m : Int) - (b : Int) = (s0 : Int) := by omega
        have HS0 := Mx.hid (show a ≤ s0 ∧ s0 ≤ mid ∧ s0 + b = mid + m from by have := HMD.out; omega)
        clear hs0
        go_enter Tryz.func69, Tryz.ntmps69
        go_wp2_with fail
        go_loopw [20, 21, 23] (fun x y _ wr => ∃ s r : Nat, s0 ≤ s ∧ s ≤ r ∧ r ≤ mid ∧ x = .int .i64 s ∧ y = .int .i64 r ∧ Hid (s = s0 ∨ f (gv l (s - 1)) ≤ f (gv l (mid + m - s))) ∧ Hid (r = mid ∨ f (gv l (mid + m - 1 - r)) < f (gv l r)) ∧ St w0 wr [srow g N cap l] Q) (fun x y _ _ => (intOf y).toNat - (intOf x).toNat)
        case atStart => exact ⟨s0, mid, Nat.le_refl _, by first | omega | exact HS0.out.2.1, Nat.le_refl _, by go_num, by go_num, Mx.hid (.inl rfl), Mx.hid (.inl rfl), hs⟩
        case round =>
          clear hs
          obtain ⟨s, r, h0s, hsr, hr0, rfl, rfl, HA, HB, hs⟩ := hrel
          by_cases hlt : s < r
          · obtain ⟨c, hc⟩ : ∃ c, c = (s + r) / 2 := ⟨_, rfl⟩
            have hci : ((s : Int) + (r : Int)) / 2 = (c : Int) := by omega
            have HCB := Mx.hid (show s ≤ c ∧ c < r by omega)
            have HBD := Mx.hid (show c < N ∧ mid + m - 1 - c < N ∧ c + 1 ≤ mid + m ∧ c ≤ mid + m - 1 from by (first | (have h9 := HS0.out; omega) | omega))
            obtain ⟨q, hq⟩ : ∃ q, q = mid + m - 1 - c := ⟨_, rfl⟩
            have hqi : IntKind.i64.wrap ((mid : Int) + (m : Int) - 1 - (c : Int)) = (q : Int) := by have := HBD.out; rw [IntWalk.i64_in _ (by omega)]; omega
            have hqN : (q : Int) < (N : Int) := by have := HBD.out; omega
            have hcN : (c : Int) < (N : Int) := by have := HBD.out; omega
            have HQ := Mx.hid hq
            have HSX := Mx.hid (ss_gv (l := l) (j := c) (by rw [HN.out]; exact HBD.out.1))
            have HSY := Mx.hid (ss_gv (l := l) (j := q) (by rw [HN.out, hq]; exact HBD.out.2.1))
            generalize hx : gv l c = x at HSX
            generalize hy : gv l q = y at HSY
            have HX := Mx.hid hx
            have HY := Mx.hid hy
            have HKX := HKB.out x
            have HKY := HKB.out y
            clear hx hy hq hc
            by_cases hlt2 : f y < f x
            · have hcmp : decide (f y - f x < 0) = true := decide_eq_true (by omega)
              have HLT := Mx.hid hlt2
              clear hlt2
              go_wp2_with fail
              refine wp_region_C (fun W' => St w0 W' [srow g N cap l] Q) (by kernel_rfl) (by kernel_rfl) (by exact hs.drew) ?_
              repeat ((first | (refine cq_y0 (v := ?_) (by with_reducible rfl) ?_ ?_; rotate_left 1; (focus (intro wq hq; (try dsimp only at hq); (have y1 := hq.cell HSX.out; have y2 := hq.cell HSY.out); go_simp; (first | done | with_reducible rfl | (go_at_call 27; refine (HCM.out _ _ _ _ _ hq).mono ?_; rintro e w9 ⟨rfl, hk9⟩; refine ⟨?_, hq.call0 hk9⟩; with_reducible rfl))))) | (refine cq_no (by go_simp; first | done | (intro h9; cases h9)) ?_) | (refine cq_yes (v := ?_) (by go_simp) ?_ ?_; rotate_left 1; (focus (intro wq hq; (try dsimp only at hq); (have y1 := hq.cell HSX.out; have y2 := hq.cell HSY.out); go_simp; (first | done | with_reducible rfl | (go_at_call 27; refine (HCM.out _ _ _ _ _ hq).mono ?_; rintro e w9 ⟨rfl, hk9⟩; refine ⟨?_, hq.call0 hk9⟩; with_reducible rfl)))))); (try simp only [Act.put, List.setIfInBounds_toArray, List.set_cons_zero, List.set_cons_succ]))
              refine cq_nil ?_
              intro wq hq
              (try dsimp only at hq)
              go_wp2_with fail
              have hcb := HCB.out
              refine ⟨⟨s, c, h0s, hcb.1, by omega, rfl, by go_num, HA, Mx.hid (.inr (by rw [← HQ.out, HX.out, HY.out]; exact HLT.out)), hq⟩, by simp [intOf]; omega⟩
            · have hcmp : decide (f y - f x < 0) = false := decide_eq_false (by omega)
              have HLT := Mx.hid hlt2
              clear hlt2
              go_wp2_with fail
              refine wp_region_C (fun W' => St w0 W' [srow g N cap l] Q) (by kernel_rfl) (by kernel_rfl) (by exact hs.drew) ?_
              repeat ((first | (refine cq_y0 (v := ?_) (by with_reducible rfl) ?_ ?_; rotate_left 1; (focus (intro wq hq; (try dsimp only at hq); (have y1 := hq.cell HSX.out; have y2 := hq.cell HSY.out); go_simp; (first | done | with_reducible rfl | (go_at_call 27; refine (HCM.out _ _ _ _ _ hq).mono ?_; rintro e w9 ⟨rfl, hk9⟩; refine ⟨?_, hq.call0 hk9⟩; with_reducible rfl))))) | (refine cq_no (by go_simp; first | done | (intro h9; cases h9)) ?_) | (refine cq_yes (v := ?_) (by go_simp) ?_ ?_; rotate_left 1; (focus (intro wq hq; (try dsimp only at hq); (have y1 := hq.cell HSX.out; have y2 := hq.cell HSY.out); go_simp; (first | done | with_reducible rfl | (go_at_call 27; refine (HCM.out _ _ _ _ _ hq).mono ?_; rintro e w9 ⟨rfl, hk9⟩; refine ⟨?_, hq.call0 hk9⟩; with_reducible rfl)))))); (try simp only [Act.put, List.setIfInBounds_toArray, List.set_cons_zero, List.set_cons_succ]))
              refine cq_nil ?_
              intro wq hq
              (try dsimp only at hq)
              go_wp2_with fail
              have hcb := HCB.out
              refine ⟨⟨c + 1, r, by omega, by omega, hr0, by go_num, rfl, Mx.hid (.inr (by rw [show c + 1 - 1 = c by omega, show mid + m - (c + 1) = q by rw [HQ.out]; omega, HX.out, HY.out]; have := HLT.out; omega)), HB, hq⟩, by simp [intOf]; omega⟩
          · have hsr2 : s = r := by omega
            subst hsr2
            have HS := Mx.hid (show a ≤ s ∧ s ≤ m ∧ s ≤ mid ∧ mid + m - s ≤ b from by (first | (have h9 := HS0.out; omega) | omega))
            have HMID := Mx.hid (show Mid f l a m b s from by
              have h8 := HS.out
              refine ⟨h8.1, h8.2.1, ?_, ?_, ?_, ?_⟩
              · rw [← HMD.out]; omega
              · rw [← HMD.out]; omega
              · rw [← HMD.out]
                rcases HA.out with h7 | h7
                · first | (exact .inl h7) | (have h9 := HS0.out; exact .inr (.inl (by omega)))
                · exact .inr (.inr h7)
              · rw [← HMD.out]
                rcases HB.out with h7 | h7
                · first | (exact .inl h7) | (exact .inr (.inl (by omega)))
                · exact .inr (.inr (by rw [show mid + m - s - 1 = mid + m - 1 - s by omega]; exact h7)))
            obtain ⟨e, he⟩ : ∃ e, e = mid + m - s := ⟨_, rfl⟩
            have hei : (mid : Int) + (m : Int) - (s : Int) = (e : Int) := by have := HS.out; omega
            have HE := Mx.hid (show a ≤ s ∧ s ≤ m ∧ s ≤ mid ∧ e ≤ b ∧ m ≤ e ∧ mid ≤ e ∧ a < mid ∧ mid < b from by have := HS.out; omega)
            have HRT := Mx.hid (show ∀ l1, Rot l l1 s m e → Mov f l l1 a b ∧ Rise f l1 a s ∧ Rise f l1 s mid ∧ Rise f l1 mid e ∧ Rise f l1 e b ∧ Halves f l1 a mid b from fun l1 hrt => by
              have h9 := mid_rise HMID.out (by rw [HN.out]; exact hb) HR1.out HR2.out (l1 := l1) (by rw [← HMD.out, ← he]; exact hrt)
              rw [← HMD.out, ← he] at h9
              exact h9)
            clear he HMID HS HA HB h0s hr0 hlt hsr
            by_cases hsm : s < m
            · by_cases hme : m < e
              · go_wp2_with fail
                refine (rotate_any w0 _ g N cap Q l s m e _ hs HN.out hsm hme (by have := HE.out; omega) hl).mono ?_
                rintro e9 w2 ⟨l1, rfl, hs1, hrt⟩
                have HK := Mx.hid (HRT.out l1 hrt)
                have HL1 := Mx.hid (hrt.perm.length_eq.trans HN.out)
                clear hrt hs hsm hme
                by_cases has : a < s
                · by_cases hsd : s < mid
                  · go_wp2_with fail
                    refine (IH.out _ l1 a s mid (by have := HE.out; have := HD.out; omega) hs1 HL1.out has hsd (by have := HE.out; omega) HK.out.2.1 HK.out.2.2.1).mono ?_
                    rintro e9 w3 ⟨l2, rfl, hs2, hmv, hrz⟩
                    have HF2 := Mx.hid (fin_rec1 HK.out.1 HK.out.2.2.2.1 HK.out.2.2.2.2.1 HK.out.2.2.2.2.2 (by have := HE.out; omega) (by have := HE.out; omega) hmv hrz)
                    have HL2 := Mx.hid (hmv.perm.length_eq.trans HL1.out)
                    clear hmv hrz hs1 has hsd
                    by_cases hde : mid < e
                    · by_cases heb : e < b
                      · go_wp2_with fail
                        refine (IH.out _ l2 mid e b (by have := HE.out; have := HD.out; omega) hs2 HL2.out hde heb hb HF2.out.r1 HF2.out.r2).mono ?_
                        rintro e9 w4 ⟨l3, rfl, hs3, hmv, hrz⟩
                        have HF3 := Mx.hid (fin_rec2 HF2.out (by have := HE.out; omega) hmv hrz)
                        clear hmv hrz
                        go_wp2_with fail
                        go_end0
                        exact ⟨l3, rfl, hs3, HF3.out⟩
                      · have HF3 := Mx.hid (fin_end HF2.out (.inr (by have := HE.out; omega)))
                        go_wp2_with fail
                        go_end0
                        exact ⟨l2, rfl, hs2, HF3.out⟩
                    · have HF3 := Mx.hid (fin_end HF2.out (.inl (by have := HE.out; omega)))
                      go_wp2_with fail
                      go_end0
                      exact ⟨l2, rfl, hs2, HF3.out⟩
                  · have HF2 := Mx.hid (show Fin2 f l l1 a mid e b from ⟨HK.out.1, by have := HK.out.2.1; rwa [show s = mid by have := HE.out; omega] at this, HK.out.2.2.2.1, HK.out.2.2.2.2.1, HK.out.2.2.2.2.2⟩)
                    have HL2 := HL1
                    by_cases hde : mid < e
                    · by_cases heb : e < b
                      · go_wp2_with fail
                        refine (IH.out _ l1 mid e b (by have := HE.out; have := HD.out; omega) hs1 HL2.out hde heb hb HF2.out.r1 HF2.out.r2).mono ?_
                        rintro e9 w4 ⟨l3, rfl, hs3, hmv, hrz⟩
                        have HF3 := Mx.hid (fin_rec2 HF2.out (by have := HE.out; omega) hmv hrz)
                        clear hmv hrz
                        go_wp2_with fail
                        go_end0
                        exact ⟨l3, rfl, hs3, HF3.out⟩
                      · have HF3 := Mx.hid (fin_end HF2.out (.inr (by have := HE.out; omega)))
                        go_wp2_with fail
                        go_end0
                        exact ⟨l1, rfl, hs1, HF3.out⟩
                    · have HF3 := Mx.hid (fin_end HF2.out (.inl (by have := HE.out; omega)))
                      go_wp2_with fail
                      go_end0
                      exact ⟨l1, rfl, hs1, HF3.out⟩
                · have HF2 := Mx.hid (show Fin2 f l l1 a mid e b from ⟨HK.out.1, by have := HK.out.2.2.1; rwa [show s = a by have := HE.out; omega] at this, HK.out.2.2.2.1, HK.out.2.2.2.2.1, HK.out.2.2.2.2.2⟩)
                  have HL2 := HL1
                  by_cases hde : mid < e
                  · by_cases heb : e < b
                    · go_wp2_with fail
                      refine (IH.out _ l1 mid e b (by have := HE.out; have := HD.out; omega) hs1 HL2.out hde heb hb HF2.out.r1 HF2.out.r2).mono ?_
                      rintro e9 w4 ⟨l3, rfl, hs3, hmv, hrz⟩
                      have HF3 := Mx.hid (fin_rec2 HF2.out (by have := HE.out; omega) hmv hrz)
                      clear hmv hrz
                      go_wp2_with fail
                      go_end0
                      exact ⟨l3, rfl, hs3, HF3.out⟩
                    · have HF3 := Mx.hid (fin_end HF2.out (.inr (by have := HE.out; omega)))
                      go_wp2_with fail
                      go_end0
                      exact ⟨l1, rfl, hs1, HF3.out⟩
                  · have HF3 := Mx.hid (fin_end HF2.out (.inl (by have := HE.out; omega)))
                    go_wp2_with fail
                    go_end0
                    exact ⟨l1, rfl, hs1, HF3.out⟩
              · have HK := Mx.hid (HRT.out l (by rw [show e = m by have := HE.out; omega]; exact rot_id1 l s m (by omega)))
                have HL1 := HN
                by_cases has : a < s
                · by_cases hsd : s < mid
                  · go_wp2_with fail
                    refine (IH.out _ l a s mid (by have := HE.out; have := HD.out; omega) hs HL1.out has hsd (by have := HE.out; omega) HK.out.2.1 HK.out.2.2.1).mono ?_
                    rintro e9 w3 ⟨l2, rfl, hs2, hmv, hrz⟩
                    have HF2 := Mx.hid (fin_rec1 HK.out.1 HK.out.2.2.2.1 HK.out.2.2.2.2.1 HK.out.2.2.2.2.2 (by have := HE.out; omega) (by have := HE.out; omega) hmv hrz)
                    have HL2 := Mx.hid (hmv.perm.length_eq.trans HL1.out)
                    clear hmv hrz hs has hsd
                    by_cases hde : mid < e
                    · by_cases heb : e < b
                      · go_wp2_with fail
                        refine (IH.out _ l2 mid e b (by have := HE.out; have := HD.out; omega) hs2 HL2.out hde heb hb HF2.out.r1 HF2.out.r2).mono ?_
                        rintro e9 w4 ⟨l3, rfl, hs3, hmv, hrz⟩
                        have HF3 := Mx.hid (fin_rec2 HF2.out (by have := HE.out; omega) hmv hrz)
                        clear hmv hrz
                        go_wp2_with fail
                        go_end0
                        exact ⟨l3, rfl, hs3, HF3.out⟩
                      · have HF3 := Mx.hid (fin_end HF2.out (.inr (by have := HE.out; omega)))
                        go_wp2_with fail
                        go_end0
                        exact ⟨l2, rfl, hs2, HF3.out⟩
                    · have HF3 := Mx.hid (fin_end HF2.out (.inl (by have := HE.out; omega)))
                      go_wp2_with fail
                      go_end0
                      exact ⟨l2, rfl, hs2, HF3.out⟩
                  · have HF2 := Mx.hid (show Fin2 f l l a mid e b from ⟨HK.out.1, by have := HK.out.2.1; rwa [show s = mid by have := HE.out; omega] at this, HK.out.2.2.2.1, HK.out.2.2.2.2.1, HK.out.2.2.2.2.2⟩)
                    have HL2 := HL1
                    by_cases hde : mid < e
                    · by_cases heb : e < b
                      · go_wp2_with fail
                        refine (IH.out _ l mid e b (by have := HE.out; have := HD.out; omega) hs HL2.out hde heb hb HF2.out.r1 HF2.out.r2).mono ?_
                        rintro e9 w4 ⟨l3, rfl, hs3, hmv, hrz⟩
                        have HF3 := Mx.hid (fin_rec2 HF2.out (by have := HE.out; omega) hmv hrz)
                        clear hmv hrz
                        go_wp2_with fail
                        go_end0
                        exact ⟨l3, rfl, hs3, HF3.out⟩
                      · have HF3 := Mx.hid (fin_end HF2.out (.inr (by have := HE.out; omega)))
                        go_wp2_with fail
                        go_end0
                        exact ⟨l, rfl, hs, HF3.out⟩
                    · have HF3 := Mx.hid (fin_end HF2.out (.inl (by have := HE.out; omega)))
                      go_wp2_with fail
                      go_end0
                      exact ⟨l, rfl, hs, HF3.out⟩
                · have HF2 := Mx.hid (show Fin2 f l l a mid e b from ⟨HK.out.1, by have := HK.out.2.2.1; rwa [show s = a by have := HE.out; omega] at this, HK.out.2.2.2.1, HK.out.2.2.2.2.1, HK.out.2.2.2.2.2⟩)
                  have HL2 := HL1
                  by_cases hde : mid < e
                  · by_cases heb : e < b
                    · go_wp2_with fail
                      refine (IH.out _ l mid e b (by have := HE.out; have := HD.out; omega) hs HL2.out hde heb hb HF2.out.r1 HF2.out.r2).mono ?_
                      rintro e9 w4 ⟨l3, rfl, hs3, hmv, hrz⟩
                      have HF3 := Mx.hid (fin_rec2 HF2.out (by have := HE.out; omega) hmv hrz)
                      clear hmv hrz
                      go_wp2_with fail
                      go_end0
                      exact ⟨l3, rfl, hs3, HF3.out⟩
                    · have HF3 := Mx.hid (fin_end HF2.out (.inr (by have := HE.out; omega)))
                      go_wp2_with fail
                      go_end0
                      exact ⟨l, rfl, hs, HF3.out⟩
                  · have HF3 := Mx.hid (fin_end HF2.out (.inl (by have := HE.out; omega)))
                    go_wp2_with fail
                    go_end0
                    exact ⟨l, rfl, hs, HF3.out⟩
            · have HK := Mx.hid (HRT.out l (by rw [show s = m by have := HE.out; omega]; exact rot_id0 l m e))
              have HL1 := HN
              by_cases has : a < s
              · by_cases hsd : s < mid
                · go_wp2_with fail
                  refine (IH.out _ l a s mid (by have := HE.out; have := HD.out; omega) hs HL1.out has hsd (by have := HE.out; omega) HK.out.2.1 HK.out.2.2.1).mono ?_
                  rintro e9 w3 ⟨l2, rfl, hs2, hmv, hrz⟩
                  have HF2 := Mx.hid (fin_rec1 HK.out.1 HK.out.2.2.2.1 HK.out.2.2.2.2.1 HK.out.2.2.2.2.2 (by have := HE.out; omega) (by have := HE.out; omega) hmv hrz)
                  have HL2 := Mx.hid (hmv.perm.length_eq.trans HL1.out)
                  clear hmv hrz hs has hsd
                  by_cases hde : mid < e
                  · by_cases heb : e < b
                    · go_wp2_with fail
                      refine (IH.out _ l2 mid e b (by have := HE.out; have := HD.out; omega) hs2 HL2.out hde heb hb HF2.out.r1 HF2.out.r2).mono ?_
                      rintro e9 w4 ⟨l3, rfl, hs3, hmv, hrz⟩
                      have HF3 := Mx.hid (fin_rec2 HF2.out (by have := HE.out; omega) hmv hrz)
                      clear hmv hrz
                      go_wp2_with fail
                      go_end0
                      exact ⟨l3, rfl, hs3, HF3.out⟩
                    · have HF3 := Mx.hid (fin_end HF2.out (.inr (by have := HE.out; omega)))
                      go_wp2_with fail
                      go_end0
                      exact ⟨l2, rfl, hs2, HF3.out⟩
                  · have HF3 := Mx.hid (fin_end HF2.out (.inl (by have := HE.out; omega)))
                    go_wp2_with fail
                    go_end0
                    exact ⟨l2, rfl, hs2, HF3.out⟩
                · have HF2 := Mx.hid (show Fin2 f l l a mid e b from ⟨HK.out.1, by have := HK.out.2.1; rwa [show s = mid by have := HE.out; omega] at this, HK.out.2.2.2.1, HK.out.2.2.2.2.1, HK.out.2.2.2.2.2⟩)
                  have HL2 := HL1
                  by_cases hde : mid < e
                  · by_cases heb : e < b
                    · go_wp2_with fail
                      refine (IH.out _ l mid e b (by have := HE.out; have := HD.out; omega) hs HL2.out hde heb hb HF2.out.r1 HF2.out.r2).mono ?_
                      rintro e9 w4 ⟨l3, rfl, hs3, hmv, hrz⟩
                      have HF3 := Mx.hid (fin_rec2 HF2.out (by have := HE.out; omega) hmv hrz)
                      clear hmv hrz
                      go_wp2_with fail
                      go_end0
                      exact ⟨l3, rfl, hs3, HF3.out⟩
                    · have HF3 := Mx.hid (fin_end HF2.out (.inr (by have := HE.out; omega)))
                      go_wp2_with fail
                      go_end0
                      exact ⟨l, rfl, hs, HF3.out⟩
                  · have HF3 := Mx.hid (fin_end HF2.out (.inl (by have := HE.out; omega)))
                    go_wp2_with fail
                    go_end0
                    exact ⟨l, rfl, hs, HF3.out⟩
              · have HF2 := Mx.hid (show Fin2 f l l a mid e b from ⟨HK.out.1, by have := HK.out.2.2.1; rwa [show s = a by have := HE.out; omega] at this, HK.out.2.2.2.1, HK.out.2.2.2.2.1, HK.out.2.2.2.2.2⟩)
                have HL2 := HL1
                by_cases hde : mid < e
                · by_cases heb : e < b
                  · go_wp2_with fail
                    refine (IH.out _ l mid e b (by have := HE.out; have := HD.out; omega) hs HL2.out hde heb hb HF2.out.r1 HF2.out.r2).mono ?_
                    rintro e9 w4 ⟨l3, rfl, hs3, hmv, hrz⟩
                    have HF3 := Mx.hid (fin_rec2 HF2.out (by have := HE.out; omega) hmv hrz)
                    clear hmv hrz
                    go_wp2_with fail
                    go_end0
                    exact ⟨l3, rfl, hs3, HF3.out⟩
                  · have HF3 := Mx.hid (fin_end HF2.out (.inr (by have := HE.out; omega)))
                    go_wp2_with fail
                    go_end0
                    exact ⟨l, rfl, hs, HF3.out⟩
                · have HF3 := Mx.hid (fin_end HF2.out (.inl (by have := HE.out; omega)))
                  go_wp2_with fail
                  go_end0
                  exact ⟨l, rfl, hs, HF3.out⟩
      · go_enter Tryz.func69, Tryz.ntmps69
        go_wp2_with fail
        go_loopw [20, 21, 23] (fun x y _ wr => ∃ s r : Nat, a ≤ s ∧ s ≤ r ∧ r ≤ m ∧ x = .int .i64 s ∧ y = .int .i64 r ∧ Hid (s = a ∨ f (gv l (s - 1)) ≤ f (gv l (mid + m - s))) ∧ Hid (r = m ∨ f (gv l (mid + m - 1 - r)) < f (gv l r)) ∧ St w0 wr [srow g N cap l] Q) (fun x y _ _ => (intOf y).toNat - (intOf x).toNat)
        case atStart => exact ⟨a, m, Nat.le_refl _, by first | omega | exact HS0.out.2.1, Nat.le_refl _, by go_num, by go_num, Mx.hid (.inl rfl), Mx.hid (.inl rfl), hs⟩
        case round =>
          clear hs
          obtain ⟨s, r, h0s, hsr, hr0, rfl, rfl, HA, HB, hs⟩ := hrel
          by_cases hlt : s < r
          · obtain ⟨c, hc⟩ : ∃ c, c = (s + r) / 2 := ⟨_, rfl⟩
            have hci : ((s : Int) + (r : Int)) / 2 = (c : Int) := by omega
            have HCB := Mx.hid (show s ≤ c ∧ c < r by omega)
            have HBD := Mx.hid (show c < N ∧ mid + m - 1 - c < N ∧ c + 1 ≤ mid + m ∧ c ≤ mid + m - 1 from by (first | (have h9 := HS0.out; omega) | omega))
            obtain ⟨q, hq⟩ : ∃ q, q = mid + m - 1 - c := ⟨_, rfl⟩
            have hqi : IntKind.i64.wrap ((mid : Int) + (m : Int) - 1 - (c : Int)) = (q : Int) := by have := HBD.out; rw [IntWalk.i64_in _ (by omega)]; omega
            have hqN : (q : Int) < (N : Int) := by have := HBD.out; omega
            have hcN : (c : Int) < (N : Int) := by have := HBD.out; omega
            have HQ := Mx.hid hq
            have HSX := Mx.hid (ss_gv (l := l) (j := c) (by rw [HN.out]; exact HBD.out.1))
            have HSY := Mx.hid (ss_gv (l := l) (j := q) (by rw [HN.out, hq]; exact HBD.out.2.1))
            generalize hx : gv l c = x at HSX
            generalize hy : gv l q = y at HSY
            have HX := Mx.hid hx
            have HY := Mx.hid hy
            have HKX := HKB.out x
            have HKY := HKB.out y
            clear hx hy hq hc
            by_cases hlt2 : f y < f x
            · have hcmp : decide (f y - f x < 0) = true := decide_eq_true (by omega)
              have HLT := Mx.hid hlt2
              clear hlt2
              go_wp2_with fail
              refine wp_region_C (fun W' => St w0 W' [srow g N cap l] Q) (by kernel_rfl) (by kernel_rfl) (by exact hs.drew) ?_
              repeat ((first | (refine cq_y0 (v := ?_) (by with_reducible rfl) ?_ ?_; rotate_left 1; (focus (intro wq hq; (try dsimp only at hq); (have y1 := hq.cell HSX.out; have y2 := hq.cell HSY.out); go_simp; (first | done | with_reducible rfl | (go_at_call 27; refine (HCM.out _ _ _ _ _ hq).mono ?_; rintro e w9 ⟨rfl, hk9⟩; refine ⟨?_, hq.call0 hk9⟩; with_reducible rfl))))) | (refine cq_no (by go_simp; first | done | (intro h9; cases h9)) ?_) | (refine cq_yes (v := ?_) (by go_simp) ?_ ?_; rotate_left 1; (focus (intro wq hq; (try dsimp only at hq); (have y1 := hq.cell HSX.out; have y2 := hq.cell HSY.out); go_simp; (first | done | with_reducible rfl | (go_at_call 27; refine (HCM.out _ _ _ _ _ hq).mono ?_; rintro e w9 ⟨rfl, hk9⟩; refine ⟨?_, hq.call0 hk9⟩; with_reducible rfl)))))); (try simp only [Act.put, List.setIfInBounds_toArray, List.set_cons_zero, List.set_cons_succ]))
              refine cq_nil ?_
              intro wq hq
              (try dsimp only at hq)
              go_wp2_with fail
              have hcb := HCB.out
              refine ⟨⟨s, c, h0s, hcb.1, by omega, rfl, by go_num, HA, Mx.hid (.inr (by rw [← HQ.out, HX.out, HY.out]; exact HLT.out)), hq⟩, by simp [intOf]; omega⟩
            · have hcmp : decide (f y - f x < 0) = false := decide_eq_false (by omega)
              have HLT := Mx.hid hlt2
              clear hlt2
              go_wp2_with fail
              refine wp_region_C (fun W' => St w0 W' [srow g N cap l] Q) (by kernel_rfl) (by kernel_rfl) (by exact hs.drew) ?_
              repeat ((first | (refine cq_y0 (v := ?_) (by with_reducible rfl) ?_ ?_; rotate_left 1; (focus (intro wq hq; (try dsimp only at hq); (have y1 := hq.cell HSX.out; have y2 := hq.cell HSY.out); go_simp; (first | done | with_reducible rfl | (go_at_call 27; refine (HCM.out _ _ _ _ _ hq).mono ?_; rintro e w9 ⟨rfl, hk9⟩; refine ⟨?_, hq.call0 hk9⟩; with_reducible rfl))))) | (refine cq_no (by go_simp; first | done | (intro h9; cases h9)) ?_) | (refine cq_yes (v := ?_) (by go_simp) ?_ ?_; rotate_left 1; (focus (intro wq hq; (try dsimp only at hq); (have y1 := hq.cell HSX.out; have y2 := hq.cell HSY.out); go_simp; (first | done | with_reducible rfl | (go_at_call 27; refine (HCM.out _ _ _ _ _ hq).mono ?_; rintro e w9 ⟨rfl, hk9⟩; refine ⟨?_, hq.call0 hk9⟩; with_reducible rfl)))))); (try simp only [Act.put, List.setIfInBounds_toArray, List.set_cons_zero, List.set_cons_succ]))
              refine cq_nil ?_
              intro wq hq
              (try dsimp only at hq)
              go_wp2_with fail
              have hcb := HCB.out
              refine ⟨⟨c + 1, r, by omega, by omega, hr0, by go_num, rfl, Mx.hid (.inr (by rw [show c + 1 - 1 = c by omega, show mid + m - (c + 1) = q by rw [HQ.out]; omega, HX.out, HY.out]; have := HLT.out; omega)), HB, hq⟩, by simp [intOf]; omega⟩
          · have hsr2 : s = r := by omega
            subst hsr2
            have HS := Mx.hid (show a ≤ s ∧ s ≤ m ∧ s ≤ mid ∧ mid + m - s ≤ b from by (first | (have h9 := HS0.out; omega) | omega))
            have HMID := Mx.hid (show Mid f l a m b s from by
              have h8 := HS.out
              refine ⟨h8.1, h8.2.1, ?_, ?_, ?_, ?_⟩
              · rw [← HMD.out]; omega
              · rw [← HMD.out]; omega
              · rw [← HMD.out]
                rcases HA.out with h7 | h7
                · first | (exact .inl h7) | (have h9 := HS0.out; exact .inr (.inl (by omega)))
                · exact .inr (.inr h7)
              · rw [← HMD.out]
                rcases HB.out with h7 | h7
                · first | (exact .inl h7) | (exact .inr (.inl (by omega)))
                · exact .inr (.inr (by rw [show mid + m - s - 1 = mid + m - 1 - s by omega]; exact h7)))
            obtain ⟨e, he⟩ : ∃ e, e = mid + m - s := ⟨_, rfl⟩
            have hei : (mid : Int) + (m : Int) - (s : Int) = (e : Int) := by have := HS.out; omega
            have HE := Mx.hid (show a ≤ s ∧ s ≤ m ∧ s ≤ mid ∧ e ≤ b ∧ m ≤ e ∧ mid ≤ e ∧ a < mid ∧ mid < b from by have := HS.out; omega)
            have HRT := Mx.hid (show ∀ l1, Rot l l1 s m e → Mov f l l1 a b ∧ Rise f l1 a s ∧ Rise f l1 s mid ∧ Rise f l1 mid e ∧ Rise f l1 e b ∧ Halves f l1 a mid b from fun l1 hrt => by
              have h9 := mid_rise HMID.out (by rw [HN.out]; exact hb) HR1.out HR2.out (l1 := l1) (by rw [← HMD.out, ← he]; exact hrt)
              rw [← HMD.out, ← he] at h9
              exact h9)
            clear he HMID HS HA HB h0s hr0 hlt hsr
            by_cases hsm : s < m
            · by_cases hme : m < e
              · go_wp2_with fail
                refine (rotate_any w0 _ g N cap Q l s m e _ hs HN.out hsm hme (by have := HE.out; omega) hl).mono ?_
                rintro e9 w2 ⟨l1, rfl, hs1, hrt⟩
                have HK := Mx.hid (HRT.out l1 hrt)
                have HL1 := Mx.hid (hrt.perm.length_eq.trans HN.out)
                clear hrt hs hsm hme
                by_cases has : a < s
                · by_cases hsd : s < mid
                  · go_wp2_with fail
                    refine (IH.out _ l1 a s mid (by have := HE.out; have := HD.out; omega) hs1 HL1.out has hsd (by have := HE.out; omega) HK.out.2.1 HK.out.2.2.1).mono ?_
                    rintro e9 w3 ⟨l2, rfl, hs2, hmv, hrz⟩
                    have HF2 := Mx.hid (fin_rec1 HK.out.1 HK.out.2.2.2.1 HK.out.2.2.2.2.1 HK.out.2.2.2.2.2 (by have := HE.out; omega) (by have := HE.out; omega) hmv hrz)
                    have HL2 := Mx.hid (hmv.perm.length_eq.trans HL1.out)
                    clear hmv hrz hs1 has hsd
                    by_cases hde : mid < e
                    · by_cases heb : e < b
                      · go_wp2_with fail
                        refine (IH.out _ l2 mid e b (by have := HE.out; have := HD.out; omega) hs2 HL2.out hde heb hb HF2.out.r1 HF2.out.r2).mono ?_
                        rintro e9 w4 ⟨l3, rfl, hs3, hmv, hrz⟩
                        have HF3 := Mx.hid (fin_rec2 HF2.out (by have := HE.out; omega) hmv hrz)
                        clear hmv hrz
                        go_wp2_with fail
                        go_end0
                        exact ⟨l3, rfl, hs3, HF3.out⟩
                      · have HF3 := Mx.hid (fin_end HF2.out (.inr (by have := HE.out; omega)))
                        go_wp2_with fail
                        go_end0
                        exact ⟨l2, rfl, hs2, HF3.out⟩
                    · have HF3 := Mx.hid (fin_end HF2.out (.inl (by have := HE.out; omega)))
                      go_wp2_with fail
                      go_end0
                      exact ⟨l2, rfl, hs2, HF3.out⟩
                  · have HF2 := Mx.hid (show Fin2 f l l1 a mid e b from ⟨HK.out.1, by have := HK.out.2.1; rwa [show s = mid by have := HE.out; omega] at this, HK.out.2.2.2.1, HK.out.2.2.2.2.1, HK.out.2.2.2.2.2⟩)
                    have HL2 := HL1
                    by_cases hde : mid < e
                    · by_cases heb : e < b
                      · go_wp2_with fail
                        refine (IH.out _ l1 mid e b (by have := HE.out; have := HD.out; omega) hs1 HL2.out hde heb hb HF2.out.r1 HF2.out.r2).mono ?_
                        rintro e9 w4 ⟨l3, rfl, hs3, hmv, hrz⟩
                        have HF3 := Mx.hid (fin_rec2 HF2.out (by have := HE.out; omega) hmv hrz)
                        clear hmv hrz
                        go_wp2_with fail
                        go_end0
                        exact ⟨l3, rfl, hs3, HF3.out⟩
                      · have HF3 := Mx.hid (fin_end HF2.out (.inr (by have := HE.out; omega)))
                        go_wp2_with fail
                        go_end0
                        exact ⟨l1, rfl, hs1, HF3.out⟩
                    · have HF3 := Mx.hid (fin_end HF2.out (.inl (by have := HE.out; omega)))
                      go_wp2_with fail
                      go_end0
                      exact ⟨l1, rfl, hs1, HF3.out⟩
                · have HF2 := Mx.hid (show Fin2 f l l1 a mid e b from ⟨HK.out.1, by have := HK.out.2.2.1; rwa [show s = a by have := HE.out; omega] at this, HK.out.2.2.2.1, HK.out.2.2.2.2.1, HK.out.2.2.2.2.2⟩)
                  have HL2 := HL1
                  by_cases hde : mid < e
                  · by_cases heb : e < b
                    · go_wp2_with fail
                      refine (IH.out _ l1 mid e b (by have := HE.out; have := HD.out; omega) hs1 HL2.out hde heb hb HF2.out.r1 HF2.out.r2).mono ?_
                      rintro e9 w4 ⟨l3, rfl, hs3, hmv, hrz⟩
                      have HF3 := Mx.hid (fin_rec2 HF2.out (by have := HE.out; omega) hmv hrz)
                      clear hmv hrz
                      go_wp2_with fail
                      go_end0
                      exact ⟨l3, rfl, hs3, HF3.out⟩
                    · have HF3 := Mx.hid (fin_end HF2.out (.inr (by have := HE.out; omega)))
                      go_wp2_with fail
                      go_end0
                      exact ⟨l1, rfl, hs1, HF3.out⟩
                  · have HF3 := Mx.hid (fin_end HF2.out (.inl (by have := HE.out; omega)))
                    go_wp2_with fail
                    go_end0
                    exact ⟨l1, rfl, hs1, HF3.out⟩
              · have HK := Mx.hid (HRT.out l (by rw [show e = m by have := HE.out; omega]; exact rot_id1 l s m (by omega)))
                have HL1 := HN
                by_cases has : a < s
                · by_cases hsd : s < mid
                  · go_wp2_with fail
                    refine (IH.out _ l a s mid (by have := HE.out; have := HD.out; omega) hs HL1.out has hsd (by have := HE.out; omega) HK.out.2.1 HK.out.2.2.1).mono ?_
                    rintro e9 w3 ⟨l2, rfl, hs2, hmv, hrz⟩
                    have HF2 := Mx.hid (fin_rec1 HK.out.1 HK.out.2.2.2.1 HK.out.2.2.2.2.1 HK.out.2.2.2.2.2 (by have := HE.out; omega) (by have := HE.out; omega) hmv hrz)
                    have HL2 := Mx.hid (hmv.perm.length_eq.trans HL1.out)
                    clear hmv hrz hs has hsd
                    by_cases hde : mid < e
                    · by_cases heb : e < b
                      · go_wp2_with fail
                        refine (IH.out _ l2 mid e b (by have := HE.out; have := HD.out; omega) hs2 HL2.out hde heb hb HF2.out.r1 HF2.out.r2).mono ?_
                        rintro e9 w4 ⟨l3, rfl, hs3, hmv, hrz⟩
                        have HF3 := Mx.hid (fin_rec2 HF2.out (by have := HE.out; omega) hmv hrz)
                        clear hmv hrz
                        go_wp2_with fail
                        go_end0
                        exact ⟨l3, rfl, hs3, HF3.out⟩
                      · have HF3 := Mx.hid (fin_end HF2.out (.inr (by have := HE.out; omega)))
                        go_wp2_with fail
                        go_end0
                        exact ⟨l2, rfl, hs2, HF3.out⟩
                    · have HF3 := Mx.hid (fin_end HF2.out (.inl (by have := HE.out; omega)))
                      go_wp2_with fail
                      go_end0
                      exact ⟨l2, rfl, hs2, HF3.out⟩
                  · have HF2 := Mx.hid (show Fin2 f l l a mid e b from ⟨HK.out.1, by have := HK.out.2.1; rwa [show s = mid by have := HE.out; omega] at this, HK.out.2.2.2.1, HK.out.2.2.2.2.1, HK.out.2.2.2.2.2⟩)
                    have HL2 := HL1
                    by_cases hde : mid < e
                    · by_cases heb : e < b
                      · go_wp2_with fail
                        refine (IH.out _ l mid e b (by have := HE.out; have := HD.out; omega) hs HL2.out hde heb hb HF2.out.r1 HF2.out.r2).mono ?_
                        rintro e9 w4 ⟨l3, rfl, hs3, hmv, hrz⟩
                        have HF3 := Mx.hid (fin_rec2 HF2.out (by have := HE.out; omega) hmv hrz)
                        clear hmv hrz
                        go_wp2_with fail
                        go_end0
                        exact ⟨l3, rfl, hs3, HF3.out⟩
                      · have HF3 := Mx.hid (fin_end HF2.out (.inr (by have := HE.out; omega)))
                        go_wp2_with fail
                        go_end0
                        exact ⟨l, rfl, hs, HF3.out⟩
                    · have HF3 := Mx.hid (fin_end HF2.out (.inl (by have := HE.out; omega)))
                      go_wp2_with fail
                      go_end0
                      exact ⟨l, rfl, hs, HF3.out⟩
                · have HF2 := Mx.hid (show Fin2 f l l a mid e b from ⟨HK.out.1, by have := HK.out.2.2.1; rwa [show s = a by have := HE.out; omega] at this, HK.out.2.2.2.1, HK.out.2.2.2.2.1, HK.out.2.2.2.2.2⟩)
                  have HL2 := HL1
                  by_cases hde : mid < e
                  · by_cases heb : e < b
                    · go_wp2_with fail
                      refine (IH.out _ l mid e b (by have := HE.out; have := HD.out; omega) hs HL2.out hde heb hb HF2.out.r1 HF2.out.r2).mono ?_
                      rintro e9 w4 ⟨l3, rfl, hs3, hmv, hrz⟩
                      have HF3 := Mx.hid (fin_rec2 HF2.out (by have := HE.out; omega) hmv hrz)
                      clear hmv hrz
                      go_wp2_with fail
                      go_end0
                      exact ⟨l3, rfl, hs3, HF3.out⟩
                    · have HF3 := Mx.hid (fin_end HF2.out (.inr (by have := HE.out; omega)))
                      go_wp2_with fail
                      go_end0
                      exact ⟨l, rfl, hs, HF3.out⟩
                  · have HF3 := Mx.hid (fin_end HF2.out (.inl (by have := HE.out; omega)))
                    go_wp2_with fail
                    go_end0
                    exact ⟨l, rfl, hs, HF3.out⟩
            · have HK := Mx.hid (HRT.out l (by rw [show s = m by have := HE.out; omega]; exact rot_id0 l m e))
              have HL1 := HN
              by_cases has : a < s
              · by_cases hsd : s < mid
                · go_wp2_with fail
                  refine (IH.out _ l a s mid (by have := HE.out; have := HD.out; omega) hs HL1.out has hsd (by have := HE.out; omega) HK.out.2.1 HK.out.2.2.1).mono ?_
                  rintro e9 w3 ⟨l2, rfl, hs2, hmv, hrz⟩
                  have HF2 := Mx.hid (fin_rec1 HK.out.1 HK.out.2.2.2.1 HK.out.2.2.2.2.1 HK.out.2.2.2.2.2 (by have := HE.out; omega) (by have := HE.out; omega) hmv hrz)
                  have HL2 := Mx.hid (hmv.perm.length_eq.trans HL1.out)
                  clear hmv hrz hs has hsd
                  by_cases hde : mid < e
                  · by_cases heb : e < b
                    · go_wp2_with fail
                      refine (IH.out _ l2 mid e b (by have := HE.out; have := HD.out; omega) hs2 HL2.out hde heb hb HF2.out.r1 HF2.out.r2).mono ?_
                      rintro e9 w4 ⟨l3, rfl, hs3, hmv, hrz⟩
                      have HF3 := Mx.hid (fin_rec2 HF2.out (by have := HE.out; omega) hmv hrz)
                      clear hmv hrz
                      go_wp2_with fail
                      go_end0
                      exact ⟨l3, rfl, hs3, HF3.out⟩
                    · have HF3 := Mx.hid (fin_end HF2.out (.inr (by have := HE.out; omega)))
                      go_wp2_with fail
                      go_end0
                      exact ⟨l2, rfl, hs2, HF3.out⟩
                  · have HF3 := Mx.hid (fin_end HF2.out (.inl (by have := HE.out; omega)))
                    go_wp2_with fail
                    go_end0
                    exact ⟨l2, rfl, hs2, HF3.out⟩
                · have HF2 := Mx.hid (show Fin2 f l l a mid e b from ⟨HK.out.1, by have := HK.out.2.1; rwa [show s = mid by have := HE.out; omega] at this, HK.out.2.2.2.1, HK.out.2.2.2.2.1, HK.out.2.2.2.2.2⟩)
                  have HL2 := HL1
                  by_cases hde : mid < e
                  · by_cases heb : e < b
                    · go_wp2_with fail
                      refine (IH.out _ l mid e b (by have := HE.out; have := HD.out; omega) hs HL2.out hde heb hb HF2.out.r1 HF2.out.r2).mono ?_
                      rintro e9 w4 ⟨l3, rfl, hs3, hmv, hrz⟩
                      have HF3 := Mx.hid (fin_rec2 HF2.out (by have := HE.out; omega) hmv hrz)
                      clear hmv hrz
                      go_wp2_with fail
                      go_end0
                      exact ⟨l3, rfl, hs3, HF3.out⟩
                    · have HF3 := Mx.hid (fin_end HF2.out (.inr (by have := HE.out; omega)))
                      go_wp2_with fail
                      go_end0
                      exact ⟨l, rfl, hs, HF3.out⟩
                  · have HF3 := Mx.hid (fin_end HF2.out (.inl (by have := HE.out; omega)))
                    go_wp2_with fail
                    go_end0
                    exact ⟨l, rfl, hs, HF3.out⟩
              · have HF2 := Mx.hid (show Fin2 f l l a mid e b from ⟨HK.out.1, by have := HK.out.2.2.1; rwa [show s = a by have := HE.out; omega] at this, HK.out.2.2.2.1, HK.out.2.2.2.2.1, HK.out.2.2.2.2.2⟩)
                have HL2 := HL1
                by_cases hde : mid < e
                · by_cases heb : e < b
                  · go_wp2_with fail
                    refine (IH.out _ l mid e b (by have := HE.out; have := HD.out; omega) hs HL2.out hde heb hb HF2.out.r1 HF2.out.r2).mono ?_
                    rintro e9 w4 ⟨l3, rfl, hs3, hmv, hrz⟩
                    have HF3 := Mx.hid (fin_rec2 HF2.out (by have := HE.out; omega) hmv hrz)
                    clear hmv hrz
                    go_wp2_with fail
                    go_end0
                    exact ⟨l3, rfl, hs3, HF3.out⟩
                  · have HF3 := Mx.hid (fin_end HF2.out (.inr (by have := HE.out; omega)))
                    go_wp2_with fail
                    go_end0
                    exact ⟨l, rfl, hs, HF3.out⟩
                · have HF3 := Mx.hid (fin_end HF2.out (.inl (by have := HE.out; omega)))
                  go_wp2_with fail
                  go_end0
                  exact ⟨l, rfl, hs, HF3.out⟩

theorem sym_any (w0 : World) (g N cap gp : Nat) (Q : List Rd) (f : ByteArray → Int) (hc : CmpOK w0 gp f) (hl : N ≤ 100000) (d : Nat) : SymIH w0 g N cap gp Q f d := by
  induction d with
  | zero => intro w l a m b hd _ _ ham hmb; omega
  | succ d ih => exact fun w l a m b hd hs hN ham hmb hb hr1 hr2 => sym_step w0 g N cap gp Q f hc hl d ih w l a m b hd hs hN ham hmb hb hr1 hr2
end Go.Proofs.YtloogjdafhjheaaGreat
