/- marlaw2.WireBack: the walk. -/
import Derived.Test.YtdalcdgkigkbbaaBackP
import Derived.Test.YtdalcdgkigkbbaaWireF
import Derived.Test.YtdalcdgkigkbbaaWireR
import Derived.Test.YtdalcdgkigkbbaaLib3
namespace Go.Mx
open Go Go.RowKit

/-- A slice of integers, by its cells. -/
theorem Sl.num {w : World} {v : Value} {n : Nat} {l : List Int} (h : Sl w 1 v n (is l)) : ∃ ao cap blk off, v = .slice ao n cap ∧ n ≤ cap ∧ cap ≤ 9223372036854775807 ∧ n = l.length ∧
    (∀ k (hk : k < l.length), ao = some ⟨blk, off, none⟩ ∧ w.cell? ⟨blk, off + k, none⟩ = some (.int .i64 l[k])) := by
  obtain ⟨ao, cap, rfl, h1, h2, h3, _, hc⟩ := h.form
  unfold maxLen at h2
  have h3 : n = l.length := by simpa [is] using h3.symm
  by_cases hnil : l = []
  · subst hnil; exact ⟨ao, cap, 0, 0, rfl, h1, by omega, h3, fun k hk => by simp at hk⟩
  · obtain ⟨blk, off, rfl, hh⟩ := hc (by simpa [is] using hnil)
    exact ⟨_, cap, blk, off, rfl, h1, by omega, h3, fun k hk => ⟨rfl, hh k _ (by simp [is, hk])⟩⟩

theorem is_app (l m : List Int) : is (l ++ m) = is l ++ is m := by simp [is]
def okN (n : Int) : Bool := decide (0 ≤ n ∧ n ≤ 72057594037927936)
def goodL (l : List Int) : List Int := l.filter okN
def allL (l : List Int) : List UInt8 := (goodL l).flatMap fun n => putL n.toNat
theorem goodL_snoc {l : List Int} {i : Nat} (h : i < l.length) (hg : okN l[i] = true) : goodL (l.take (i + 1)) = goodL (l.take i) ++ [l[i]] := by
  unfold goodL
  rw [List.take_succ_eq_append_getElem h, List.filter_append]
  simp [hg]
theorem goodL_skip {l : List Int} {i : Nat} (h : i < l.length) (hg : okN l[i] = false) : goodL (l.take (i + 1)) = goodL (l.take i) := by
  unfold goodL
  rw [List.take_succ_eq_append_getElem h, List.filter_append]
  simp [hg]
theorem allL_snoc {l : List Int} {i : Nat} (h : i < l.length) (hg : okN l[i] = true) : allL (l.take (i + 1)) = allL (l.take i) ++ putL l[i].toNat := by
  unfold allL
  rw [goodL_snoc h hg]
  simp
theorem allL_skip {l : List Int} {i : Nat} (h : i < l.length) (hg : okN l[i] = false) : allL (l.take (i + 1)) = allL (l.take i) := by
  unfold allL
  rw [goodL_skip h hg]
theorem goodL_le (l : List Int) : (goodL l).length ≤ l.length := List.length_filter_le _ _
theorem goodL_ok {l : List Int} {n : Int} (h : n ∈ goodL l) : 0 ≤ n ∧ n ≤ 72057594037927936 := of_decide_eq_true (List.mem_filter.1 h).2
theorem flat_le : ∀ (g : List Int) (_ : ∀ n ∈ g, 0 ≤ n ∧ n ≤ 72057594037927936), (g.flatMap fun n => putL n.toNat).length ≤ 9 * g.length
  | [], _ => by simp
  | n :: g, h => by
    have h1 := flat_le g fun m hm => h m (List.mem_cons_of_mem _ hm)
    have h2 := putL_9 (n := n.toNat) (by have := h n (List.mem_cons_self ..); omega)
    simp only [List.flatMap_cons, List.length_append, List.length_cons]
    omega
theorem allL_le (l : List Int) : (allL l).length ≤ 9 * l.length := by
  have := flat_le (goodL l) fun n hn => goodL_ok hn
  have := goodL_le l
  unfold allL
  omega
end Go.Mx
namespace Go.Proofs.Ytdalcdgkigkbbaa
open Go.RowKit Go.Mx

theorem bytes_same (v v' : Value) (l l' : List UInt8) (w : World) (hv : Sl w 1 v l.length (bs l)) (hv' : Sl w 1 v' l'.length (bs l')) (h : l = l') :
    Calls Try.prog 18 #[v, v'] w fun e w' => e = .returned (.bool true) ∧ w = w' :=
  (bytes_any v v' l l' w hv hv').mono fun e w' he => by rw [decide_eq_true h] at he; exact he

theorem Try.elInt : El Try.prog 32 3 1 8 := El.mk' Try.underlying32 (z := .int .i64 0) (by kernel_rfl) rfl (by omega)

set_option maxRecDepth 100000 in
set_option maxHeartbeats 4000000 in
theorem wireBack_any (w : World) (vl vb : Value) (l : List Int) (b : List UInt8) (at_ : Int) (hvl : Sl w 1 vl l.length (is l)) (hwl : ∀ n ∈ l, -9223372036854775808 ≤ n ∧ n ≤ 9223372036854775807) (hvb : Sl w 1 vb b.length (bs b)) (hl : l.length ≤ 300) (hb : b.length ≤ 6000) :
    Calls Try.prog 4 #[vl, vb, .int .i64 at_] w fun e w' => e = .returned (.bool true) ∧ Below w.heap.size w w' := by
  obtain ⟨ao, cap, blk, off, rfl, h1, h2, _, hc⟩ := hvl.num
  have HC := hid hc
  have HW := hid hwl
  clear hc hvl hwl
  obtain ⟨ab, cb, bb, fb, rfl, g1, g2, _, _⟩ := hvb.byt
  have HB := hid hvb
  clear hvb
  have d1 : decide (300 < (l.length : Int)) = false := decide_eq_false (by omega)
  have d2 : decide (6000 < (b.length : Int)) = false := decide_eq_false (by omega)
  go_enter Try.func4, Try.ntmps4
  go_wp2_with fail
  refine (first_any _).mono ?_
  rintro e w1 ⟨rfl, hs1⟩
  go_wp2_with (first | ((with_reducible show wpList _ _ _ _ _ _); refine wpl_want rfl ?_))
  go_loopw [7, 8, 9] (fun x y z wr => ∃ (i : Nat) (va vi : Value), i ≤ l.length ∧ va = x ∧ vi = y ∧ z = .int .i64 i ∧ St w wr [⟨va, 5, 1, (allL (l.take i)).length, bs (allL (l.take i))⟩, ⟨vi, 3, 1, (goodL (l.take i)).length, is (goodL (l.take i))⟩] []) (fun _ _ z _ => l.length - (intOf z).toNat)
  case atStart => exact ⟨0, _, _, by omega, rfl, rfl, rfl, (hs1.addNil 3 1).addNil 5 1⟩
  case round =>
    obtain ⟨i, va, vi, hi, rfl, rfl, rfl, hs⟩ := hrel
    obtain ⟨wo, rfl⟩ : ∃ x : World, x = wr := ⟨_, rfl⟩
    by_cases hlt : i < l.length
    · obtain ⟨rfl, c0⟩ := HC.out i hlt
      have c1 := hs.keep c0
      have hii : decide ((i : Int) < (l.length : Int)) = true := decide_eq_true (by omega)
      have wfb := HW.out l[i] (List.getElem_mem hlt)
      have wfi := WalkArith.wf_i64 wfb
      clear wfb
      generalize hn : l[i] = n at *
      have hp := hid (Put_any n wo wfi)
      by_cases hg : okN n = true
      · have hok := of_decide_eq_true hg
        obtain ⟨N, rfl⟩ : ∃ N : Nat, n = (N : Int) := ⟨n.toNat, by omega⟩
        have hN : N ≤ 72057594037927936 := by omega
        have e1 := hid (goodL_snoc hlt (by rw [hn]; exact hg))
        have e2 := hid (allL_snoc hlt (by rw [hn]; exact hg))
        rw [hn] at e1 e2
        rw [Int.toNat_natCast] at e2
        have t1 : decide (0 ≤ (N : Int)) = true := decide_eq_true (by omega)
        have t2 : decide ((N : Int) ≤ 72057594037927936) = true := decide_eq_true (by omega)
        obtain ⟨q, hq⟩ : ∃ q, (putL N).length = q + 1 := ⟨(putL N).length - 1, by have := putL_pos N; omega⟩
        have hS := getS_short N
        have hq9 := putL_9 hN
        rw [hq] at hS hq9
        rw [show q + 1 - 1 = q by omega] at hS
        have ha1 := allL_le (l.take i)
        have ha2 := goodL_le (l.take i)
        rw [List.length_take] at ha1 ha2
        have HP := hid fun (w' : World) e (h : PutPost (N : Int) wo e w') => h.good hN
        generalize putL N = X at *
        have hS := hid hS
        have t3 : decide (9 < (q : Int) + 1) = false := decide_eq_false (by omega)
        clear hn wfi hok hN hg
        generalize hA : allL (l.take i) = A at *
        generalize hI : goodL (l.take i) = I at *
        clear hA hI
        go_wp2_with (first
          | ((with_reducible show wpList _ _ _ _ _ _); refine wpl_want rfl ?_)
          | (go_at_call 14; refine hp.out.mono ?_; rintro e w2 hpp; obtain ⟨vx, rfl, hx⟩ := HP.out _ _ hpp; replace hs := hs.call1 hx; rw [hq] at hs; clear hpp hx; have c2 := hs.keep c0)
          | ((with_reducible show wpList _ _ _ _ _ _); refine wpl_len rfl 22 5 _ rfl Try.underlying22 (by exact hs.sl0) ?_)
          | ((with_reducible show wpList _ _ _ _ _ _); refine wpl_cut rfl 22 _ _ _ rfl Try.elU8 (by exact hs.sl0) 0 q (.inl ⟨rfl, rfl⟩) (.inr ⟨.i64, rfl⟩) (by omega) (by omega) ?_; intro vc hvc)
          | (go_at_call 16; refine (get_any vc (X.take q) 0 _ (by have := hvc _ hs.sl0; rw [bs_cut] at this; simpa [hq, Nat.min_eq_left (show q ≤ q + 1 by omega)] using this) (by rw [List.length_take]; omega)).mono ?_; rintro e w3 ⟨he, hgt⟩; rw [hS.out] at he; subst he; replace hs := hs.call0 hgt; clear hgt; have c3 := hs.keep c0))
        go_region_held3 (fun W => W.cell? ⟨blk, off + i, none⟩ = some (.int .i64 (N : Int))) (first | exact hB.keep c0 | exact hA.keep c0 | go_keep) (first
          | (have := hB; refine step_app1 rfl _ _ 22 rfl Try.elU8 (hB.perm (perm4b _ _ _ _)) rfl (by exact (hB.perm (perm4b _ _ _ _)).sl0) (bs_one _) (by omega) ?_; intro va' wA hA _)
          | (have := hA; refine step_app1 rfl _ _ 32 rfl Try.elInt (hA.perm (perm4b _ _ _ _).symm) rfl (by exact (hA.perm (perm4b _ _ _ _).symm).sl0) (by intro u hu; simp at hu; subst hu; rfl) (by omega) ?_; intro vi' wB hB _)
          | (have := hA; refine step_app1 rfl _ _ 32 rfl Try.elInt ((hA.made #[.int .i64 (N : Int)] 3 1 1 rfl (by simp [maxLen])).perm (perm4c _ _ _ _)) rfl (by exact ((hA.made #[.int .i64 (N : Int)] 3 1 1 rfl (by simp [maxLen])).perm (perm4c _ _ _ _)).sl0) (by intro u hu; simp at hu; subst hu; rfl) (by omega) ?_; intro vi' wB hB _)
          | (refine step_app1 rfl _ _ 22 rfl Try.elU8 (hs.drew) rfl (by exact (hs.drew).sl0) (bs_one _) (by omega) ?_; intro va' wA hA _)
          | (refine step_app1 rfl _ _ 22 rfl Try.elU8 ((hs.drew.made #[.int .i64 (N : Int)] 3 1 1 rfl (by simp [maxLen])).perm (perm4a _ _ _ _)) rfl (by exact ((hs.drew.made #[.int .i64 (N : Int)] 3 1 1 rfl (by simp [maxLen])).perm (perm4a _ _ _ _)).sl0) (bs_one _) (by omega) ?_; intro va' wA hA _)
          | (refine step_app1 rfl _ _ 32 rfl Try.elInt ((hs.drew.made #[.int .i64 (N : Int)] 3 1 1 rfl (by simp [maxLen])).perm (perm4c _ _ _ _)) rfl (by exact ((hs.drew.made #[.int .i64 (N : Int)] 3 1 1 rfl (by simp [maxLen])).perm (perm4c _ _ _ _)).sl0) (by intro u hu; simp at hu; subst hu; rfl) (by omega) ?_; intro vi' wB hB _))
        all_goals
          go_wp2_with fail
          go_roundw
          case rel =>
            refine ⟨i + 1, _, _, by omega, rfl, rfl, by go_num, ?_⟩
            rw [e1.out, e2.out, List.length_append, List.length_append, hq, bs_app, is_app]
            first | exact hB.pick2' | exact hA.pick2
          case measure => simp [intOf]; omega
      · have hg : okN n = false := by simpa using hg
        have e1 := hid (goodL_skip hlt (by rw [hn]; exact hg))
        have e2 := hid (allL_skip hlt (by rw [hn]; exact hg))
        have hng : n < 0 ∨ 72057594037927936 < n := by
          have := of_decide_eq_false hg
          omega
        by_cases hneg : n < 0
        · have t1 : decide (0 ≤ n) = false := decide_eq_false (by omega)
          clear hn wfi
          go_wp2_with (first | ((with_reducible show wpList _ _ _ _ _ _); refine wpl_want rfl ?_) | (go_at_call 14; refine hp.out.mono ?_; rintro e w2 hpp; obtain ⟨rfl, rfl⟩ := hpp.bad hng; clear hng hneg))
          go_roundw
          case rel => exact ⟨i + 1, _, _, by omega, rfl, rfl, by go_num, by rw [e1.out, e2.out]; exact hs⟩
          case measure => simp [intOf]; omega
        · have t1 : decide (0 ≤ n) = true := decide_eq_true (by omega)
          have t2 : decide (n ≤ 72057594037927936) = false := decide_eq_false (by omega)
          clear hn wfi
          go_wp2_with (first | ((with_reducible show wpList _ _ _ _ _ _); refine wpl_want rfl ?_) | (go_at_call 14; refine hp.out.mono ?_; rintro e w2 hpp; obtain ⟨rfl, rfl⟩ := hpp.bad hng; clear hng hneg))
          go_roundw
          case rel => exact ⟨i + 1, _, _, by omega, rfl, rfl, by go_num, by rw [e1.out, e2.out]; exact hs⟩
          case measure => simp [intOf]; omega
    · obtain rfl : i = l.length := by omega
      rw [List.take_of_length_le (Nat.le_refl _)] at hs
      have hii : decide ((l.length : Int) < (l.length : Int)) = false := decide_eq_false (by omega)
      have ha1 := allL_le l
      have ha2 := goodL_le l
      have hgood := hid (fun n (h : n ∈ goodL l) => goodL_ok h)
      have hall : Hid (allL l = (goodL l).flatMap fun n => putL n.toNat) := rfl
      generalize goodL l = I at *
      generalize allL l = A at *
      go_wp2_with fail
      have HA := hs.sl0
      have HI := hs.swap.sl0
      have hs1 := hs.bare
      clear hs hii
      have K0 := HI
      obtain ⟨ai, ci, bi, fi, rfl, k1, k2, _, ci'⟩ := K0.num
      have CI := hid ci'
      clear ci' K0
      go_loopw [15, 16] (fun x y ws => ∃ j : Nat, j ≤ I.length ∧ y = .int .i64 j ∧ x = .int .i64 ((((I.take j).flatMap fun n => putL n.toNat).length : Nat) : Int) ∧ St wo ws [] []) (fun _ y _ => I.length - (intOf y).toNat)
      case atStart => exact ⟨0, by omega, rfl, by simp, St.refl wo⟩
      case round =>
        obtain ⟨j, hj, rfl, rfl, hs⟩ := hrel
        by_cases hlt : j < I.length
        · obtain ⟨rfl, c0⟩ := CI.out j hlt
          have c1 := hs.keep c0
          have hjj : decide ((j : Int) < (I.length : Int)) = true := decide_eq_true (by omega)
          have hok := hgood.out I[j] (List.getElem_mem hlt)
          obtain ⟨N, hN⟩ : ∃ N : Nat, I[j] = (N : Int) := ⟨I[j].toNat, by omega⟩
          have hp := putL_pos N
          have hA : A = ((I.take j).flatMap fun n => putL n.toNat) ++ (putL N ++ ((I.drop (j + 1)).flatMap fun n => putL n.toNat)) := by
            rw [hall.out]
            conv => lhs; rw [← List.take_append_drop j I, List.drop_eq_getElem_cons hlt]
            simp [hN]
          have hG := getS_app ((I.take j).flatMap fun n => putL n.toNat) ((I.drop (j + 1)).flatMap fun n => putL n.toNat) N (by omega)
          rw [← hA] at hG
          have hst : ((I.take (j + 1)).flatMap fun n => putL n.toNat).length = ((I.take j).flatMap fun n => putL n.toNat).length + (putL N).length := by
            rw [List.take_succ_eq_append_getElem hlt]
            simp [hN]
          rw [hN] at c0 c1
          generalize ((I.take j).flatMap fun n => putL n.toNat).length = P at *
          generalize (putL N).length = q at *
          have hP : decide (((P + q : Nat) : Int) ≤ (P : Int)) = false := decide_eq_false (by omega)
          have hP' : decide ((P : Int) + (q : Int) ≤ (P : Int)) = false := decide_eq_false (by omega)
          have hG := hid hG
          have hst := hid hst
          clear hA hok hN hp
          go_wp2_with (first | ((with_reducible show wpList _ _ _ _ _ _); refine wpl_want rfl ?_) | (go_at_call 16; refine (get_any _ A (P : Int) _ (hs.old HA) (by omega)).mono ?_; rintro e w3 ⟨he, hgt⟩; rw [hG.out] at he; subst he; replace hs := hs.call0 hgt; clear hgt; have c3 := hs.keep c0))
          go_roundw
          case rel => exact ⟨j + 1, by omega, by go_num, by rw [hst.out, Int.natCast_add], hs⟩
          case measure => simp [intOf]; omega
        · obtain rfl : j = I.length := by omega
          have hjj : decide ((I.length : Int) < (I.length : Int)) = false := decide_eq_false (by omega)
          have hAl : ((I.take I.length).flatMap fun n => putL n.toNat).length = A.length := by rw [List.take_of_length_le (Nat.le_refl _), ← hall.out]
          rw [hAl]
          clear hAl hj
          replace HA := hs.old HA
          have HBB := hs.old (hs1.old HB.out)
          replace hs1 := hs1.call0 hs
          clear hs CI
          by_cases hz : (getS b at_).2.2 = 0
          · obtain ⟨N, k, m, q1, hN, rfl, q2, q3, q4, q5⟩ := getS_good hz
            have hG : Hid (getS b (k : Int) = ((N : Int), (m : Int), 0)) := by
              show getS b (k : Int) = _
              rw [← q1, ← q2, ← hz]
            clear q1 q2 hz
            have q5 := hid q5
            have m1 : decide ((k : Int) ≤ (m : Int)) = true := decide_eq_true (by omega)
            go_wp2_with (first
              | ((with_reducible show wpList _ _ _ _ _ _); refine wpl_want rfl ?_)
              | (have := HX; go_at_call 12; refine (first_any _).mono ?_; rintro e w' ⟨rfl, t⟩; replace HA := t.old HA; replace HBB := t.old HBB; replace hs1 := hs1.call0 t.bare; replace HX := t.old HX; clear t)
              | (go_at_call 16; refine (get_any _ b _ _ HBB (by omega)).mono ?_; rintro e w' ⟨he, t⟩; rw [hG.out] at he; subst he; replace HA := t.old HA; replace HBB := t.old HBB; replace hs1 := hs1.call0 t.bare; clear t)
              | (go_at_call 14; refine (Put_any (N : Int) _ (WalkArith.wf_i64 (by omega))).mono ?_; rintro e w' hpp; obtain ⟨vx, rfl, t⟩ := hpp.good hN; replace HA := t.old HA; replace HBB := t.old HBB; replace hs1 := hs1.call0 t.bare; have HX := t.sl0; clear t hpp)
              | ((with_reducible show wpList _ _ _ _ _ _); refine wpl_len rfl 22 5 _ rfl Try.underlying22 (by exact HA) ?_)
              | ((with_reducible show wpList _ _ _ _ _ _); refine wpl_cut rfl 22 _ _ _ rfl Try.elU8 (by exact HBB) k m (.inr ⟨.i64, rfl⟩) (.inr ⟨.i64, rfl⟩) q3 q4 ?_; intro vc hvc)
              | (go_at_call 18; refine (bytes_same vx vc (putL N) ((b.take m).drop k) _ HX (by have := hvc _ HBB; rw [bs_cut] at this; simpa [Nat.min_eq_left q4] using this) (q5.out).symm).mono ?_; rintro e w' ⟨rfl, rfl⟩))
            go_ret
            exact ⟨rfl, hs1.below⟩
          · obtain ⟨q1, q2⟩ := getS_bad hz
            have hG : Hid (getS b at_ = (0, 0, (getS b at_).2.2)) := Prod.ext q1 (Prod.ext q2 rfl)
            generalize (getS b at_).2.2 = er at *
            clear q1 q2
            have hne : (er != 0) = true := by simpa using hz
            clear hz
            go_wp2_with (first
              | ((with_reducible show wpList _ _ _ _ _ _); refine wpl_want rfl ?_)
              | (go_at_call 12; refine (first_any _).mono ?_; rintro e w' ⟨rfl, t⟩; replace HA := t.old HA; replace HBB := t.old HBB; replace hs1 := hs1.call0 t.bare; clear t)
              | (go_at_call 16; refine (get_any _ b _ _ HBB (by omega)).mono ?_; rintro e w' ⟨he, t⟩; rw [hG.out] at he; subst he; replace HA := t.old HA; replace HBB := t.old HBB; replace hs1 := hs1.call0 t.bare; clear t)
              | ((with_reducible show wpList _ _ _ _ _ _); refine wpl_len rfl 22 5 _ rfl Try.underlying22 (by exact HA) ?_))
            go_ret
            exact ⟨rfl, hs1.below⟩

set_option maxRecDepth 100000 in
theorem wireBack_big (w : World) (vl vb : Value) (l : List Int) (b : List UInt8) (at_ : Int) (hvl : Sl w 1 vl l.length (is l)) (hvb : Sl w 1 vb b.length (bs b)) (h : 300 < l.length ∨ 6000 < b.length) :
    Calls Try.prog 4 #[vl, vb, .int .i64 at_] w fun e w' => e = .returned (.bool true) ∧ Below w.heap.size w w' := by
  obtain ⟨ao, cap, blk, off, rfl, h1, h2, _, _⟩ := hvl.num
  obtain ⟨ab, cb, bb, fb, rfl, g1, g2, _, _⟩ := hvb.byt
  clear hvl hvb
  have hd : decide (300 < (l.length : Int)) = true ∨ (decide (300 < (l.length : Int)) = false ∧ decide (6000 < (b.length : Int)) = true) := by
    simp only [decide_eq_true_eq, decide_eq_false_iff_not]; omega
  rcases hd with d1 | ⟨d1, d2⟩
  all_goals
    go_enter Try.func4, Try.ntmps4
    go_wp2_with fail
    refine (first_any _).mono ?_
    rintro e w1 ⟨rfl, hs1⟩
    go_wp2_with (first | ((with_reducible show wpList _ _ _ _ _ _); refine wpl_want rfl ?_) | (go_at_call 12; refine (first_any _).mono ?_; rintro e w2 ⟨rfl, hs2⟩))
    go_ret
    exact ⟨rfl, (hs1.call0 hs2).below⟩

theorem wireBackRow (vl : Value) (l : List Int) {w : World} (hvl : Sl w 1 vl l.length (is l)) (hwl : ∀ n ∈ l, -9223372036854775808 ≤ n ∧ n ≤ 9223372036854775807) (vb : Value) (b : List UInt8) (hvb : Sl w 1 vb b.length (bs b)) (at_ : Int) (_wa : (Lit.int .i64 at_).wf = true) (_w : World) :
    Calls Try.prog 4 #[vl, vb, .int .i64 at_] w fun e w' => e = .returned (.bool true) ∧ Below w.heap.size w w' := by
  by_cases h : 300 < l.length ∨ 6000 < b.length
  · exact wireBack_big w vl vb l b at_ hvl hvb h
  · exact wireBack_any w vl vb l b at_ hvl hwl hvb (by omega) (by omega)
end Go.Proofs.Ytdalcdgkigkbbaa
