/- Walk of pkt's Same. Walk of the law's Few. -/
import Derived.Test.YtloogjdafhjheaaDoorPmB
namespace Go.Mx
open Go Go.RowKit
instance : DecidableEq Ms := fun a b => decidable_of_iff (a.kind = b.kind ∧ a.seq = b.seq ∧ a.n = b.n ∧ a.m = b.m ∧ a.ids = b.ids ∧ a.data = b.data) (by cases a; cases b; simp)
end Go.Mx
namespace Go.Proofs.YtloogjdafhjheaaDoor
open Go.RowKit Go.Mx
set_option maxRecDepth 100000 in
set_option maxHeartbeats 4000000 in
theorem sameP_any (iv dv iv' dv' : Value) (m m' : Ms) (w : World) (h : MB w iv dv m) (h' : MB w iv' dv' m') :
    Calls Tryd.prog 18 #[MV iv dv m, MV iv' dv' m'] w fun e w' => e = .returned (.bool (decide (m = m'))) ∧ St w w' [] [] := by
  obtain ⟨k1, s1, n1, m1, ids, data⟩ := m
  obtain ⟨k2, s2, n2, m2, ids', data'⟩ := m'
  have HM : Hid (decide ((⟨k1, s1, n1, m1, ids, data⟩ : Ms) = ⟨k2, s2, n2, m2, ids', data'⟩) = ((k1 == k2) && ((s1 == s2) && ((n1 == n2) && ((m1 == m2) && (decide (ids = ids') && decide (data = data'))))))) := by
    show _ = _
    rw [Bool.eq_iff_iff]
    simp
  have HS := Mx.hid (fun wz {R Q} (hz : St w wz R Q) => seq_any iv iv' ids ids' wz (hz.old h.i) (hz.old h'.i))
  have HD := Mx.hid (fun wz {R Q} (hz : St w wz R Q) => beq_any dv dv' data data' wz (hz.old h.d) (hz.old h'.d))
  generalize decide ((⟨k1, s1, n1, m1, ids, data⟩ : Ms) = ⟨k2, s2, n2, m2, ids', data'⟩) = ans at *
  generalize decide (ids = ids') = b5 at *
  generalize decide (data = data') = b6 at *
  unfold MV
  clear h h'
  go_enter Tryd.func18, Tryd.ntmps18
  go_upto_region 1 with (first | (((with_reducible show wpList _ _ _ _ _ _); refine wpl_box rfl 25 _ rfl (St.refl w) ([.int .i64 k1, .int .i64 s1, .int .i64 n1, .int .i64 m1, iv, dv]) (by rfl) ?_; intro gx wx hsx)) | (((with_reducible show wpList _ _ _ _ _ _); refine wpl_box rfl 25 _ rfl hsx ([.int .i64 k2, .int .i64 s2, .int .i64 n2, .int .i64 m2, iv', dv']) (by rfl) ?_; intro gy wy hsy)))
  have x0 := hsy.rcell (List.mem_cons_of_mem _ (List.mem_singleton.2 rfl)) (j := 0) rfl
  have x1 := hsy.rcell (List.mem_cons_of_mem _ (List.mem_singleton.2 rfl)) (j := 1) rfl
  have x2 := hsy.rcell (List.mem_cons_of_mem _ (List.mem_singleton.2 rfl)) (j := 2) rfl
  have x3 := hsy.rcell (List.mem_cons_of_mem _ (List.mem_singleton.2 rfl)) (j := 3) rfl
  have x4 := hsy.rcell (List.mem_cons_of_mem _ (List.mem_singleton.2 rfl)) (j := 4) rfl
  have y0 := hsy.cell (j := 0) rfl
  have y1 := hsy.cell (j := 1) rfl
  have y2 := hsy.cell (j := 2) rfl
  have y3 := hsy.cell (j := 3) rfl
  have y4 := hsy.cell (j := 4) rfl
  cases q1 : (k1 == k2) with
  | false => as_aux_lemma =>
    rw [q1] at HM
    go_wp2_with (first | ((with_reducible show wpList _ _ _ _ _ _); refine wpl_want rfl ?_) | (go_at_call 38; refine (HS.out _ hsy).mono ?_; rintro e wz ⟨rfl, hk⟩; replace hs := hsy.call0 hk; have x5 := hs.rcell (List.mem_cons_of_mem _ (List.mem_singleton.2 rfl)) (j := 5) rfl; have y5 := hs.cell (j := 5) rfl) | (go_at_call 29; refine (HD.out _ hs).mono ?_; rintro e wz2 ⟨rfl, rfl⟩))
    go_ret
    exact ⟨by rw [HM.out]; rfl, hsy.bare⟩
  | true =>
  rw [q1, Bool.true_and] at HM
  cases q2 : (s1 == s2) with
  | false => as_aux_lemma =>
    rw [q2] at HM
    go_wp2_with (first | ((with_reducible show wpList _ _ _ _ _ _); refine wpl_want rfl ?_) | (go_at_call 38; refine (HS.out _ hsy).mono ?_; rintro e wz ⟨rfl, hk⟩; replace hs := hsy.call0 hk; have x5 := hs.rcell (List.mem_cons_of_mem _ (List.mem_singleton.2 rfl)) (j := 5) rfl; have y5 := hs.cell (j := 5) rfl) | (go_at_call 29; refine (HD.out _ hs).mono ?_; rintro e wz2 ⟨rfl, rfl⟩))
    go_ret
    exact ⟨by rw [HM.out]; rfl, hsy.bare⟩
  | true =>
  rw [q2, Bool.true_and] at HM
  cases q3 : (n1 == n2) with
  | false => as_aux_lemma =>
    rw [q3] at HM
    go_wp2_with (first | ((with_reducible show wpList _ _ _ _ _ _); refine wpl_want rfl ?_) | (go_at_call 38; refine (HS.out _ hsy).mono ?_; rintro e wz ⟨rfl, hk⟩; replace hs := hsy.call0 hk; have x5 := hs.rcell (List.mem_cons_of_mem _ (List.mem_singleton.2 rfl)) (j := 5) rfl; have y5 := hs.cell (j := 5) rfl) | (go_at_call 29; refine (HD.out _ hs).mono ?_; rintro e wz2 ⟨rfl, rfl⟩))
    go_ret
    exact ⟨by rw [HM.out]; rfl, hsy.bare⟩
  | true =>
  rw [q3, Bool.true_and] at HM
  cases q4 : (m1 == m2) with
  | false => as_aux_lemma =>
    rw [q4] at HM
    go_wp2_with (first | ((with_reducible show wpList _ _ _ _ _ _); refine wpl_want rfl ?_) | (go_at_call 38; refine (HS.out _ hsy).mono ?_; rintro e wz ⟨rfl, hk⟩; replace hs := hsy.call0 hk; have x5 := hs.rcell (List.mem_cons_of_mem _ (List.mem_singleton.2 rfl)) (j := 5) rfl; have y5 := hs.cell (j := 5) rfl) | (go_at_call 29; refine (HD.out _ hs).mono ?_; rintro e wz2 ⟨rfl, rfl⟩))
    go_ret
    exact ⟨by rw [HM.out]; rfl, hsy.bare⟩
  | true =>
  rw [q4, Bool.true_and] at HM
  cases b5 with
  | false => as_aux_lemma =>
    go_wp2_with (first | ((with_reducible show wpList _ _ _ _ _ _); refine wpl_want rfl ?_) | (go_at_call 38; refine (HS.out _ hsy).mono ?_; rintro e wz ⟨rfl, hk⟩; replace hs := hsy.call0 hk; have x5 := hs.rcell (List.mem_cons_of_mem _ (List.mem_singleton.2 rfl)) (j := 5) rfl; have y5 := hs.cell (j := 5) rfl) | (go_at_call 29; refine (HD.out _ hs).mono ?_; rintro e wz2 ⟨rfl, rfl⟩))
    go_ret
    exact ⟨by rw [HM.out]; rfl, hs.bare⟩
  | true => as_aux_lemma =>
    go_wp2_with (first | ((with_reducible show wpList _ _ _ _ _ _); refine wpl_want rfl ?_) | (go_at_call 38; refine (HS.out _ hsy).mono ?_; rintro e wz ⟨rfl, hk⟩; replace hs := hsy.call0 hk; have x5 := hs.rcell (List.mem_cons_of_mem _ (List.mem_singleton.2 rfl)) (j := 5) rfl; have y5 := hs.cell (j := 5) rfl) | (go_at_call 29; refine (HD.out _ hs).mono ?_; rintro e wz2 ⟨rfl, rfl⟩))
    go_ret
    exact ⟨by rw [HM.out]; rfl, hs.bare⟩
end Go.Proofs.YtloogjdafhjheaaDoor

namespace Go.Mx
open Go Go.RowKit
/-- What the law calls a short message. -/
def fewM (m : Ms) : Prop := (∀ x ∈ m.ids, x.size ≤ 400) ∧ m.ids.length ≤ 100 ∧ m.data.length ≤ 3000
end Go.Mx
namespace Go.Proofs.YtloogjdafhjheaaDoor
open Go.RowKit Go.Mx
def FewPost (m : Ms) (w : World) (e : Ending) (w' : World) : Prop := ∃ fb, e = .returned (.bool fb) ∧ St w w' [] [] ∧ (fb = true → fewM m)
set_option maxRecDepth 100000 in
set_option maxHeartbeats 4000000 in
theorem few_any (iv dv : Value) (m : Ms) (w : World) (h : MB w iv dv m) :
    Calls Tryd.prog 7 #[MV iv dv m] w (FewPost m w) := by
  obtain ⟨kind, seq, n, mm, ids, data⟩ := m
  have HM : Hid (∀ P : Prop, (∀ x ∈ ids, x.size ≤ 400) → ids.length ≤ 100 → data.length ≤ 3000 → fewM ⟨kind, seq, n, mm, ids, data⟩) := fun _ a b c => ⟨a, b, c⟩
  have hi := h.i
  have hd := h.d
  simp only [] at hi hd
  obtain ⟨io, ic, blk, off, rfl, i1, i2, _, hic⟩ := hi.txt
  obtain ⟨dq, dc, rfl, d1, d2, -⟩ := hd.form
  have HC := Mx.hid hic
  unfold maxLen at d2
  unfold MV
  clear h hi hd hic
  go_enter Tryd.func7, Tryd.ntmps7
  go_upto_region 1 with (((with_reducible show wpList _ _ _ _ _ _); refine wpl_box rfl 25 _ rfl (St.refl w) ([.int .i64 kind, .int .i64 seq, .int .i64 n, .int .i64 mm, .slice io ids.length ic, .slice dq data.length dc]) (by rfl) ?_; intro gx wx hsx))
  go_wp2_with fail
  go_loop [3] (fun y => ∃ i : Nat, i ≤ ids.length ∧ y = .int .i64 i ∧ i ≤ 100 ∧ Hid (∀ j (hj : j < ids.length), j < i → ids[j].size ≤ 400)) (fun y => ids.length - (intOf y).toNat)
  case atStart => exact ⟨0, by omega, rfl, by omega, fun j _ h => absurd h (by omega)⟩
  case round =>
    obtain ⟨i, hi, rfl, hi100, HA⟩ := hrel
    have x4 := hsx.cell (j := 4) rfl
    have x5 := hsx.cell (j := 5) rfl
    by_cases hlt : i < ids.length
    · have q1 : decide ((i : Int) < (ids.length : Int)) = true := decide_eq_true (by omega)
      by_cases h100 : i < 100
      · have q2 : decide ((i : Int) < 100) = true := decide_eq_true (by omega)
        obtain ⟨rfl, c0⟩ := HC.out i hlt
        replace c0 := hsx.keep c0
        have HN : Hid (ids[i].size ≤ 400 → ∀ j (hj : j < ids.length), j < i + 1 → ids[j].size ≤ 400) := fun h j hj hji => by
          rcases Nat.lt_or_ge j i with h1 | h1
          · exact HA.out j hj h1
          · obtain rfl : j = i := by omega
            exact h
        generalize ids[i] = s at *
        by_cases h400 : s.size ≤ 400
        · have q3 : decide ((400 : Int) < (s.size : Int)) = false := decide_eq_false (by omega)
          go_wp2_with ((with_reducible show wpList _ _ _ _ _ _); refine wpl_want rfl ?_)
          exact ⟨⟨i + 1, by omega, by go_num, by omega, HN.out h400⟩, by simp [intOf]; omega⟩
        · have q3 : decide ((400 : Int) < (s.size : Int)) = true := decide_eq_true (by omega)
          go_wp2_with ((with_reducible show wpList _ _ _ _ _ _); refine wpl_want rfl ?_)
          go_ret
          exact ⟨false, rfl, hsx.bare, fun h => by cases h⟩
      · have q2 : decide ((i : Int) < 100) = false := decide_eq_false (by omega)
        have q3 : decide ((ids.length : Int) ≤ 100) = false := decide_eq_false (by omega)
        go_wp2_with ((with_reducible show wpList _ _ _ _ _ _); refine wpl_want rfl ?_)
        go_ret
        exact ⟨false, rfl, hsx.bare, fun h => by cases h⟩
    · have q1 : decide ((i : Int) < (ids.length : Int)) = false := decide_eq_false (by omega)
      have q3 : decide ((ids.length : Int) ≤ 100) = true := decide_eq_true (by omega)
      have hf : Hid (decide ((data.length : Int) ≤ 3000) = true → fewM ⟨kind, seq, n, mm, ids, data⟩) := fun h => HM.out True (fun x hx => by
        obtain ⟨j, hj, rfl⟩ := List.mem_iff_getElem.1 hx
        exact HA.out j hj (by omega)) (by omega) (by have := of_decide_eq_true h; omega)
      go_wp2_with ((with_reducible show wpList _ _ _ _ _ _); refine wpl_want rfl ?_)
      go_ret
      exact ⟨_, rfl, hsx.bare, hf.out⟩
end Go.Proofs.YtloogjdafhjheaaDoor
