/- Walks of the document's reader: Take, Num, Byte. How long what the document reads is: the plain mathematics. -/
import Derived.Test.YtloogjdafhjheaaGreatJ24R6I
import Derived.Test.YtloogjdafhjheaaGreatJ11ObjI
import Derived.Test.YtloogjdafhjheaaGreatObjD
namespace Go.Mx
open Go Go.RowKit
theorem getS_drop (B : List UInt8) (p : Nat) (hp : p ≤ B.length) : getS B (p : Int) = ((getS (B.drop p) 0).1, if (getS (B.drop p) 0).2.2 = 0 then (p : Int) + (getS (B.drop p) 0).2.1 else 0, (getS (B.drop p) 0).2.2) := by
  have hD : (B.drop p).length = B.length - p := List.length_drop
  have a1 : ¬ ((p : Int) < 0 ∨ (B.length : Int) < (p : Int)) := by omega
  have a2 : ¬ ((0 : Int) < 0 ∨ ((B.drop p).length : Int) < 0) := by omega
  unfold getS
  rw [if_neg a1, if_neg a2]
  simp only [Int.toNat_natCast, show (0 : Int).toNat = 0 from rfl, List.drop_zero, Nat.zero_add]
  generalize B.drop p = D at *
  by_cases h2 : hiN D = D.length
  · rw [if_pos (show p + hiN D = B.length by omega), if_pos h2]; simp
  · rw [if_neg (show ¬ p + hiN D = B.length by omega), if_neg h2]
    split
    · simp
    · simp only [if_true, Prod.mk.injEq, true_and, and_true]
      omega
theorem tk_pos {n p : Nat} {B : List UInt8} (h : p + n ≤ B.length) : tk n (B.drop p, false) = ((B.take (p + n)).drop p, (B.drop (p + n), false)) := by
  rw [tk_go (by rw [List.length_drop]; omega), List.drop_drop, List.drop_take]
  congr 2
  omega
theorem nmR_ok {B : List UInt8} {p : Nat} (h : (getS (B.drop p) 0).2.2 = 0) : nmR (B.drop p, false) = ((getS (B.drop p) 0).1.toNat, (B.drop (p + (getS (B.drop p) 0).2.1.toNat), false)) := by
  have hb := getS_bounds (B.drop p) h
  unfold nmR
  rw [if_neg (by simp)]
  unfold nm
  simp only []
  rw [if_pos h, tk_go (by omega), List.drop_drop]
theorem nmR_err {B : List UInt8} {p : Nat} (h : (getS (B.drop p) 0).2.2 ≠ 0) : nmR (B.drop p, false) = (0, (B.drop p, true)) := by
  unfold nmR
  rw [if_neg (by simp)]
  unfold nm
  simp only []
  rw [if_neg h]
theorem nmR_bad (l : List UInt8) : nmR (l, true) = (0, (l, true)) := by unfold nmR; rw [if_pos rfl]
end Go.Mx
namespace Go.Proofs.YtloogjdafhjheaaGreat
open Go.RowKit Go.Mx

def RTakePost (w0 : World) (R : List Row) (Q : List Rd) (g : Nat) (vB : Value) (B : List UInt8) (t : List UInt8 × Src) (e : Ending) (w' : World) : Prop :=
  ∃ (vx : Value) (p' : Nat) (sh : Bool), e = .returned vx ∧ St w0 w' ((⟨vx, 5, 1, (t.1).length, bs (t.1)⟩ : Row) :: (⟨.slice (some ⟨g, 0, none⟩) 1 1, 102, 3, 1, [vB, .int .i64 (p' : Int), .bool sh]⟩ : Row) :: R) ((⟨vB, 1, (B).length, bs (B)⟩ : Rd) :: Q) ∧ p' ≤ B.length ∧ (B.drop p', sh) = t.2
def RNumPost (w0 : World) (R : List Row) (Q : List Rd) (g : Nat) (vB : Value) (B : List UInt8) (x : Value) (s : Src) (e : Ending) (w' : World) : Prop :=
  ∃ (p' : Nat) (sh : Bool), e = .returned x ∧ St w0 w' ((⟨.slice (some ⟨g, 0, none⟩) 1 1, 102, 3, 1, [vB, .int .i64 (p' : Int), .bool sh]⟩ : Row) :: R) ((⟨vB, 1, (B).length, bs (B)⟩ : Rd) :: Q) ∧ p' ≤ B.length ∧ (B.drop p', sh) = s

set_option maxRecDepth 100000 in
set_option maxHeartbeats 2000000 in
theorem take_r {w0 w : World} {R : List Row} {Q : List Rd} {g : Nat} {vB : Value} {B : List UInt8} {p : Nat} {sh : Bool} (n : Nat) (hs : St w0 w ((⟨.slice (some ⟨g, 0, none⟩) 1 1, 102, 3, 1, [vB, .int .i64 (p : Int), .bool sh]⟩ : Row) :: R) ((⟨vB, 1, (B).length, bs (B)⟩ : Rd) :: Q)) (hp : p ≤ B.length) (hl : B.length ≤ 70368744177664) (hn : n ≤ 72057594037927936) :
    Calls Tryz.prog 51 #[.pointer (some ⟨g, 0, none⟩), .int .i64 (n : Int)] w (RTakePost w0 R Q g vB B (tk n (B.drop p, sh))) := by
  have hB : Sl w 1 vB B.length (bs B) := hs.q0
  have c0 : w.cell? ⟨g, 0, none⟩ = some vB := hs.cell (j := 0) rfl
  have c1 : w.cell? ⟨g, 1, none⟩ = some (.int .i64 (p : Int)) := hs.cell (j := 1) rfl
  have c2 : w.cell? ⟨g, 2, none⟩ = some (.bool sh) := hs.cell (j := 2) rfl
  cases sh with
  | true =>
    rw [tk_stop (.inl rfl)]
    obtain ⟨ao, cap, rfl, h1, h2, _⟩ := hB.bytes
    unfold maxLen at h2
    have HP := Mx.hid hp
    clear hB hp
    go_enter Tryz.func51, Tryz.ntmps51
    go_wp2_with fail
    refine wp_region_C (fun W' => St w0 W' ((⟨.slice (some ⟨g, 0, none⟩) 1 1, 102, 3, 1, [.slice ao B.length cap, .int .i64 (p : Int), .bool true]⟩ : Row) :: R) ((⟨.slice ao B.length cap, 1, (B).length, bs (B)⟩ : Rd) :: Q)) (by kernel_rfl) (by kernel_rfl) (by exact hs.drew) ?_
    repeat ((first | (refine cq_y0 (v := ?_) (by with_reducible rfl) ?_ ?_; rotate_left 1; (focus (intro wq hq; (try dsimp only at hq); (have y0 := hq.cell (j := 0) rfl; have y1 := hq.cell (j := 1) rfl; have y2 := hq.cell (j := 2) rfl); go_simp; (first | done | with_reducible rfl | fail)))) | (refine cq_no (by go_simp; first | done | (intro h9; cases h9)) ?_) | (refine cq_yes (v := ?_) (by go_simp) ?_ ?_; rotate_left 1; (focus (intro wq hq; (try dsimp only at hq); (have y0 := hq.cell (j := 0) rfl; have y1 := hq.cell (j := 1) rfl; have y2 := hq.cell (j := 2) rfl); go_simp; (first | done | with_reducible rfl | fail))))); (try simp only [Act.put, List.setIfInBounds_toArray, List.set_cons_zero, List.set_cons_succ]))
    refine cq_nil ?_
    intro wq hq
    (try dsimp only at hq)
    go_wp2_with (first | ((with_reducible show wpList _ _ _ _ _ _); refine wpl_want rfl ?_) | ((with_reducible show wpList _ _ _ _ _ _); refine wpl_store1 rfl 4 _ _ rfl hq (2) rfl (.bool true) rfl rfl (by kernel_rfl) (by simp) rfl ?_; intro w1 hs1))
    go_ret
    exact ⟨_, p, true, rfl, hs1.addNil _ _, HP.out, rfl⟩
  | false =>
    by_cases hlt : B.length < p + n
    · rw [tk_stop (.inr (by rw [List.length_drop]; omega))]
      obtain ⟨ao, cap, rfl, h1, h2, _⟩ := hB.bytes
      unfold maxLen at h2
      have q1 : decide ((n : Int) < 0) = false := decide_eq_false (by omega)
      have q2 : decide (((B.length : Int) - (p : Int)) < (n : Int)) = true := decide_eq_true (by omega)
      have q3 : IntKind.i64.wrap ((B.length : Int) - (p : Int)) = (B.length : Int) - (p : Int) := IntWalk.i64_in _ (by omega)
      have HP := Mx.hid hp
      clear hB hp hlt
      go_enter Tryz.func51, Tryz.ntmps51
      go_wp2_with fail
      refine wp_region_C (fun W' => St w0 W' ((⟨.slice (some ⟨g, 0, none⟩) 1 1, 102, 3, 1, [.slice ao B.length cap, .int .i64 (p : Int), .bool false]⟩ : Row) :: R) ((⟨.slice ao B.length cap, 1, (B).length, bs (B)⟩ : Rd) :: Q)) (by kernel_rfl) (by kernel_rfl) (by exact hs.drew) ?_
      repeat ((first | (refine cq_y0 (v := ?_) (by with_reducible rfl) ?_ ?_; rotate_left 1; (focus (intro wq hq; (try dsimp only at hq); (have y0 := hq.cell (j := 0) rfl; have y1 := hq.cell (j := 1) rfl; have y2 := hq.cell (j := 2) rfl); go_simp; (first | done | with_reducible rfl | fail)))) | (refine cq_no (by go_simp; first | done | (intro h9; cases h9)) ?_) | (refine cq_yes (v := ?_) (by go_simp) ?_ ?_; rotate_left 1; (focus (intro wq hq; (try dsimp only at hq); (have y0 := hq.cell (j := 0) rfl; have y1 := hq.cell (j := 1) rfl; have y2 := hq.cell (j := 2) rfl); go_simp; (first | done | with_reducible rfl | fail))))); (try simp only [Act.put, List.setIfInBounds_toArray, List.set_cons_zero, List.set_cons_succ]))
      refine cq_nil ?_
      intro wq hq
      (try dsimp only at hq)
      go_wp2_with (first | ((with_reducible show wpList _ _ _ _ _ _); refine wpl_want rfl ?_) | ((with_reducible show wpList _ _ _ _ _ _); refine wpl_store1 rfl 4 _ _ rfl hq (2) rfl (.bool true) rfl rfl (by kernel_rfl) (by simp) rfl ?_; intro w1 hs1))
      go_ret
      exact ⟨_, p, true, rfl, hs1.addNil _ _, HP.out, rfl⟩
    · rw [tk_pos (by omega)]
      obtain ⟨xa, p2, q2⟩ := hB.cutRun Tryz.elU8 (some (.int .i64 (p : Int))) (some (.int .i64 ((p + n : Nat) : Int))) p (p + n) (.inr ⟨.i64, rfl⟩) (.inr ⟨.i64, rfl⟩) (by omega) (by omega)
      have HX := Mx.hid (fun (wx : World) (R' : List Row) (h : St w0 wx R' ((⟨vB, 1, (B).length, bs (B)⟩ : Rd) :: Q)) => Sl.cutB (q2 _ h.q0) (by omega) (by omega))
      have HXL := Mx.hid (show ((B.take (p + n)).drop p).length = n by rw [List.length_drop, List.length_take]; omega)
      have HPN := Mx.hid (show p + n ≤ B.length by omega)
      obtain ⟨ao, cap, rfl, h1, h2, _⟩ := hB.bytes
      obtain ⟨xo, xc, rfl, _⟩ := id (HX.out _ _ hs)
      unfold maxLen at h2
      generalize (B.take (p + n)).drop p = X at *
      have q1 : decide ((n : Int) < 0) = false := decide_eq_false (by omega)
      have q3 : IntKind.i64.wrap ((B.length : Int) - (p : Int)) = (B.length : Int) - (p : Int) := IntWalk.i64_in _ (by omega)
      have q4 : decide (((B.length : Int) - (p : Int)) < (n : Int)) = false := decide_eq_false (by omega)
      have hn2 : n ≤ 70368744177664 := by omega
      obtain ⟨pn, hpn⟩ : ∃ pn, pn = p + n := ⟨_, rfl⟩
      have q5 : IntKind.i64.wrap ((p : Int) + (n : Int)) = (pn : Int) := by rw [IntWalk.i64_in _ (by omega)]; omega
      rw [← hpn] at p2 HPN ⊢
      have HN := Mx.hid hpn
      clear hB hp hlt q2 hpn
      go_enter Tryz.func51, Tryz.ntmps51
      go_wp2_with fail
      refine wp_region_C (fun W' => St w0 W' ((⟨.slice (some ⟨g, 0, none⟩) 1 1, 102, 3, 1, [.slice ao B.length cap, .int .i64 (p : Int), .bool false]⟩ : Row) :: R) ((⟨.slice ao B.length cap, 1, (B).length, bs (B)⟩ : Rd) :: Q)) (by kernel_rfl) (by kernel_rfl) (by exact hs.drew) ?_
      repeat ((first | (refine cq_y0 (v := ?_) (by with_reducible rfl) ?_ ?_; rotate_left 1; (focus (intro wq hq; (try dsimp only at hq); (have y0 := hq.cell (j := 0) rfl; have y1 := hq.cell (j := 1) rfl; have y2 := hq.cell (j := 2) rfl); go_simp; (first | done | with_reducible rfl | fail)))) | (refine cq_no (by go_simp; first | done | (intro h9; cases h9)) ?_) | (refine cq_yes (v := ?_) (by go_simp) ?_ ?_; rotate_left 1; (focus (intro wq hq; (try dsimp only at hq); (have y0 := hq.cell (j := 0) rfl; have y1 := hq.cell (j := 1) rfl; have y2 := hq.cell (j := 2) rfl); go_simp; (first | done | with_reducible rfl | fail))))); (try simp only [Act.put, List.setIfInBounds_toArray, List.set_cons_zero, List.set_cons_succ]))
      refine cq_nil ?_
      intro wq hq
      (try dsimp only at hq)
      clear q3 q4
      go_wp2_with (first | ((with_reducible show wpList _ _ _ _ _ _); refine wpl_want rfl ?_))
      refine wp_region_C (fun W' => St w0 W' ((⟨.slice (some ⟨g, 0, none⟩) 1 1, 102, 3, 1, [.slice ao B.length cap, .int .i64 (p : Int), .bool false]⟩ : Row) :: R) ((⟨.slice ao B.length cap, 1, (B).length, bs (B)⟩ : Rd) :: Q)) (by kernel_rfl) (by kernel_rfl) (by exact hq.drew) ?_
      repeat ((first | (refine cq_y0 (v := ?_) (by with_reducible rfl) ?_ ?_; rotate_left 1; (focus (intro wq hq; (try dsimp only at hq); (have y0 := hq.cell (j := 0) rfl; have y1 := hq.cell (j := 1) rfl; have y2 := hq.cell (j := 2) rfl); go_simp; (first | done | with_reducible rfl | fail)))) | (refine cq_no (by go_simp; first | done | (intro h9; cases h9)) ?_) | (refine cq_yes (v := ?_) (by go_simp) ?_ ?_; rotate_left 1; (focus (intro wq hq; (try dsimp only at hq); (have y0 := hq.cell (j := 0) rfl; have y1 := hq.cell (j := 1) rfl; have y2 := hq.cell (j := 2) rfl); go_simp; (first | done | with_reducible rfl | fail))))); (try simp only [Act.put, List.setIfInBounds_toArray, List.set_cons_zero, List.set_cons_succ]))
      refine cq_nil ?_
      intro wq hq
      (try dsimp only at hq)
      have z1 := hq.cell (j := 1) rfl
      go_wp2_with (first | ((with_reducible show wpList _ _ _ _ _ _); refine wpl_want rfl ?_) | ((with_reducible show wpList _ _ _ _ _ _); refine wpl_store1 rfl 3 _ _ rfl hq (1) rfl (.int .i64 (pn : Int)) rfl rfl (by kernel_rfl) (by simp) rfl ?_; intro w1 hs1) | (go_at_call 22; refine (copyBytes_any _ X _ (HX.out _ _ hs1) (by rw [HXL.out]; omega)).mono ?_; rintro e w2 ⟨vx, rfl, hk⟩))
      go_ret
      exact ⟨_, pn, false, rfl, hs1.call1 hk, HPN.out, rfl⟩

set_option maxRecDepth 100000 in
set_option maxHeartbeats 2000000 in
theorem num_r {w0 w : World} {R : List Row} {Q : List Rd} {g : Nat} {vB : Value} {B : List UInt8} {p : Nat} {sh : Bool} (hs : St w0 w ((⟨.slice (some ⟨g, 0, none⟩) 1 1, 102, 3, 1, [vB, .int .i64 (p : Int), .bool sh]⟩ : Row) :: R) ((⟨vB, 1, (B).length, bs (B)⟩ : Rd) :: Q)) (hp : p ≤ B.length) (hl : B.length ≤ 70368744177664) :
    Calls Tryz.prog 52 #[.pointer (some ⟨g, 0, none⟩)] w (RNumPost w0 R Q g vB B (.int .i64 ((nmR (B.drop p, sh)).1 : Int)) (nmR (B.drop p, sh)).2) := by
  have HG := Mx.hid (fun wx (h : St w0 wx ((⟨.slice (some ⟨g, 0, none⟩) 1 1, 102, 3, 1, [vB, .int .i64 (p : Int), .bool sh]⟩ : Row) :: R) ((⟨vB, 1, (B).length, bs (B)⟩ : Rd) :: Q)) => refGet_any vB B (p : Int) wx h.q0 (by omega))
  unfold GetPost at HG
  rw [getS_drop B p hp] at HG
  have hbd := getS_bounds (B.drop p)
  have hok := nmR_ok (B := B) (p := p)
  have her := nmR_err (B := B) (p := p)
  have hdl : (B.drop p).length = B.length - p := List.length_drop
  have hB : Sl w 1 vB B.length (bs B) := hs.q0
  obtain ⟨ao, cap, rfl, h1, h2, _⟩ := hB.bytes
  have HP := Mx.hid hp
  generalize getS (B.drop p) 0 = t at *
  obtain ⟨n, e, er⟩ := t
  simp only [] at *
  have hkeep := hs
  clear hB
  by_cases he : er = 0
  · subst he
    obtain ⟨⟨hn0, hn1⟩, he0, he1⟩ := hbd rfl
    obtain ⟨n, rfl⟩ := Int.eq_ofNat_of_zero_le hn0
    obtain ⟨e, rfl⟩ := Int.eq_ofNat_of_zero_le he0
    rw [if_pos rfl] at HG
    have HOK := Mx.hid (hok rfl)
    have HPE := Mx.hid (show p + e ≤ B.length by omega)
    clear hok her hbd hn0 he0 hn1 he1 hdl hkeep
    cases sh with
    | true =>
      rw [nmR_bad]
      clear HOK
      go_enter Tryz.func52, Tryz.ntmps52
      go_wp2_with fail
      refine wp_region_C (fun W' => St w0 W' ((⟨.slice (some ⟨g, 0, none⟩) 1 1, 102, 3, 1, [.slice ao B.length cap, .int .i64 (p : Int), .bool true]⟩ : Row) :: R) ((⟨.slice ao B.length cap, 1, (B).length, bs (B)⟩ : Rd) :: Q)) (by kernel_rfl) (by kernel_rfl) (by exact hs.drew) ?_
      repeat ((first | (refine cq_y0 (v := ?_) (by with_reducible rfl) ?_ ?_; rotate_left 1; (focus (intro wq hq; (try dsimp only at hq); (have y0 := hq.cell (j := 0) rfl; have y1 := hq.cell (j := 1) rfl; have y2 := hq.cell (j := 2) rfl); go_simp; (first | done | with_reducible rfl | (go_at_call 73; refine (HG.out _ hq).mono ?_; rintro e w9 ⟨rfl, hk9⟩; refine ⟨?_, hq.call0 hk9⟩; with_reducible rfl))))) | (refine cq_no (by go_simp; first | done | (intro h9; cases h9)) ?_) | (refine cq_yes (v := ?_) (by go_simp) ?_ ?_; rotate_left 1; (focus (intro wq hq; (try dsimp only at hq); (have y0 := hq.cell (j := 0) rfl; have y1 := hq.cell (j := 1) rfl; have y2 := hq.cell (j := 2) rfl); go_simp; (first | done | with_reducible rfl | (go_at_call 73; refine (HG.out _ hq).mono ?_; rintro e w9 ⟨rfl, hk9⟩; refine ⟨?_, hq.call0 hk9⟩; with_reducible rfl)))))); (try simp only [Act.put, List.setIfInBounds_toArray, List.set_cons_zero, List.set_cons_succ]))
      refine cq_nil ?_
      intro wq hq
      (try dsimp only at hq)
      have z2 := hq.cell (j := 2) rfl
      go_wp2_with (first | ((with_reducible show wpList _ _ _ _ _ _); refine wpl_want rfl ?_) | ((with_reducible show wpList _ _ _ _ _ _); refine wpl_store1 rfl 4 _ _ rfl hq (2) rfl (.bool true) rfl rfl (by kernel_rfl) (by simp) rfl ?_; intro w1 hs1))
      go_ret
      exact ⟨p, true, rfl, hs1, HP.out, rfl⟩
    | false =>
      rw [HOK.out]
      obtain ⟨pe, hpe⟩ : ∃ pe, pe = p + e := ⟨_, rfl⟩
      have HE2 := Mx.hid hpe
      have hcast : ((p : Int) + (e : Int)) = (pe : Int) := by omega
      rw [hcast] at HG
      simp only [Int.toNat_natCast]
      rw [← hpe] at HPE ⊢
      clear HOK hpe hcast
      go_enter Tryz.func52, Tryz.ntmps52
      go_wp2_with fail
      refine wp_region_C (fun W' => St w0 W' ((⟨.slice (some ⟨g, 0, none⟩) 1 1, 102, 3, 1, [.slice ao B.length cap, .int .i64 (p : Int), .bool false]⟩ : Row) :: R) ((⟨.slice ao B.length cap, 1, (B).length, bs (B)⟩ : Rd) :: Q)) (by kernel_rfl) (by kernel_rfl) (by exact hs.drew) ?_
      repeat ((first | (refine cq_y0 (v := ?_) (by with_reducible rfl) ?_ ?_; rotate_left 1; (focus (intro wq hq; (try dsimp only at hq); (have y0 := hq.cell (j := 0) rfl; have y1 := hq.cell (j := 1) rfl; have y2 := hq.cell (j := 2) rfl); go_simp; (first | done | with_reducible rfl | (go_at_call 73; refine (HG.out _ hq).mono ?_; rintro e w9 ⟨rfl, hk9⟩; refine ⟨?_, hq.call0 hk9⟩; with_reducible rfl))))) | (refine cq_no (by go_simp; first | done | (intro h9; cases h9)) ?_) | (refine cq_yes (v := ?_) (by go_simp) ?_ ?_; rotate_left 1; (focus (intro wq hq; (try dsimp only at hq); (have y0 := hq.cell (j := 0) rfl; have y1 := hq.cell (j := 1) rfl; have y2 := hq.cell (j := 2) rfl); go_simp; (first | done | with_reducible rfl | (go_at_call 73; refine (HG.out _ hq).mono ?_; rintro e w9 ⟨rfl, hk9⟩; refine ⟨?_, hq.call0 hk9⟩; with_reducible rfl)))))); (try simp only [Act.put, List.setIfInBounds_toArray, List.set_cons_zero, List.set_cons_succ]))
      refine cq_nil ?_
      intro wq hq
      (try dsimp only at hq)
      have z2 := hq.cell (j := 2) rfl
      go_wp2_with (first | ((with_reducible show wpList _ _ _ _ _ _); refine wpl_want rfl ?_) | ((with_reducible show wpList _ _ _ _ _ _); refine wpl_store1 rfl 3 _ _ rfl hq (1) rfl (.int .i64 (pe : Int)) rfl rfl (by kernel_rfl) (by simp) rfl ?_; intro w1 hs1))
      go_ret
      exact ⟨pe, false, rfl, hs1, HPE.out, rfl⟩
  · rw [if_neg he] at HG
    have HER := Mx.hid (her he)
    have q1 : (er != 0) = true := by simpa using he
    clear hok her hbd he hdl hkeep
    cases sh with
    | true =>
      rw [nmR_bad]
      clear HER
      go_enter Tryz.func52, Tryz.ntmps52
      go_wp2_with fail
      refine wp_region_C (fun W' => St w0 W' ((⟨.slice (some ⟨g, 0, none⟩) 1 1, 102, 3, 1, [.slice ao B.length cap, .int .i64 (p : Int), .bool true]⟩ : Row) :: R) ((⟨.slice ao B.length cap, 1, (B).length, bs (B)⟩ : Rd) :: Q)) (by kernel_rfl) (by kernel_rfl) (by exact hs.drew) ?_
      repeat ((first | (refine cq_y0 (v := ?_) (by with_reducible rfl) ?_ ?_; rotate_left 1; (focus (intro wq hq; (try dsimp only at hq); (have y0 := hq.cell (j := 0) rfl; have y1 := hq.cell (j := 1) rfl; have y2 := hq.cell (j := 2) rfl); go_simp; (first | done | with_reducible rfl | (go_at_call 73; refine (HG.out _ hq).mono ?_; rintro e w9 ⟨rfl, hk9⟩; refine ⟨?_, hq.call0 hk9⟩; with_reducible rfl))))) | (refine cq_no (by go_simp; first | done | (intro h9; cases h9)) ?_) | (refine cq_yes (v := ?_) (by go_simp) ?_ ?_; rotate_left 1; (focus (intro wq hq; (try dsimp only at hq); (have y0 := hq.cell (j := 0) rfl; have y1 := hq.cell (j := 1) rfl; have y2 := hq.cell (j := 2) rfl); go_simp; (first | done | with_reducible rfl | (go_at_call 73; refine (HG.out _ hq).mono ?_; rintro e w9 ⟨rfl, hk9⟩; refine ⟨?_, hq.call0 hk9⟩; with_reducible rfl)))))); (try simp only [Act.put, List.setIfInBounds_toArray, List.set_cons_zero, List.set_cons_succ]))
      refine cq_nil ?_
      intro wq hq
      (try dsimp only at hq)
      have z2 := hq.cell (j := 2) rfl
      go_wp2_with (first | ((with_reducible show wpList _ _ _ _ _ _); refine wpl_want rfl ?_) | ((with_reducible show wpList _ _ _ _ _ _); refine wpl_store1 rfl 4 _ _ rfl hq (2) rfl (.bool true) rfl rfl (by kernel_rfl) (by simp) rfl ?_; intro w1 hs1))
      go_ret
      exact ⟨p, true, rfl, hs1, HP.out, rfl⟩
    | false =>
      rw [HER.out]
      clear HER
      go_enter Tryz.func52, Tryz.ntmps52
      go_wp2_with fail
      refine wp_region_C (fun W' => St w0 W' ((⟨.slice (some ⟨g, 0, none⟩) 1 1, 102, 3, 1, [.slice ao B.length cap, .int .i64 (p : Int), .bool false]⟩ : Row) :: R) ((⟨.slice ao B.length cap, 1, (B).length, bs (B)⟩ : Rd) :: Q)) (by kernel_rfl) (by kernel_rfl) (by exact hs.drew) ?_
      repeat ((first | (refine cq_y0 (v := ?_) (by with_reducible rfl) ?_ ?_; rotate_left 1; (focus (intro wq hq; (try dsimp only at hq); (have y0 := hq.cell (j := 0) rfl; have y1 := hq.cell (j := 1) rfl; have y2 := hq.cell (j := 2) rfl); go_simp; (first | done | with_reducible rfl | (go_at_call 73; refine (HG.out _ hq).mono ?_; rintro e w9 ⟨rfl, hk9⟩; refine ⟨?_, hq.call0 hk9⟩; with_reducible rfl))))) | (refine cq_no (by go_simp; first | done | (intro h9; cases h9)) ?_) | (refine cq_yes (v := ?_) (by go_simp) ?_ ?_; rotate_left 1; (focus (intro wq hq; (try dsimp only at hq); (have y0 := hq.cell (j := 0) rfl; have y1 := hq.cell (j := 1) rfl; have y2 := hq.cell (j := 2) rfl); go_simp; (first | done | with_reducible rfl | (go_at_call 73; refine (HG.out _ hq).mono ?_; rintro e w9 ⟨rfl, hk9⟩; refine ⟨?_, hq.call0 hk9⟩; with_reducible rfl)))))); (try simp only [Act.put, List.setIfInBounds_toArray, List.set_cons_zero, List.set_cons_succ]))
      refine cq_nil ?_
      intro wq hq
      (try dsimp only at hq)
      have z2 := hq.cell (j := 2) rfl
      go_wp2_with (first | ((with_reducible show wpList _ _ _ _ _ _); refine wpl_want rfl ?_) | ((with_reducible show wpList _ _ _ _ _ _); refine wpl_store1 rfl 4 _ _ rfl hq (2) rfl (.bool true) rfl rfl (by kernel_rfl) (by simp) rfl ?_; intro w1 hs1))
      go_ret
      exact ⟨p, true, rfl, hs1, HP.out, rfl⟩

set_option maxRecDepth 100000 in
theorem byte_r {w0 w : World} {R : List Row} {Q : List Rd} {g : Nat} {vB : Value} {B : List UInt8} {p : Nat} {sh : Bool} (hs : St w0 w ((⟨.slice (some ⟨g, 0, none⟩) 1 1, 102, 3, 1, [vB, .int .i64 (p : Int), .bool sh]⟩ : Row) :: R) ((⟨vB, 1, (B).length, bs (B)⟩ : Rd) :: Q)) (hp : p ≤ B.length) (hl : B.length ≤ 70368744177664) :
    Calls Tryz.prog 53 #[.pointer (some ⟨g, 0, none⟩)] w (RNumPost w0 R Q g vB B (.int .i64 ((on (B.drop p, sh)).1 : Int)) (on (B.drop p, sh)).2) := by
  have HT := Mx.hid (take_r 1 hs hp hl (by omega))
  unfold on
  generalize tk 1 (B.drop p, sh) = t at *
  obtain ⟨x, s⟩ := t
  simp only [] at *
  clear hs hp hl
  go_enter Tryz.func53, Tryz.ntmps53
  go_wp2_with fail
  refine HT.out.mono ?_
  rintro e w1 ⟨vx, p', sh', rfl, hs1, hp', hd⟩
  have HD := Mx.hid (And.intro hp' hd)
  clear hp' hd
  match x, hs1 with
  | [], hs1 =>
    obtain ⟨ao, cap, rfl, h1, h2, _⟩ := hs1.sl0.bytes
    go_wp2_with fail
    go_ret
    exact ⟨p', sh', rfl, hs1.tail, HD.out.1, HD.out.2⟩
  | y :: x, hs1 =>
    obtain ⟨ao, cap, blk, off, rfl, h1, h2, _, hc⟩ := hs1.sl0.byt
    obtain ⟨rfl, c0⟩ := hc 0 (by simp)
    clear hc
    simp only [Nat.add_zero, List.getElem_cons_zero, List.length_cons] at *
    have q1 : (((x.length + 1 : Nat) : Int) == 0) = false := by simp; omega
    have hy := u8_lt y
    have hw : wrap64 (y.toNat : Int) = (y.toNat : Int) := by unfold wrap64; omega
    have HS := Mx.hid hs1.tail
    clear hs1
    go_wp2_with fail
    go_ret
    exact ⟨p', sh', rfl, HS.out, HD.out.1, HD.out.2⟩
end Go.Proofs.YtloogjdafhjheaaGreat

namespace Go.Mx
open Go Go.RowKit
theorem nmR_le (s : Src) : leS (nmR s).2 s := by
  unfold nmR
  split
  · exact leS.refl s
  · exact nm_le s
theorem nmR_max (s : Src) : (nmR s).1 ≤ 72057594037927936 := by
  unfold nmR
  split
  · exact Nat.zero_le _
  · exact nm_max s
theorem rdItemsR_stop {n : Nat} {s : Src} (h : s.2 = true ∨ n = 0) : rdItemsR n s = ([], s) := by
  cases n with
  | zero => rfl
  | succ n =>
    rcases h with h | h
    · rw [rdItemsR, if_pos h]
    · cases h
theorem rdItemsR_step {n : Nat} {b : List UInt8} {m k : Nat} {x : List UInt8} {id : ByteArray} {s1 s2 s3 s4 : Src} (h1 : on (b, false) = (m, s1)) (h2 : nmR s1 = (k, s2)) (h3 : tk k s2 = (x, s3)) (h4 : hs s3 = (id, s4)) :
    rdItemsR (n + 1) (b, false) = (((m : Int), str x, id) :: (rdItemsR n s4).1, (rdItemsR n s4).2) := by
  rw [rdItemsR, if_neg (by simp), h1]
  simp only []
  rw [h2]
  simp only []
  rw [h3]
  simp only []
  rw [h4]
theorem rdItemsR_size : ∀ (n : Nat) (s : Src), ∀ x ∈ (rdItemsR n s).1, (x.2.1.size ≤ s.1.length ∧ x.2.2.size ≤ 64) ∧ 0 ≤ x.1 ∧ x.1 ≤ 255
  | 0, s, x, h => by cases h
  | n + 1, s, x, h => by
    rw [rdItemsR] at h
    split at h
    · cases h
    · simp only [List.mem_cons] at h
      have h1 := (on_le s).1
      have h2 := (nmR_le (on s).2).1
      have h3 := (tk_le (nmR (on s).2).1 (nmR (on s).2).2).1
      have h4 := (hs_le (tk (nmR (on s).2).1 (nmR (on s).2).2).2).1
      rcases h with rfl | h
      · refine ⟨⟨?_, hs_size _⟩, by simp, ?_⟩
        · simp only [str_size]
          have := tk_x (nmR (on s).2).1 (nmR (on s).2).2
          omega
        · have := on_256 s
          simp only []
          omega
      · have := rdItemsR_size n _ x h
        refine ⟨⟨by omega, this.1.2⟩, this.2⟩
theorem rdItemsR_len : ∀ (n : Nat) (s : Src), (rdItemsR n s).1.length ≤ s.1.length + 1
  | 0, s => by simp [rdItemsR]
  | n + 1, s => by
    rw [rdItemsR]
    split
    · simp
    · rename_i hs0
      simp only [List.length_cons]
      have h1 := nmR_le (on s).2
      have h2 := tk_le (nmR (on s).2).1 (nmR (on s).2).2
      have h3 := hs_le (tk (nmR (on s).2).1 (nmR (on s).2).2).2
      have h4 := (h3.trans h2).trans h1
      have ih := rdItemsR_len n (hs (tk (nmR (on s).2).1 (nmR (on s).2).2).2).2
      cases hb : (hs (tk (nmR (on s).2).1 (nmR (on s).2).2).2).2.2 with
      | true => rw [rdItemsR_stop (.inl hb)]; simp
      | false =>
        have h5 := on_lt s (h4.2 hb)
        have h6 := h4.1
        omega
theorem readR_ok (kind : Int) (l : List UInt8) (hl : l.length ≤ 1000000000) : OZ (readR kind l).1 ∧ (readR kind l).1.data.length ≤ 1000000000000 ∧ (readR kind l).1.items.length ≤ 1000000000000 := by
  have hz : (str []).size ≤ 140737488351232 := by rw [str_size]; simp
  unfold readR
  split
  · exact ⟨⟨hz, hz, by simp, by simp⟩, by simp only []; omega, by simp⟩
  · split
    · have h2 := (nmR_le (l, false)).1
      simp only [] at h2
      refine ⟨⟨hz, hz, fun x hx => ?_, by simp⟩, by simp, ?_⟩
      · have h1 := rdItemsR_size _ _ x hx
        exact ⟨by omega, by omega, by omega, by omega⟩
      · have := rdItemsR_len (nmR (l, false)).1 (nmR (l, false)).2
        simp only []
        omega
    · split
      · refine ⟨⟨by have := hs_size (l, false); simp only []; omega, ?_, by simp, fun x hx => by have := rdPars_size _ _ x hx; omega⟩, by simp, by simp⟩
        simp only [str_size]
        have a1 := (hs_le (l, false)).1
        have a2 := (on_le (hs (l, false)).2).1
        have a3 : ∀ n s, (rdPars n s).2.1.length ≤ s.1.length := fun n => by
          induction n with
          | zero => intro s; exact Nat.le_refl _
          | succ n ih =>
            intro s
            rw [rdPars]
            split
            · exact Nat.le_refl _
            · have := ih (hs s).2
              have := (hs_le s).1
              simp only []
              omega
        have a4 := a3 (on (hs (l, false)).2).1 (on (hs (l, false)).2).2
        have a5 := (nmR_le (rdPars (on (hs (l, false)).2).1 (on (hs (l, false)).2).2).2).1
        have a6 := (nmR_le (nmR (rdPars (on (hs (l, false)).2).1 (on (hs (l, false)).2).2).2).2).1
        have a7 := (nmR_le (nmR (nmR (rdPars (on (hs (l, false)).2).1 (on (hs (l, false)).2).2).2).2).2).1
        have a8 := tk_x (nmR (nmR (nmR (rdPars (on (hs (l, false)).2).1 (on (hs (l, false)).2).2).2).2).2).1 (nmR (nmR (nmR (rdPars (on (hs (l, false)).2).1 (on (hs (l, false)).2).2).2).2).2).2
        simp only [] at a1
        omega
      · exact ⟨⟨hz, hz, by simp, by simp⟩, by simp, by simp⟩
theorem readR_two {l : List UInt8} {n : Nat} {s0 s : Src} {t : List Itm} (h1 : nmR (l, false) = (n, s0)) (h2 : rdItemsR n s0 = (t, s)) : readR 2 l = (⟨2, [], t, str [], [], 0, 0, str []⟩, s.2) := by
  unfold readR
  rw [if_neg (by decide), if_pos rfl]
  simp only [h1, h2]
theorem readR_three {l : List UInt8} {tr : ByteArray} {n st au k : Nat} {s1 s2 s3 s4 s5 s6 s7 : Src} {ps : List ByteArray} {m : List UInt8} (h1 : hs (l, false) = (tr, s1)) (h2 : on s1 = (n, s2)) (h3 : rdPars n s2 = (ps, s3)) (h4 : nmR s3 = (st, s4)) (h5 : nmR s4 = (au, s5)) (h6 : nmR s5 = (k, s6)) (h7 : tk k s6 = (m, s7)) :
    readR 3 l = (⟨3, [], [], tr, ps, st, au, str m⟩, s7.2) := by
  unfold readR
  rw [if_neg (by decide), if_neg (by decide), if_pos rfl]
  simp only [h1, h2, h3, h4, h5, h6, h7]
end Go.Mx
