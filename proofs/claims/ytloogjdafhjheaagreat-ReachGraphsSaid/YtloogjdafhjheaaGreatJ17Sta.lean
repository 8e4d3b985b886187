/- Walks of slices' swapRange, rotate (stable sort) over a slice of strings that the call's owner holds. Walks of dag's reach, keys. Walks of dag's keys, Ancestors, Is. -/
import Derived.Test.YtloogjdafhjheaaGreatJ16SrtG
import Derived.Test.YtloogjdafhjheaaGreatJ3Held
import Derived.Test.YtloogjdafhjheaaGreatJ5RVal
import Derived.Test.YtloogjdafhjheaaGreatJ1Lib3
import Derived.Test.YtloogjdafhjheaaGreatJ14SrtB
import Derived.Deep.LoopGhost
namespace Go.Mx
open Go Go.RowKit
theorem ss_gv {l : List ByteArray} {j : Nat} (h : j < l.length) : (ss l)[j]? = some (.string (gv l j)) := by
  rw [gv_eq h, ss, List.getElem?_map, List.getElem?_eq_getElem h]
  rfl
theorem ss_set {l : List ByteArray} {p : Nat} {y : ByteArray} (h : p < l.length) : (ss l).take p ++ [.string y] ++ (ss l).drop (p + 1) = ss (l.set p y) := by
  rw [List.set_eq_take_append_cons_drop, if_pos h]
  simp [ss, List.map_take, List.map_drop]
end Go.Mx
namespace Go.Proofs.YtloogjdafhjheaaGreat
open Go.RowKit Go.Mx

abbrev srow (g N cap : Nat) (l : List ByteArray) : Row := ⟨.slice (some ⟨g, 0, none⟩) N cap, 9, 1, N, ss l⟩
def SwpPost (w0 : World) (g N cap : Nat) (Q : List Rd) (l : List ByteArray) (a b n : Nat) (e : Ending) (w' : World) : Prop := ∃ l', e = .returned (.tuple #[]) ∧ St w0 w' [srow g N cap l'] Q ∧ Swp l l' a b n
set_option maxHeartbeats 1000000 in
set_option maxRecDepth 200000 in
theorem swapRange_any (w0 w : World) (g N cap : Nat) (Q : List Rd) (l : List ByteArray) (a b n : Nat) (c : Value) (hs : St w0 w [srow g N cap l] Q) (hN : l.length = N) (hab : a + n ≤ b) (hb : b + n ≤ N) (hl : N ≤ 100000) :
    Calls Tryz.prog 96 #[.slice (some ⟨g, 0, none⟩) N cap, .int .i64 a, .int .i64 b, .int .i64 n, c] w (SwpPost w0 g N cap Q l a b n) := by
  have HN := Mx.hid hN
  have hcap : N ≤ cap := by
    obtain ⟨_, _, he, h1, _⟩ := hs.sl0.form
    cases he
    exact h1
  have hn5 : n ≤ 100000 := by omega
  clear hN
  go_enter Tryz.func96, Tryz.ntmps96
  go_wp2_with fail
  go_loopw [10] (fun x wr => ∃ (i : Nat) (l' : List ByteArray), i ≤ n ∧ x = .int .i64 i ∧ Hid (Swp l l' a b i) ∧ St w0 wr [srow g N cap l'] Q) (fun x _ => n - (intOf x).toNat)
  case atStart => exact ⟨0, l, by omega, rfl, Mx.hid (Swp.zero l a b), hs⟩
  case round => as_aux_lemma =>
    clear hs
    obtain ⟨i, l', hi, rfl, HS, hs⟩ := hrel
    by_cases hlt : i < n
    · have HL := Mx.hid (HS.out.perm.length_eq.trans HN.out)
      have HS2 := Mx.hid (HS.out.step (by omega) (by rw [HN.out]; omega))
      obtain ⟨p, hp⟩ : ∃ p, p = a + i := ⟨_, rfl⟩
      obtain ⟨q, hq⟩ : ∃ q, q = b + i := ⟨_, rfl⟩
      have hw1 : IntKind.i64.wrap ((a : Int) + (i : Int)) = (p : Int) := by rw [IntWalk.i64_in _ (by omega)]; omega
      have hw2 : IntKind.i64.wrap ((b : Int) + (i : Int)) = (q : Int) := by rw [IntWalk.i64_in _ (by omega)]; omega
      have hpN : (p : Int) < (N : Int) := by omega
      have hqN : (q : Int) < (N : Int) := by omega
      have HPN := Mx.hid (show p < N by omega)
      have HQN := Mx.hid (show q < N by omega)
      rw [← hp, ← hq] at HS2
      have hii : (i : Int) < (n : Int) := by omega
      have c1 : wr.drew.cell? ⟨g, p, none⟩ = some (.string (gv l' p)) := hs.drew.cell (ss_gv (by rw [HL.out]; exact HPN.out))
      have c2 : wr.drew.cell? ⟨g, q, none⟩ = some (.string (gv l' q)) := hs.drew.cell (ss_gv (by rw [HL.out]; exact HQN.out))
      have HI := Mx.hid (show i + 1 ≤ n by omega)
      clear hp hq hlt hi hab hb
      generalize hx : gv l' p = x at *
      generalize hy : gv l' q = y at *
      have HX := Mx.hid hx
      have HY := Mx.hid hy
      clear hx hy
      go_wp2_with fail
      (refine wp_region_S (21) (fun W' => W'.cell? ⟨g, p, none⟩ = some (.string x) ∧ W'.cell? ⟨g, q, none⟩ = some (.string y)) (by kernel_rfl) ?_ (fun hHeld => ?_); (focus ((try dsimp only); go_keep)))
      (refine wpAnyS_takeW (i := 0) (v := ?_) rfl (by kernel_rfl) (by kernel_rfl) (by kernel_rfl) (by kernel_rfl) (fun _ _ _ h => h) (Or.inl ⟨by rfl, ?_⟩) hHeld ?_; rotate_left 1; (focus (intro w' hSw; go_simp; (try with_reducible rfl))); (try simp only [Act.put, List.setIfInBounds_toArray, List.set_cons_zero, List.set_cons_succ]))
      (refine wpAnyS_takeW (i := 1) (v := ?_) rfl (by kernel_rfl) (by kernel_rfl) (by kernel_rfl) (by kernel_rfl) (fun _ _ _ h => h) (Or.inl ⟨by rfl, ?_⟩) hHeld ?_; rotate_left 1; (focus (intro w' hSw; go_simp; (try with_reducible rfl))); (try simp only [Act.put, List.setIfInBounds_toArray, List.set_cons_zero, List.set_cons_succ]))
      (refine wpAnyS_takeW (i := 2) (v := ?_) rfl (by kernel_rfl) (by kernel_rfl) (by kernel_rfl) (by kernel_rfl) (fun _ _ _ h => h) (Or.inl ⟨by rfl, ?_⟩) hHeld ?_; rotate_left 1; (focus (intro w' hSw; go_simp; (try with_reducible rfl))); (try simp only [Act.put, List.setIfInBounds_toArray, List.set_cons_zero, List.set_cons_succ]))
      (refine wpAnyS_takeW (i := 3) (v := ?_) rfl (by kernel_rfl) (by kernel_rfl) (by kernel_rfl) (by kernel_rfl) (fun _ _ _ h => h) (Or.inl ⟨by rfl, ?_⟩) hHeld ?_; rotate_left 1; (focus (intro w' hSw; go_simp; (try with_reducible rfl))); (try simp only [Act.put, List.setIfInBounds_toArray, List.set_cons_zero, List.set_cons_succ]))
      (refine wpAnyS_takeW (i := 4) (v := ?_) rfl (by kernel_rfl) (by kernel_rfl) (by kernel_rfl) (by kernel_rfl) (fun _ _ _ h => h) (Or.inl ⟨by rfl, ?_⟩) hHeld ?_; rotate_left 1; (focus (intro w' hSw; go_simp; (try with_reducible rfl))); (try simp only [Act.put, List.setIfInBounds_toArray, List.set_cons_zero, List.set_cons_succ]))
      (refine wpAnyS_takeW (i := 5) (v := ?_) rfl (by kernel_rfl) (by kernel_rfl) (by kernel_rfl) (by kernel_rfl) (fun _ _ _ h => h) (Or.inl ⟨by rfl, ?_⟩) hHeld ?_; rotate_left 1; (focus (intro w' hSw; go_simp; (try with_reducible rfl))); (try simp only [Act.put, List.setIfInBounds_toArray, List.set_cons_zero, List.set_cons_succ]))
      (refine wpAnyS_takeW (i := 6) (v := ?_) rfl (by kernel_rfl) (by kernel_rfl) (by kernel_rfl) (by kernel_rfl) (fun _ _ _ h => h) (Or.inl ⟨by rfl, ?_⟩) hHeld ?_; rotate_left 1; (focus (intro w' hSw; go_simp; (try with_reducible rfl))); (try simp only [Act.put, List.setIfInBounds_toArray, List.set_cons_zero, List.set_cons_succ]))
      (refine wpAnyS_takeW (i := 7) (v := ?_) rfl (by kernel_rfl) (by kernel_rfl) (by kernel_rfl) (by kernel_rfl) (fun _ _ _ h => h) (Or.inl ⟨by rfl, ?_⟩) hHeld ?_; rotate_left 1; (focus (intro w' hSw; go_simp; (try with_reducible rfl))); (try simp only [Act.put, List.setIfInBounds_toArray, List.set_cons_zero, List.set_cons_succ]))
      (refine wpAnyS_takeW (i := 8) (v := ?_) rfl (by kernel_rfl) (by kernel_rfl) (by kernel_rfl) (by kernel_rfl) (fun _ _ _ h => h) (Or.inl ⟨by rfl, ?_⟩) hHeld ?_; rotate_left 1; (focus (intro w' hSw; go_simp; (try with_reducible rfl))); (try simp only [Act.put, List.setIfInBounds_toArray, List.set_cons_zero, List.set_cons_succ]))
      (refine wpAnyS_takeW (i := 9) (v := ?_) rfl (by kernel_rfl) (by kernel_rfl) (by kernel_rfl) (by kernel_rfl) (fun _ _ _ h => h) (Or.inl ⟨by rfl, ?_⟩) hHeld ?_; rotate_left 1; (focus (intro w' hSw; go_simp; (try with_reducible rfl))); (try simp only [Act.put, List.setIfInBounds_toArray, List.set_cons_zero, List.set_cons_succ]))
      (refine wpAnyS_takeW (i := 10) (v := ?_) rfl (by kernel_rfl) (by kernel_rfl) (by kernel_rfl) (by kernel_rfl) (fun _ _ _ h => h) (Or.inl ⟨by rfl, ?_⟩) hHeld ?_; rotate_left 1; (focus (intro w' hSw; go_simp; (try with_reducible rfl))); (try simp only [Act.put, List.setIfInBounds_toArray, List.set_cons_zero, List.set_cons_succ]))
      (refine wpAnyS_takeW (i := 11) (v := ?_) rfl (by kernel_rfl) (by kernel_rfl) (by kernel_rfl) (by kernel_rfl) (fun _ _ _ h => h) (Or.inl ⟨by rfl, ?_⟩) hHeld ?_; rotate_left 1; (focus (intro w' hSw; go_simp; (try with_reducible rfl))); (try simp only [Act.put, List.setIfInBounds_toArray, List.set_cons_zero, List.set_cons_succ]))
      (refine wpAnyS_takeW (i := 12) (v := ?_) rfl (by kernel_rfl) (by kernel_rfl) (by kernel_rfl) (by kernel_rfl) (fun _ _ _ h => h) (Or.inl ⟨by rfl, ?_⟩) hHeld ?_; rotate_left 1; (focus (intro w' hSw; go_simp; (try with_reducible rfl))); (try simp only [Act.put, List.setIfInBounds_toArray, List.set_cons_zero, List.set_cons_succ]))
      (refine wpAnyS_takeL (i := 13) (v := ?_) rfl (by kernel_rfl) (by kernel_rfl) (by kernel_rfl) (by kernel_rfl) (by kernel_rfl) (by kernel_rfl) (fun _ _ _ h => h) (Or.inl ⟨by rfl, ?_⟩) hHeld ?_; rotate_left 1; (focus (intro w' hSw; (try dsimp only at hSw); go_simp; (try with_reducible rfl))); (try simp only [Act.put, List.setIfInBounds_toArray, List.set_cons_zero, List.set_cons_succ]))
      (refine wpAnyS_takeW (i := 14) (v := ?_) rfl (by kernel_rfl) (by kernel_rfl) (by kernel_rfl) (by kernel_rfl) (fun _ _ _ h => h) (Or.inl ⟨by rfl, ?_⟩) hHeld ?_; rotate_left 1; (focus (intro w' hSw; go_simp; (try with_reducible rfl))); (try simp only [Act.put, List.setIfInBounds_toArray, List.set_cons_zero, List.set_cons_succ]))
      (refine wpAnyS_takeW (i := 15) (v := ?_) rfl (by kernel_rfl) (by kernel_rfl) (by kernel_rfl) (by kernel_rfl) (fun _ _ _ h => h) (Or.inl ⟨by rfl, ?_⟩) hHeld ?_; rotate_left 1; (focus (intro w' hSw; go_simp; (try with_reducible rfl))); (try simp only [Act.put, List.setIfInBounds_toArray, List.set_cons_zero, List.set_cons_succ]))
      (refine wpAnyS_takeW (i := 16) (v := ?_) rfl (by kernel_rfl) (by kernel_rfl) (by kernel_rfl) (by kernel_rfl) (fun _ _ _ h => h) (Or.inl ⟨by rfl, ?_⟩) hHeld ?_; rotate_left 1; (focus (intro w' hSw; go_simp; (try with_reducible rfl))); (try simp only [Act.put, List.setIfInBounds_toArray, List.set_cons_zero, List.set_cons_succ]))
      (refine wpAnyS_takeW (i := 17) (v := ?_) rfl (by kernel_rfl) (by kernel_rfl) (by kernel_rfl) (by kernel_rfl) (fun _ _ _ h => h) (Or.inl ⟨by rfl, ?_⟩) hHeld ?_; rotate_left 1; (focus (intro w' hSw; go_simp; (try with_reducible rfl))); (try simp only [Act.put, List.setIfInBounds_toArray, List.set_cons_zero, List.set_cons_succ]))
      (refine wpAnyS_takeW (i := 18) (v := ?_) rfl (by kernel_rfl) (by kernel_rfl) (by kernel_rfl) (by kernel_rfl) (fun _ _ _ h => h) (Or.inl ⟨by rfl, ?_⟩) hHeld ?_; rotate_left 1; (focus (intro w' hSw; go_simp; (try with_reducible rfl))); (try simp only [Act.put, List.setIfInBounds_toArray, List.set_cons_zero, List.set_cons_succ]))
      (refine wpAnyS_takeL (i := 19) (v := ?_) rfl (by kernel_rfl) (by kernel_rfl) (by kernel_rfl) (by kernel_rfl) (by kernel_rfl) (by kernel_rfl) (fun _ _ _ h => h) (Or.inl ⟨by rfl, ?_⟩) hHeld ?_; rotate_left 1; (focus (intro w' hSw; (try dsimp only at hSw); go_simp; (try with_reducible rfl))); (try simp only [Act.put, List.setIfInBounds_toArray, List.set_cons_zero, List.set_cons_succ]))
      (refine wpAnyS_takeW (i := 20) (v := ?_) rfl (by kernel_rfl) (by kernel_rfl) (by kernel_rfl) (by kernel_rfl) (fun _ _ _ h => h) (Or.inl ⟨by rfl, ?_⟩) hHeld ?_; rotate_left 1; (focus (intro w' hSw; go_simp; (try with_reducible rfl))); (try simp only [Act.put, List.setIfInBounds_toArray, List.set_cons_zero, List.set_cons_succ]))
      (refine wpAnyS_seq (by rfl) (by kernel_rfl) ?_; simp only [List.drop_succ_cons, List.drop_zero])
      clear c1 c2 hHeld hw1 hw2
      have hpl : p < (ss l').length := by rw [ss_len, HL.out]; exact HPN.out
      have hql : q < (ss (l'.set p y)).length := by rw [ss_len, List.length_set, HL.out]; exact HQN.out
      have hrow : ∀ wz, St w0 wz [⟨.slice (some ⟨g, 0, none⟩) N cap, 9, 1, N, (ss l').take p ++ [.string y] ++ (ss l').drop (p + 1)⟩] Q → St w0 wz [srow g N cap (l'.set p y)] Q := fun wz h => h.cast rfl (ss_set (by rw [HL.out]; exact HPN.out))
      have hrow2 : ∀ wz, St w0 wz [⟨.slice (some ⟨g, 0, none⟩) N cap, 9, 1, N, (ss (l'.set p y)).take q ++ [.string x] ++ (ss (l'.set p y)).drop (q + 1)⟩] Q → St w0 wz [srow g N cap ((l'.set p y).set q x)] Q := fun wz h => h.cast rfl (ss_set (by rw [List.length_set, HL.out]; exact HQN.out))
      have HR := Mx.hid hrow
      have HR2 := Mx.hid hrow2
      have HPL := Mx.hid hpl
      have HQL := Mx.hid hql
      clear hrow hrow2 hpl hql
      go_wp2_with (first | (((with_reducible show wpList _ _ _ _ _ _); refine wpl_store1 rfl 9 _ _ rfl hs.drew (p) rfl (.string y) rfl rfl (by kernel_rfl) HPL.out rfl ?_; intro w1 hs1); replace hs1 := HR.out _ hs1) | (((with_reducible show wpList _ _ _ _ _ _); refine wpl_store1 rfl 9 _ _ rfl hs1 (q) rfl (.string x) rfl rfl (by kernel_rfl) HQL.out rfl ?_; intro w2 hs2); replace hs2 := HR2.out _ hs2))
      have hi2 := HI.out
      refine ⟨⟨i + 1, _, hi2, by go_num, HS2, hs2⟩, by simp [intOf]; omega⟩
    · have hii : ¬ (i : Int) < (n : Int) := by omega
      have hin : i = n := by omega
      subst hin
      go_wp2_with fail
      go_end0
      exact ⟨l', rfl, hs, HS.out⟩
theorem swapRange_i (w0 w : World) (g N cap : Nat) (Q : List Rd) (l : List ByteArray) (a b n : Nat) (A B C : Int) (c : Value) (hs : St w0 w [srow g N cap l] Q) (hN : l.length = N) (hab : a + n ≤ b) (hb : b + n ≤ N) (hl : N ≤ 100000) (hA : A = (a : Int)) (hB : B = (b : Int)) (hC : C = (n : Int)) :
    Calls Tryz.prog 96 #[.slice (some ⟨g, 0, none⟩) N cap, .int .i64 A, .int .i64 B, .int .i64 C, c] w (SwpPost w0 g N cap Q l a b n) := by
  subst hA; subst hB; subst hC
  exact swapRange_any w0 w g N cap Q l a b n c hs hN hab hb hl

def RotPost (w0 : World) (g N cap : Nat) (Q : List Rd) (l : List ByteArray) (a m b : Nat) (e : Ending) (w' : World) : Prop := ∃ l', e = .returned (.tuple #[]) ∧ St w0 w' [srow g N cap l'] Q ∧ Rot l l' a m b
set_option maxHeartbeats 1000000 in
set_option maxRecDepth 200000 in
theorem rotate_any (w0 w : World) (g N cap : Nat) (Q : List Rd) (l : List ByteArray) (a m b : Nat) (c : Value) (hs : St w0 w [srow g N cap l] Q) (hN : l.length = N) (ham : a < m) (hmb : m < b) (hb : b ≤ N) (hl : N ≤ 100000) :
    Calls Tryz.prog 85 #[.slice (some ⟨g, 0, none⟩) N cap, .int .i64 a, .int .i64 m, .int .i64 b, c] w (RotPost w0 g N cap Q l a m b) := by
  have HN := Mx.hid hN
  clear hN
  go_enter Tryz.func85, Tryz.ntmps85
  go_wp2_with fail
  go_loopw [10, 11] (fun x y wr => ∃ (i j : Nat) (l' : List ByteArray), 1 ≤ i ∧ 1 ≤ j ∧ i ≤ m - a ∧ j ≤ b - m ∧ x = .int .i64 i ∧ y = .int .i64 j ∧ Hid (l'.length = N) ∧ Hid (∀ l2, Rot l' l2 (m - i) m (m + j) → Rot l l2 a m b) ∧ St w0 wr [srow g N cap l'] Q) (fun x y _ => (intOf x).toNat + (intOf y).toNat)
  case atStart => exact ⟨m - a, b - m, l, by omega, by omega, by omega, by omega, by go_num, by go_num, HN, Mx.hid (fun l2 h => by rw [show m - (m - a) = a by omega, show m + (b - m) = b by omega] at h; exact h), hs⟩
  case round =>
    clear hs
    obtain ⟨i, j, l', hi, hj, hia, hjb, rfl, rfl, HL, HR, hs⟩ := hrel
    by_cases hij : i = j
    · subst hij
      have hne : ((i : Int) != (i : Int)) = false := by simp
      go_wp2_with fail
      refine (swapRange_i w0 _ g N cap Q l' (m - i) m i _ _ _ _ hs HL.out (by omega) (by omega) hl (by omega) rfl rfl).mono ?_
      rintro e w1 ⟨l1, rfl, hs1, hsw⟩
      have HF := Mx.hid (HR.out l1 (rot_even (by omega) hsw))
      clear hsw
      go_wp2_with fail
      go_end0
      exact ⟨l1, rfl, hs1, HF.out⟩
    · have hne : ((i : Int) != (j : Int)) = true := by simp; omega
      have HIJ := Mx.hid hij
      clear hij
      by_cases hgt : j < i
      · have hg1 : decide ((j : Int) < (i : Int)) = true := decide_eq_true (by omega)
        go_wp2_with fail
        refine (swapRange_i w0 _ g N cap Q l' (m - i) m j _ _ _ _ hs HL.out (by omega) (by omega) hl (by omega) rfl rfl).mono ?_
        rintro e w1 ⟨l1, rfl, hs1, hsw⟩
        have HF := Mx.hid (fun l2 h => HR.out l2 (rot_left (by omega) hgt hsw h))
        have HL1 := Mx.hid (hsw.perm.length_eq.trans HL.out)
        clear hsw
        go_wp2_with fail
        refine ⟨⟨i - j, j, l1, by omega, by omega, by omega, by omega, by go_num, rfl, HL1, HF, hs1⟩, by simp [intOf]; omega⟩
      · have hg1 : decide ((j : Int) < (i : Int)) = false := decide_eq_false (by omega)
        have HLT := Mx.hid (show i < j by have := HIJ.out; omega)
        go_wp2_with fail
        refine (swapRange_i w0 _ g N cap Q l' (m - i) (m + j - i) i _ _ _ _ hs HL.out (by omega) (by omega) hl (by omega) (by omega) rfl).mono ?_
        rintro e w1 ⟨l1, rfl, hs1, hsw⟩
        have HF := Mx.hid (fun l2 h => HR.out l2 (rot_right (by omega) HLT.out hsw h))
        have HL1 := Mx.hid (hsw.perm.length_eq.trans HL.out)
        clear hsw
        go_wp2_with fail
        have hlt2 := HLT.out
        refine ⟨⟨i, j - i, l1, by omega, by omega, by omega, by omega, rfl, by go_num, HL1, HF, hs1⟩, by simp [intOf]; omega⟩
end Go.Proofs.YtloogjdafhjheaaGreat

namespace Go.Mx
open Go Go.RowKit
/-- What reach hands back. -/
def ReachPost (L : List Nd) (ids : List ByteArray) (w : World) (e : Ending) (w' : World) : Prop :=
  (∃ B2 M, e = .returned (.tuple #[.map (some B2), .int .i64 0]) ∧ Mp w' B2 (met M) ∧ w.heap.size ≤ B2 ∧ Clo L ids M ∧ M.Nodup ∧ M.length ≤ 2000 ∧ St w w' [] []) ∨
  (e = .returned (.tuple #[.map none, .int .i64 7]) ∧ (∃ i ∈ ids, fnd L i = none) ∧ St w w' [] [])
theorem RI.sub {L : List Nd} {ids Wk M : List ByteArray} (h : RI L ids Wk M) : M.length ≤ L.length := by
  have := nodup_sub h.d (K := L.map Prod.fst) (fun m hm => by
    obtain ⟨n, hn, _⟩ := h.c m hm
    exact List.mem_map.2 ⟨_, fnd_mem hn, rfl⟩)
  rwa [List.length_map] at this
theorem wsum_le {G : List Gd} (hf : ∀ q ∈ G, q.2.2.1.length ≤ 1000000) : ((G.map (·.2)).map fun n => 1 + n.2.1.length).sum ≤ G.length * 1000001 := by
  induction G with
  | nil => simp
  | cons q G ih =>
    have h1 := ih fun r hr => hf r (List.mem_cons_of_mem _ hr)
    have h2 := hf q (List.mem_cons_self ..)
    simp only [List.map_cons, List.sum_cons, List.length_cons, Nat.succ_mul]
    omega
theorem mu_wk (L : List Nd) (M Wk : List ByteArray) : Wk.length ≤ mu L M Wk := by unfold mu; omega
end Go.Mx
namespace Go.Proofs.YtloogjdafhjheaaGreat
open Go.RowKit Go.Mx

end Go.Proofs.YtloogjdafhjheaaGreat

namespace Go.Mx
open Go Go.RowKit
theorem sortL_congr {l m : List ByteArray} (h : l.Perm m) : sortL l = sortL m := eq_sortL (sortL_sorted l) ((sortL_perm l).trans h)
theorem met_fst (M : List ByteArray) : (met M).map Prod.fst = M := by
  unfold met
  rw [List.map_map]
  exact List.map_id' M
theorem run_mnext' {P : Program} {w : World} {r b : Nat} {l left : List Ent} (h : Rg w r b l left) :
    (left = [] ∧ ∀ ty, (Instr.next (.pointer (some ⟨r, 0, none⟩)) false ty).run P w = .ok (.tuple #[.bool false]) w) ∨
    ∃ (p : Ent) (left' : List Ent) (w' : World), left.Perm (p :: left') ∧ (∀ ty, (Instr.next (.pointer (some ⟨r, 0, none⟩)) false ty).run P w = .ok (.tuple #[.bool true, .string p.1, p.2]) w') ∧ Rg w' r b l left' ∧ w.grownBy w' (some r) ∧ w'.heap.size = w.heap.size ∧
      (Instr.entry (.pointer (some ⟨r, 0, none⟩))).run P w' = .ok (.tuple #[.string p.1, p.2]) w' := by
  rcases run_mnext (P := P) h 0 with ⟨h1, h2⟩ | ⟨p, left', w', h1, h2, h3⟩
  · exact .inl ⟨h1, fun _ => h2⟩
  · exact .inr ⟨p, left', w', h1, fun _ => h2, h3⟩
theorem perm_step {M acc : List ByteArray} {left left' : List Ent} {p : Ent} (h : M.Perm (acc ++ left.map Prod.fst)) (hp : left.Perm (p :: left')) : M.Perm ((acc ++ [p.1]) ++ left'.map Prod.fst) := by
  have h2 := hp.map Prod.fst
  rw [List.map_cons] at h2
  refine h.trans ((List.Perm.append_left acc h2).trans ?_)
  rw [List.append_assoc]
  exact List.Perm.refl _
end Go.Mx
namespace Go.Proofs.YtloogjdafhjheaaGreat
open Go.RowKit Go.Mx

def AncPost (L : List Nd) (ids : List ByteArray) (w : World) (e : Ending) (w' : World) : Prop :=
  (∃ v M, e = .returned (.tuple #[v, .int .i64 0]) ∧ St w w' [⟨v, 9, 1, M.length, ss M⟩] [] ∧ Clo L ids M ∧ Strict M ∧ M.length ≤ 2000) ∨
  (∃ v, e = .returned (.tuple #[v, .int .i64 7]) ∧ St w w' [⟨v, 9, 1, 0, []⟩] [] ∧ ∃ i ∈ ids, fnd L i = none)
theorem sortL_strict {M : List ByteArray} (h : M.Nodup) : Strict (sortL M) := by
  have h1 := sortL_sorted M
  have h2 : (sortL M).Nodup := (sortL_perm M).nodup_iff.2 h
  unfold Sorted at h1
  unfold Strict
  refine List.Pairwise.imp₂ (R := fun a b => lt b a = false) (S := fun a b => a ≠ b) ?_ h1 h2
  intro a b h1 h2
  cases h : lt a b with
  | true => rfl
  | false => exact absurd (lt_total h h1) h2
theorem clo_sort {L : List Nd} {ids M : List ByteArray} (h : Clo L ids M) : Clo L ids (sortL M) := ⟨h.1, fun x => ((sortL_perm M).mem_iff).trans (h.2 x)⟩

def IsPost (L : List Nd) (a b : ByteArray) (w : World) (e : Ending) (w' : World) : Prop :=
  ∃ r : Bool, e = .returned (.bool r) ∧ (r = true ↔ Anc L a b ∧ ∃ n, fnd L b = some n) ∧ St w w' [] []
end Go.Proofs.YtloogjdafhjheaaGreat
