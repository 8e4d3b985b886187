/- Walks of package diff3's and the document's helpers: places, kinds. -/
import Derived.Test.YtafmgclhgmhflaaDoorMatchR
import Derived.Test.YtafmgclhgmhflaaDoorDiff
import Derived.Test.YtafmgclhgmhflaaDoorL14
import Derived.Test.YtafmgclhgmhflaaDoorD3P
namespace Go.Mx
open Go Go.RowKit
theorem is_len (l : List Int) : (is l).length = l.length := by simp [is]
theorem is_set (l : List Int) (i : Nat) (v : Int) : (is l).set i (.int .i64 v) = is (l.set i v) := by simp [is]
theorem is_get' {l : List Int} {k : Nat} (h : k < l.length) : (is l)[k]? = some (.int .i64 (l.getD k 0)) := by simp [is, List.getD_eq_getElem?_getD, List.getElem?_eq_getElem h]
theorem rep_set {n i : Nat} (h : i < n) : (List.replicate i (-1) ++ List.replicate (n - i) 0 : List Int).set i (-1) = List.replicate (i + 1) (-1) ++ List.replicate (n - (i + 1)) 0 := by
  rw [List.set_append_right _ _ (by simp), show n - i = (n - (i + 1)) + 1 by omega, List.replicate_succ, List.length_replicate, Nat.sub_self, List.set_cons_zero, List.replicate_succ']
  simp
/-- A slice of ints, by its cells. -/
theorem sl_ints' {w : World} {v : Value} {n : Nat} {l : List Int} (h : Sl w 1 v n (is l)) : ∃ ao cap blk off, v = .slice ao n cap ∧ n ≤ cap ∧ cap ≤ 9223372036854775807 ∧ n = l.length ∧
    (∀ k (_ : k < l.length), ao = some ⟨blk, off, none⟩ ∧ w.cell? ⟨blk, off + k, none⟩ = some (.int .i64 (l.getD k 0))) := by
  obtain ⟨ao, cap, rfl, h1, h2, h3, _, hc⟩ := h.form
  unfold maxLen at h2
  rw [is, List.length_map] at h3
  by_cases hnil : l = []
  · subst hnil; exact ⟨ao, cap, 0, 0, rfl, h1, by omega, by simpa using h3.symm, fun k hk => by simp at hk⟩
  · obtain ⟨blk, off, rfl, hh⟩ := hc (by simpa [is] using hnil)
    exact ⟨_, cap, blk, off, rfl, h1, by omega, by omega, fun k hk => ⟨rfl, hh k _ (is_get' hk)⟩⟩
end Go.Mx
namespace Go.Proofs.YtafmgclhgmhflaaDoor
open Go.RowKit Go.Mx

set_option maxRecDepth 100000 in
set_option maxHeartbeats 4000000 in
theorem places_any (v : Value) (n : Nat) (ps : List (Nat × Nat)) (w : World) (hv : Sl w 2 v ps.length (pr ps)) (hn : n ≤ 200) (hp : ∀ p ∈ ps, p.1 < n) :
    Calls Tryd.prog 22 #[.int .i64 (n : Int), v] w fun e w' => ∃ v', e = .returned v' ∧ St w w' [⟨v', 3, 1, n, is (pla n ps)⟩] [] := by
  obtain ⟨ao, cap, blk, off, rfl, h1, h2, hc⟩ := sl_pairs hv
  have HC := Mx.hid hc
  have HPP := Mx.hid hp
  clear hc hv hp
  obtain ⟨C2, hC2, hm2⟩ := run_make_rep (P := Tryd.prog) (t := 50) (e := 3) (z := .int .i64 0) (bytes := 8) Tryd.underlying50 (by kernel_rfl) rfl (by omega) n (by omega)
  replace hm2 := hm2 (n : Int) rfl
  have HC2 := Mx.hid hC2
  clear hC2
  go_enter Tryd.func22, Tryd.ntmps22
  go_wp2_with fail
  have hs0 := (St.refl w).madeAt C2 3 1 n w.heap.size (by have := congrArg List.length HC2.out; simpa using this) (by unfold maxLen; omega) rfl
  have hs0' : St w (w.alloc (.cells C2 3)) [⟨slv w.heap.size n, 3, 1, n, is (List.replicate 0 (-1) ++ List.replicate (n - 0) 0)⟩] [] := hs0.cast rfl (by rw [HC2.out]; simp [is])
  generalize w.alloc (.cells C2 3) = W0 at *
  generalize w.heap.size = g at *
  clear hs0 hm2
  go_loopw [13] (fun y wr => ∃ i : Nat, i ≤ n ∧ y = .int .i64 i ∧ St w wr [⟨slv g n, 3, 1, n, is (List.replicate i (-1) ++ List.replicate (n - i) 0)⟩] []) (fun y _ => n - (intOf y).toNat)
  case atStart => exact ⟨0, by omega, rfl, hs0'⟩
  case round =>
    clear hs0'
    obtain ⟨i, hi, rfl, hs⟩ := hrel
    by_cases hlt : i < n
    · have hii : (i : Int) < (n : Int) := by omega
      have hl : i < (is (List.replicate i (-1) ++ List.replicate (n - i) 0)).length := by rw [is_len]; simp; omega
      have hE := Mx.hid (rep_set hlt)
      generalize hr : is (List.replicate i (-1) ++ List.replicate (n - i) 0) = r at *
      have Hr := Mx.hid hr
      clear hr
      go_wp2_with ((with_reducible show wpList _ _ _ _ _ _); refine wpl_store1 rfl 3 _ _ rfl hs (i) rfl (.int .i64 (-1)) rfl rfl (by kernel_rfl) hl rfl ?_; intro w2 hs2)
      have hs3 : St w w2 [⟨slv g n, 3, 1, n, is (List.replicate (i + 1) (-1) ++ List.replicate (n - (i + 1)) 0)⟩] [] := hs2.cast rfl (by rw [put_eq hl, ← Hr.out, is_set, hE.out])
      go_roundw
      case rel => exact ⟨i + 1, by omega, by go_num, hs3⟩
      case measure => simp [intOf]; omega
    · obtain rfl : i = n := by omega
      have hii : ¬ ((i : Int) < (i : Int)) := by omega
      have hs' : St w wr [⟨slv g i, 3, 1, i, is (plc (ps.take 0) (List.replicate i (-1)))⟩] [] := hs.cast rfl (by simp [plc])
      clear hs
      go_wp2_with fail
      go_loopw [22] (fun y wr => ∃ k : Nat, k ≤ ps.length ∧ y = .int .i64 k ∧ St w wr [⟨slv g i, 3, 1, i, is (plc (ps.take k) (List.replicate i (-1)))⟩] []) (fun y _ => ps.length - (intOf y).toNat)
      case atStart => exact ⟨0, by omega, rfl, hs'⟩
      case round =>
        clear hs'
        obtain ⟨k, hk, rfl, hs⟩ := hrel
        by_cases hlt : k < ps.length
        · obtain ⟨rfl, c1, c2⟩ := HC.out k hlt
          replace c1 := hs.keep c1
          replace c2 := hs.keep c2
          have hkk : (k : Int) < (ps.length : Int) := by omega
          have hpn := HPP.out ps[k] (List.getElem_mem _)
          have hst : plc (ps.take (k + 1)) (List.replicate i (-1)) = (plc (ps.take k) (List.replicate i (-1))).set ps[k].1 (ps[k].2 : Int) := by
            rw [List.take_succ_eq_append_getElem hlt, plc_snoc]
          generalize hpk : ps[k] = p at *
          obtain ⟨px, py⟩ := p
          simp only [] at c1 c2 hpn hst
          have Hst := Mx.hid hst
          have hl : px < (is (plc (ps.take k) (List.replicate i (-1)))).length := by rw [is_len, plc_len]; simp; exact hpn
          have hpi : (px : Int) < (i : Int) := by omega
          clear hpk hst
          generalize hr : is (plc (ps.take k) (List.replicate i (-1))) = r at *
          have Hr := Mx.hid hr
          clear hr
          go_wp2_with ((with_reducible show wpList _ _ _ _ _ _); refine wpl_store1 rfl 3 _ _ rfl (hs.alloc _) (px) rfl (.int .i64 (py : Int)) rfl rfl (by kernel_rfl) hl rfl ?_; intro w2 hs2)
          have hs3 : St w w2 [⟨slv g i, 3, 1, i, is (plc (ps.take (k + 1)) (List.replicate i (-1)))⟩] [] := hs2.cast rfl (by rw [put_eq hl, ← Hr.out, is_set, ← Hst.out])
          go_roundw
          case rel => exact ⟨k + 1, by omega, by go_num, hs3⟩
          case measure => simp [intOf]; omega
        · have hkk : ¬ ((k : Int) < (ps.length : Int)) := by omega
          have hs3 : St w wr [⟨slv g i, 3, 1, i, is (pla i ps)⟩] [] := hs.cast rfl (by rw [List.take_of_length_le (by omega)]; rfl)
          clear hs
          go_wp2_with fail
          go_ret
          exact ⟨_, rfl, hs3⟩

set_option maxRecDepth 100000 in
set_option maxHeartbeats 4000000 in
theorem refTo_any (v : Value) (n : Nat) (ps : List (Nat × Nat)) (w : World) (hv : Sl w 2 v ps.length (pr ps)) (hn : n ≤ 200) (hp : ∀ p ∈ ps, p.1 < n) :
    Calls Tryd.prog 26 #[v, .int .i64 (n : Int)] w fun e w' => ∃ v', e = .returned v' ∧ St w w' [⟨v', 3, 1, n, is (pla n ps)⟩] [] := by
  obtain ⟨ao, cap, blk, off, rfl, h1, h2, hc⟩ := sl_pairs hv
  have HC := Mx.hid hc
  have HPP := Mx.hid hp
  clear hc hv hp
  obtain ⟨C2, hC2, hm2⟩ := run_make_rep (P := Tryd.prog) (t := 50) (e := 3) (z := .int .i64 0) (bytes := 8) Tryd.underlying50 (by kernel_rfl) rfl (by omega) n (by omega)
  replace hm2 := hm2 (n : Int) rfl
  have HC2 := Mx.hid hC2
  clear hC2
  go_enter Tryd.func26, Tryd.ntmps26
  go_wp2_with fail
  have hs0 := (St.refl w).madeAt C2 3 1 n w.heap.size (by have := congrArg List.length HC2.out; simpa using this) (by unfold maxLen; omega) rfl
  have hs0' : St w (w.alloc (.cells C2 3)) [⟨slv w.heap.size n, 3, 1, n, is (List.replicate 0 (-1) ++ List.replicate (n - 0) 0)⟩] [] := hs0.cast rfl (by rw [HC2.out]; simp [is])
  generalize w.alloc (.cells C2 3) = W0 at *
  generalize w.heap.size = g at *
  clear hs0 hm2
  go_loopw [6] (fun y wr => ∃ i : Nat, i ≤ n ∧ y = .int .i64 i ∧ St w wr [⟨slv g n, 3, 1, n, is (List.replicate i (-1) ++ List.replicate (n - i) 0)⟩] []) (fun y _ => n - (intOf y).toNat)
  case atStart => exact ⟨0, by omega, rfl, hs0'⟩
  case round =>
    clear hs0'
    obtain ⟨i, hi, rfl, hs⟩ := hrel
    by_cases hlt : i < n
    · have hii : (i : Int) < (n : Int) := by omega
      have hl : i < (is (List.replicate i (-1) ++ List.replicate (n - i) 0)).length := by rw [is_len]; simp; omega
      have hE := Mx.hid (rep_set hlt)
      generalize hr : is (List.replicate i (-1) ++ List.replicate (n - i) 0) = r at *
      have Hr := Mx.hid hr
      clear hr
      go_wp2_with ((with_reducible show wpList _ _ _ _ _ _); refine wpl_store1 rfl 3 _ _ rfl hs (i) rfl (.int .i64 (-1)) rfl rfl (by kernel_rfl) hl rfl ?_; intro w2 hs2)
      have hs3 : St w w2 [⟨slv g n, 3, 1, n, is (List.replicate (i + 1) (-1) ++ List.replicate (n - (i + 1)) 0)⟩] [] := hs2.cast rfl (by rw [put_eq hl, ← Hr.out, is_set, hE.out])
      go_roundw
      case rel => exact ⟨i + 1, by omega, by go_num, hs3⟩
      case measure => simp [intOf]; omega
    · obtain rfl : i = n := by omega
      have hii : ¬ ((i : Int) < (i : Int)) := by omega
      have hs' : St w wr [⟨slv g i, 3, 1, i, is (plc (ps.take 0) (List.replicate i (-1)))⟩] [] := hs.cast rfl (by simp [plc])
      clear hs
      go_wp2_with fail
      go_loopw [7] (fun y wr => ∃ k : Nat, k ≤ ps.length ∧ y = .int .i64 k ∧ St w wr [⟨slv g i, 3, 1, i, is (plc (ps.take k) (List.replicate i (-1)))⟩] []) (fun y _ => ps.length - (intOf y).toNat)
      case atStart => exact ⟨0, by omega, rfl, hs'⟩
      case round =>
        clear hs'
        obtain ⟨k, hk, rfl, hs⟩ := hrel
        by_cases hlt : k < ps.length
        · obtain ⟨rfl, c1, c2⟩ := HC.out k hlt
          replace c1 := hs.keep c1
          replace c2 := hs.keep c2
          have hkk : (k : Int) < (ps.length : Int) := by omega
          have hpn := HPP.out ps[k] (List.getElem_mem _)
          have hst : plc (ps.take (k + 1)) (List.replicate i (-1)) = (plc (ps.take k) (List.replicate i (-1))).set ps[k].1 (ps[k].2 : Int) := by
            rw [List.take_succ_eq_append_getElem hlt, plc_snoc]
          generalize hpk : ps[k] = p at *
          obtain ⟨px, py⟩ := p
          simp only [] at c1 c2 hpn hst
          have Hst := Mx.hid hst
          have hl : px < (is (plc (ps.take k) (List.replicate i (-1)))).length := by rw [is_len, plc_len]; simp; exact hpn
          have hpi : (px : Int) < (i : Int) := by omega
          clear hpk hst
          generalize hr : is (plc (ps.take k) (List.replicate i (-1))) = r at *
          have Hr := Mx.hid hr
          clear hr
          go_wp2_with fail
          go_still_tail 12, (by kernel_rfl)
          go_wp2_with ((with_reducible show wpList _ _ _ _ _ _); refine wpl_store1 rfl 3 _ _ rfl hs.drew (px) rfl (.int .i64 (py : Int)) rfl rfl (by kernel_rfl) hl rfl ?_; intro w2 hs2)
          have hs3 : St w w2 [⟨slv g i, 3, 1, i, is (plc (ps.take (k + 1)) (List.replicate i (-1)))⟩] [] := hs2.cast rfl (by rw [put_eq hl, ← Hr.out, is_set, ← Hst.out])
          go_roundw
          case rel => exact ⟨k + 1, by omega, by go_num, hs3⟩
          case measure => simp [intOf]; omega
        · have hkk : ¬ ((k : Int) < (ps.length : Int)) := by omega
          have hs3 : St w wr [⟨slv g i, 3, 1, i, is (pla i ps)⟩] [] := hs.cast rfl (by rw [List.take_of_length_le (by omega)]; rfl)
          clear hs
          go_wp2_with fail
          go_ret
          exact ⟨_, rfl, hs3⟩

end Go.Proofs.YtafmgclhgmhflaaDoor
