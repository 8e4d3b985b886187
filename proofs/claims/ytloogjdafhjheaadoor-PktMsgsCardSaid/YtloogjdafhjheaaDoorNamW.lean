/- Walks of names.Path, Split; marref1.Name, Path, Split. -/
import Derived.Test.YtloogjdafhjheaaDoorNamQ
import Derived.Test.YtloogjdafhjheaaDoorObjN
import Derived.Test.YtloogjdafhjheaaDoorRName
import Derived.Test.YtloogjdafhjheaaDoorSplitR
import Derived.Test.YtloogjdafhjheaaDoorSplit
namespace Go.Mx
open Go Go.RowKit
theorem txt_at' {w : World} {ao : Option Addr} {n cap : Nat} {L : List (List UInt8)} (h : Sl w 1 (.slice ao n cap) L.length (ss (tx L))) (i : Nat) (hi : i < L.length) : ∃ blk off, ao = some ⟨blk, off, none⟩ ∧ w.cell? ⟨blk, off + i, none⟩ = some (.string (str L[i])) := by
  rw [← tx_len L] at h
  obtain ⟨ao', cap', blk, off, e, _, _, _, hc⟩ := h.txt
  cases e
  obtain ⟨rfl, c⟩ := hc i (by rw [tx_len]; exact hi)
  rw [tx_get] at c
  exact ⟨blk, off, rfl, c⟩
theorem lall_snoc' {α : Type} {l : List α} {p : α → Bool} {i : Nat} (h : i < l.length) : (l.take (i + 1)).all p = ((l.take i).all p && p l[i]) := by
  rw [List.take_succ_eq_append_getElem h, List.all_append]
  simp
theorem lall_not' {α : Type} {l : List α} {p : α → Bool} {i : Nat} (h : i < l.length) (hp : p l[i] = false) : l.all p = false := by
  rw [Bool.eq_false_iff]
  intro ha
  have := List.all_eq_true.1 ha _ (List.getElem_mem h)
  rw [hp] at this
  cases this
theorem sum_mem : ∀ {L : List (List UInt8)} {p : List UInt8}, p ∈ L → p.length ≤ (L.map List.length).sum
  | q :: L, p, h => by
    rw [List.map_cons, List.sum_cons]
    rcases List.mem_cons.1 h with rfl | h
    · omega
    · have := sum_mem h; omega
theorem pcs_le {c : UInt8} {l p : List UInt8} (h : p ∈ pcs c 0 l) : p.length ≤ l.length := by
  have h1 := join_len c (pcs_ne c 0 l)
  rw [join_pcs] at h1
  have h2 := sum_mem h
  have h3 : 1 ≤ (pcs c 0 l).length := List.length_pos_iff.2 (pcs_ne c 0 l)
  omega
end Go.Mx
namespace Go.Proofs.YtloogjdafhjheaaDoor
open Go.RowKit Go.Mx

theorem ssplit_any (s : ByteArray) (hs : s.size < 4294967281) (w : World) :
    Calls Tryd.prog 47 #[.string s, .string ⟨#[47]⟩] w fun e w' => ∃ v, e = .returned v ∧ St w w' [⟨v, 9, 1, (pcs 47 0 (bL s)).length, ss (tx (pcs 47 0 (bL s)))⟩] [] := by
  have G := Mx.hid (genSplit_any s hs 47 0 (Nat.zero_le _) w)
  have hl : (pcs 47 0 s.data.toList).length ≤ maxLen := by
    rw [pcs_len]
    have h1 : s.data.toList.count 47 ≤ s.data.toList.length := List.count_le_length
    have h2 : s.data.toList.length = s.size := rfl
    unfold maxLen
    omega
  have HS := Mx.hid ((St.refl w).made (ss (tx (pcs 47 0 s.data.toList))).toArray 9 1 (pcs 47 0 s.data.toList).length (by simp [ss_len, tx_len]) hl)
  clear hl
  go_enter Tryd.func47, Tryd.ntmps47
  go_wp2_with fail
  refine G.out.mono ?_
  rintro e w' ⟨rfl, rfl⟩
  go_wp2_with fail
  go_ret
  exact ⟨_, rfl, HS.out⟩

theorem refCut47 (s : ByteArray) (w : World) (hl : s.size ≤ 4294967296) :
    Calls Tryd.prog 32 #[.string s, .int .u8 47] w fun e w' => ∃ v', e = .returned v' ∧ St w w' [⟨v', 9, 1, (pcs 47 0 (bL s)).length, ss (tx (pcs 47 0 (bL s)))⟩] [] := refCut_any s 47 w hl

end Go.Proofs.YtloogjdafhjheaaDoor
