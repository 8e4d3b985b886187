/- Walks of names.Name and obj.mayMsg. -/
import Derived.Test.YtloogjdafhjheaaDoorObjP
import Derived.Test.YtloogjdafhjheaaDoorBase
namespace Go.Mx
open Go Go.RowKit
theorem all_snoc {s : ByteArray} {p : UInt8 → Bool} {i : Nat} (h : i < s.size) : ((bL s).take (i + 1)).all p = (((bL s).take i).all p && p s[i]) := by
  have hl : i < (bL s).length := by simpa [bL] using h
  rw [List.take_succ_eq_append_getElem hl, List.all_append]
  simp [bL]
  rfl
theorem all_not {s : ByteArray} {p : UInt8 → Bool} {i : Nat} (h : i < s.size) (hp : p s[i] = false) : (bL s).all p = false := by
  rw [Bool.eq_false_iff]
  intro ha
  have hl : i < (bL s).length := by simpa [bL] using h
  have := List.all_eq_true.1 ha _ (List.getElem_mem hl)
  have h3 : p (s[i]'h) = true := this
  rw [hp] at h3
  cases h3
theorem all_full {s : ByteArray} {p : UInt8 → Bool} {i : Nat} (h : s.size ≤ i) (hp : ((bL s).take i).all p = true) : (bL s).all p = true := by
  rwa [List.take_of_length_le (by simpa [bL] using h)] at hp
theorem le_dec (a b : Nat) : decide (a ≤ b) = decide ((a : Int) ≤ (b : Int)) := by rw [Bool.eq_iff_iff]; simp
theorem name_tail (s : ByteArray) : decide (bL s ≠ [] ∧ (bL s).length ≤ 64 ∧ bL s ≠ [46] ∧ bL s ≠ [46, 46]) = (!s.toList.isEmpty && decide ((s.size : Int) ≤ 64) && !(s.toList == [46]) && !(s.toList == [46, 46])) := by
  have e : s.toList = bL s := ByteArray.toList_eq s
  have e2 : s.size = (bL s).length := by simp [bL]
  rw [e, e2, Bool.eq_iff_iff]
  simp [and_assoc]
  intros
  omega
def nmc (c : UInt8) : Bool := decide (33 ≤ c.toNat ∧ c.toNat ≤ 126 ∧ c.toNat ≠ 47)
def msc (c : UInt8) : Bool := decide (32 ≤ c.toNat ∧ c.toNat ≤ 126)
end Go.Mx
namespace Go.Proofs.YtloogjdafhjheaaDoor
open Go.RowKit Go.Mx

end Go.Proofs.YtloogjdafhjheaaDoor
