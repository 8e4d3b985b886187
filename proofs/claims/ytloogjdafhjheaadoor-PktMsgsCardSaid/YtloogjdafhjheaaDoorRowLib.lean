/- From the form's reading of an argument to the symbolic heap's. -/
import Derived.Test.YtloogjdafhjheaaDoorLib2
import Derived.ProofKit
import Derived.OpenShut
namespace Go.Mx
open Go Go.RowKit Go.ChangeShapes Go.WideShapes Go.ChangeAt
variable {H : Type} {enc : TypeId × Value → H} {P : Program} {w : World}

theorem open_u8 {r : Reach} {b0 : Nat} {t : TypeId} {v : Value} {d : DataW H} {ps : List MemPlace} {sp : Nat → Bool} {held : Bool} {base : Nat} (ht : P.underlying t = some (.int .u8)) (hval : Value.okWide P w r b0 t v) (hd : DataW.Trod enc P w base sp held t v d ps) :
    ∃ x : UInt8, v = .int .u8 (x.toNat : Int) := by
  obtain ⟨a, rfl, _, _, wa⟩ := open_int ht hval hd
  have hx : 0 ≤ a ∧ a ≤ 255 := by simpa [Lit.wf, IntKind.min, IntKind.max, IntKind.signed, IntKind.bits] using wa
  refine ⟨UInt8.ofNat a.toNat, ?_⟩
  rw [UInt8.toNat_ofNat']
  congr 1
  omega

theorem open_bytes {r : Reach} {b0 : Nat} {t e : TypeId} {v : Value} {d : DataW H} {ps : List MemPlace} {held : Bool} (ht : P.underlying t = some (.slice e)) (he : P.underlying e = some (.int .u8)) (hc : P.cellsOf e = 1)
    (hval : Value.okWide P w r b0 t v) (hd : DataW.Trod enc P w 0 (fun _ => true) held t v d ps) : ∃ l : List UInt8, Sl w 1 v l.length (bs l) := by
  obtain ⟨a, len, cap, rfl⟩ := okWide_slice ht hval
  obtain ⟨fuel, hf⟩ := hd
  rcases open_ints ht he hc hf with ⟨hcs, _⟩ | ⟨x, l, c, zs, hcs, _, hl, hm, hz, _, hcell, hwz⟩
  · simp [Value.cells] at hcs
    obtain ⟨rfl, rfl, rfl⟩ := hcs
    exact ⟨[], Sl.nil w 1⟩
  · simp [Value.cells] at hcs
    obtain ⟨rfl, rfl, rfl⟩ := hcs
    simp only [if_true] at hz
    refine ⟨(zs.take len).map fun n => UInt8.ofNat n.toNat, some x, cap, ?_, ?_, hm, ?_, by simp, fun j u hu => ⟨x, rfl, ?_⟩⟩
    · rw [List.length_map, List.length_take, hz, Nat.min_eq_left hl]
    · rw [List.length_map, List.length_take, hz, Nat.min_eq_left hl]; exact hl
    · rw [bs_len, Nat.mul_one]
    · have hj : j < len := by
        have := (List.getElem?_eq_some_iff.1 hu).1
        rw [bs_len, List.length_map, List.length_take] at this
        omega
      rw [hcell j (by omega), ← hu]
      have hzj : j < zs.length := by omega
      have hw := hwz zs[j] (List.getElem_mem _)
      have hx : 0 ≤ zs[j] ∧ zs[j] ≤ 255 := by simpa [Lit.wf, IntKind.min, IntKind.max, IntKind.signed, IntKind.bits] using hw
      rw [bs_get (by rw [List.length_map, List.length_take]; omega)]
      simp only [List.getElem_map, List.getElem_take, UInt8.toNat_ofNat']
      congr 2
      rw [List.getD_eq_getElem?_getD, List.getElem?_eq_getElem hzj, Option.getD_some]
      omega

theorem open_texts {r : Reach} {b0 : Nat} {t e : TypeId} {v : Value} {d : DataW H} {ps : List MemPlace} {held : Bool} (ht : P.underlying t = some (.slice e)) (he : P.underlying e = some .string) (hc : P.cellsOf e = 1)
    (hval : Value.okWide P w r b0 t v) (hd : DataW.Trod enc P w 0 (fun _ => true) held t v d ps) : ∃ l : List ByteArray, Sl w 1 v l.length (ss l) ∧ ∀ s ∈ l, s.size ≤ maxLen := by
  obtain ⟨a, len, cap, rfl⟩ := okWide_slice ht hval
  obtain ⟨fuel, hf⟩ := hd
  rcases open_strings ht he hc hf with ⟨hcs, _⟩ | ⟨x, l, c, zs, hcs, _, hl, hm, hz, _, hcell, hwz⟩
  · simp [Value.cells] at hcs
    obtain ⟨rfl, rfl, rfl⟩ := hcs
    exact ⟨[], Sl.nil w 1, by simp⟩
  · simp [Value.cells] at hcs
    obtain ⟨rfl, rfl, rfl⟩ := hcs
    simp only [if_true] at hz
    refine ⟨zs.take len, ⟨some x, cap, ?_, ?_, hm, ?_, by simp, fun j u hu => ⟨x, rfl, ?_⟩⟩, fun s hs => hwz s (List.mem_of_mem_take hs)⟩
    · rw [List.length_take, hz, Nat.min_eq_left hl]
    · rw [List.length_take, hz, Nat.min_eq_left hl]; exact hl
    · rw [ss, List.length_map, Nat.mul_one]
    · have hj : j < len := by
        have := (List.getElem?_eq_some_iff.1 hu).1
        rw [ss, List.length_map, List.length_take] at this
        omega
      rw [hcell j (by omega), ← hu]
      have hzj : j < zs.length := by omega
      simp [ss, hj, hzj]

theorem open_i64s {r : Reach} {b0 : Nat} {t e : TypeId} {v : Value} {d : DataW H} {ps : List MemPlace} {held : Bool} (ht : P.underlying t = some (.slice e)) (he : P.underlying e = some (.int .i64)) (hc : P.cellsOf e = 1)
    (hval : Value.okWide P w r b0 t v) (hd : DataW.Trod enc P w 0 (fun _ => true) held t v d ps) : ∃ l : List Int, Sl w 1 v l.length (is l) ∧ ∀ n ∈ l, -9223372036854775808 ≤ n ∧ n ≤ 9223372036854775807 := by
  obtain ⟨a, len, cap, rfl⟩ := okWide_slice ht hval
  obtain ⟨fuel, hf⟩ := hd
  rcases open_ints ht he hc hf with ⟨hcs, _⟩ | ⟨x, l, c, zs, hcs, _, hl, hm, hz, _, hcell, hwz⟩
  · simp [Value.cells] at hcs
    obtain ⟨rfl, rfl, rfl⟩ := hcs
    exact ⟨[], Sl.nil w 1, by simp⟩
  · simp [Value.cells] at hcs
    obtain ⟨rfl, rfl, rfl⟩ := hcs
    simp only [if_true] at hz
    refine ⟨zs.take len, ⟨some x, cap, ?_, ?_, hm, ?_, by simp, fun j u hu => ⟨x, rfl, ?_⟩⟩, fun n hn => ?_⟩
    · rw [List.length_take, hz, Nat.min_eq_left hl]
    · rw [List.length_take, hz, Nat.min_eq_left hl]; exact hl
    · rw [is, List.length_map, Nat.mul_one]
    · have hj : j < len := by
        have := (List.getElem?_eq_some_iff.1 hu).1
        rw [is, List.length_map, List.length_take] at this
        omega
      rw [hcell j (by omega), ← hu]
      have hzj : j < zs.length := by omega
      simp [is, hj, hzj]
    · have := hwz n (List.mem_of_mem_take hn)
      simpa [Lit.wf, IntKind.min, IntKind.max, IntKind.signed, IntKind.bits] using this
end Go.Mx
