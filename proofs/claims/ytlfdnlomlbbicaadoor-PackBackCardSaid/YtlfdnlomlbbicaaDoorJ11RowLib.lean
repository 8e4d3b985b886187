/- From the form's reading of an argument to the symbolic heap's. From the form's reading of a slice of structs to the symbolic heap's. -/
import Derived.Test.YtlfdnlomlbbicaaDoorLib2
import Derived.ProofKit
import Derived.OpenShut
import Derived.Deep.Fields
namespace Go.Mx
open Go Go.RowKit Go.ChangeShapes Go.WideShapes Go.ChangeAt
variable {H : Type} {enc : TypeId × Value → H} {P : Program} {w : World}

theorem open_u8 {r : Reach} {b0 : Nat} {t : TypeId} {v : Value} {d : DataW H} {ps : List MemPlace} {sp : Nat → Bool} {held : Bool} {base : Nat} (ht : P.underlying t = some (.int .u8)) (hval : Value.okWide P w r b0 t v) (hd : DataW.Trod enc P w base sp held t v d ps) :
    ∃ x : UInt8, v = .int .u8 (x.toNat : Int) := by
  obtain ⟨a, rfl, _, _, wa⟩ := open_int ht hval hd
  have hx : 0 ≤ a ∧ a ≤ 255 := by simpa [Lit.wf, IntKind.min, IntKind.max, IntKind.signed, IntKind.bits] using wa
  refine ⟨UInt8.ofNat a.toNat, ?_⟩
  rw [UInt8.toNat_ofNat']
  congr 1
  omega

theorem open_bytes {r : Reach} {b0 : Nat} {t e : TypeId} {v : Value} {d : DataW H} {ps : List MemPlace} {held : Bool} (ht : P.underlying t = some (.slice e)) (he : P.underlying e = some (.int .u8)) (hc : P.cellsOf e = 1)
    (hval : Value.okWide P w r b0 t v) (hd : DataW.Trod enc P w 0 (fun _ => true) held t v d ps) : ∃ l : List UInt8, Sl w 1 v l.length (bs l) := by
  obtain ⟨a, len, cap, rfl⟩ := okWide_slice ht hval
  obtain ⟨fuel, hf⟩ := hd
  rcases open_ints ht he hc hf with ⟨hcs, _⟩ | ⟨x, l, c, zs, hcs, _, hl, hm, hz, _, hcell, hwz⟩
  · simp [Value.cells] at hcs
    obtain ⟨rfl, rfl, rfl⟩ := hcs
    exact ⟨[], Sl.nil w 1⟩
  · simp [Value.cells] at hcs
    obtain ⟨rfl, rfl, rfl⟩ := hcs
    simp only [if_true] at hz
    refine ⟨(zs.take len).map fun n => UInt8.ofNat n.toNat, some x, cap, ?_, ?_, hm, ?_, by simp, fun j u hu => ⟨x, rfl, ?_⟩⟩
    · rw [List.length_map, List.length_take, hz, Nat.min_eq_left hl]
    · rw [List.length_map, List.length_take, hz, Nat.min_eq_left hl]; exact hl
    · rw [bs_len, Nat.mul_one]
    · have hj : j < len := by
        have := (List.getElem?_eq_some_iff.1 hu).1
        rw [bs_len, List.length_map, List.length_take] at this
        omega
      rw [hcell j (by omega), ← hu]
      have hzj : j < zs.length := by omega
      have hw := hwz zs[j] (List.getElem_mem _)
      have hx : 0 ≤ zs[j] ∧ zs[j] ≤ 255 := by simpa [Lit.wf, IntKind.min, IntKind.max, IntKind.signed, IntKind.bits] using hw
      rw [bs_get (by rw [List.length_map, List.length_take]; omega)]
      simp only [List.getElem_map, List.getElem_take, UInt8.toNat_ofNat']
      congr 2
      rw [List.getD_eq_getElem?_getD, List.getElem?_eq_getElem hzj, Option.getD_some]
      omega

theorem open_texts {r : Reach} {b0 : Nat} {t e : TypeId} {v : Value} {d : DataW H} {ps : List MemPlace} {held : Bool} (ht : P.underlying t = some (.slice e)) (he : P.underlying e = some .string) (hc : P.cellsOf e = 1)
    (hval : Value.okWide P w r b0 t v) (hd : DataW.Trod enc P w 0 (fun _ => true) held t v d ps) : ∃ l : List ByteArray, Sl w 1 v l.length (ss l) ∧ ∀ s ∈ l, s.size ≤ maxLen := by
  obtain ⟨a, len, cap, rfl⟩ := okWide_slice ht hval
  obtain ⟨fuel, hf⟩ := hd
  rcases open_strings ht he hc hf with ⟨hcs, _⟩ | ⟨x, l, c, zs, hcs, _, hl, hm, hz, _, hcell, hwz⟩
  · simp [Value.cells] at hcs
    obtain ⟨rfl, rfl, rfl⟩ := hcs
    exact ⟨[], Sl.nil w 1, by simp⟩
  · simp [Value.cells] at hcs
    obtain ⟨rfl, rfl, rfl⟩ := hcs
    simp only [if_true] at hz
    refine ⟨zs.take len, ⟨some x, cap, ?_, ?_, hm, ?_, by simp, fun j u hu => ⟨x, rfl, ?_⟩⟩, fun s hs => hwz s (List.mem_of_mem_take hs)⟩
    · rw [List.length_take, hz, Nat.min_eq_left hl]
    · rw [List.length_take, hz, Nat.min_eq_left hl]; exact hl
    · rw [ss, List.length_map, Nat.mul_one]
    · have hj : j < len := by
        have := (List.getElem?_eq_some_iff.1 hu).1
        rw [ss, List.length_map, List.length_take] at this
        omega
      rw [hcell j (by omega), ← hu]
      have hzj : j < zs.length := by omega
      simp [ss, hj, hzj]

theorem open_i64s {r : Reach} {b0 : Nat} {t e : TypeId} {v : Value} {d : DataW H} {ps : List MemPlace} {held : Bool} (ht : P.underlying t = some (.slice e)) (he : P.underlying e = some (.int .i64)) (hc : P.cellsOf e = 1)
    (hval : Value.okWide P w r b0 t v) (hd : DataW.Trod enc P w 0 (fun _ => true) held t v d ps) : ∃ l : List Int, Sl w 1 v l.length (is l) ∧ ∀ n ∈ l, -9223372036854775808 ≤ n ∧ n ≤ 9223372036854775807 := by
  obtain ⟨a, len, cap, rfl⟩ := okWide_slice ht hval
  obtain ⟨fuel, hf⟩ := hd
  rcases open_ints ht he hc hf with ⟨hcs, _⟩ | ⟨x, l, c, zs, hcs, _, hl, hm, hz, _, hcell, hwz⟩
  · simp [Value.cells] at hcs
    obtain ⟨rfl, rfl, rfl⟩ := hcs
    exact ⟨[], Sl.nil w 1, by simp⟩
  · simp [Value.cells] at hcs
    obtain ⟨rfl, rfl, rfl⟩ := hcs
    simp only [if_true] at hz
    refine ⟨zs.take len, ⟨some x, cap, ?_, ?_, hm, ?_, by simp, fun j u hu => ⟨x, rfl, ?_⟩⟩, fun n hn => ?_⟩
    · rw [List.length_take, hz, Nat.min_eq_left hl]
    · rw [List.length_take, hz, Nat.min_eq_left hl]; exact hl
    · rw [is, List.length_map, Nat.mul_one]
    · have hj : j < len := by
        have := (List.getElem?_eq_some_iff.1 hu).1
        rw [is, List.length_map, List.length_take] at this
        omega
      rw [hcell j (by omega), ← hu]
      have hzj : j < zs.length := by omega
      simp [is, hj, hzj]
    · have := hwz n (List.mem_of_mem_take hn)
      simpa [Lit.wf, IntKind.min, IntKind.max, IntKind.signed, IntKind.bits] using this
end Go.Mx

namespace Go.Mx
open Go Go.RowKit Go.ChangeShapes Go.WideShapes Go.ChangeAt Go.Deep
variable {H : Type} {enc : TypeId × Value → H} {P : Program} {w : World}

/-- Rows of k cells one behind the other: the cell i of row j. -/
theorem flat_get {T : Type} {k : Nat} {f : T → List Value} (hk : ∀ t, (f t).length = k) : ∀ (l : List T) {j i : Nat}, i < k → ∀ (hj : j < l.length), (l.flatMap f)[j * k + i]? = (f l[j])[i]?
  | [], j, i, _, hj => by simp at hj
  | t :: l, 0, i, hi, _ => by
    rw [List.flatMap_cons, Nat.zero_mul, Nat.zero_add, List.getElem?_append_left (by rw [hk]; exact hi)]
    rfl
  | t :: l, j + 1, i, hi, hj => by
    rw [List.flatMap_cons, List.getElem?_append_right (by rw [hk, Nat.succ_mul]; omega), hk, show (j + 1) * k + i - k = j * k + i by rw [Nat.succ_mul]; omega, flat_get hk l hi (by simpa using hj)]
    rfl
theorem flat_len {T : Type} {k : Nat} {f : T → List Value} (hk : ∀ t, (f t).length = k) : ∀ l : List T, (l.flatMap f).length = l.length * k
  | [] => by simp
  | t :: l => by rw [List.flatMap_cons, List.length_append, hk, flat_len hk l, List.length_cons, Nat.succ_mul]; omega

/-- A slice of structs whose fields are of one cell each, by what each row's cells are. -/
theorem open_structs {T : Type} (row : T → List Value) (Ok : T → Prop) (d0 : T) {k : Nat} (hrow : ∀ t, (row t).length = k) (hk : 0 < k) {r : Reach} {b0 : Nat} {t e : TypeId} {fs : Array Field} {v : Value} {d : DataW H} {ps : List MemPlace} {held : Bool}
    (ht : P.underlying t = some (.slice e)) (he : P.underlying e = some (.struct fs)) (hone : oneCellFields P fs = true) (hC : P.cellsOf e = k) (hfs : fs.size = k)
    (dec : ∀ cs : List Value, cs.length = k → (∀ (i : Nat) (f : Field), fs[i]? = some f → ∃ m y c, cs[i]? = some c ∧ DataW.trod enc P w 0 (fun _ => true) held m f.type [c] = some y) → ∃ t, cs = row t ∧ Ok t)
    (hval : Value.okWide P w r b0 t v) (hd : DataW.Trod enc P w 0 (fun _ => true) held t v d ps) : ∃ l : List T, Sl w k v l.length (l.flatMap row) ∧ ∀ t ∈ l, Ok t := by
  obtain ⟨a, len, cap, rfl⟩ := okWide_slice ht hval
  obtain ⟨fuel, hf⟩ := hd
  rcases DataW.trod_slice ht hf with ⟨hcs, _⟩ | ⟨a', len', cap', elems, rest, n, _, hcs, _, _, hl, hm, hel, hsp, _⟩
  · simp [Value.cells] at hcs
    obtain ⟨rfl, rfl, rfl⟩ := hcs
    exact ⟨[], Sl.nil w k, by simp⟩
  · simp [Value.cells] at hcs
    obtain ⟨rfl, rfl, rfl⟩ := hcs
    have key : ∀ i : Nat, ∃ q : T, i < len → Ok q ∧ ∀ j u, (row q)[j]? = some u → w.cell? (a'.add (i * k + j)) = some u := by
      intro i
      by_cases hi : i < len
      · have h3 := hsp i hi
        rw [hC, List.getElem?_eq_getElem (by omega)] at h3
        obtain ⟨cs, hcs, htr⟩ := Option.bind_eq_some_iff.1 h3
        obtain ⟨_, hcl, hat⟩ := World.cells?_some hcs
        obtain ⟨xs, m, _, _, _, hlen, hg⟩ := DataW.trod_struct he htr
        obtain ⟨q, rfl, hq⟩ := dec cs hcl fun j f hf => by
          obtain ⟨oj, kj⟩ := hone_of hone j f hf
          have hj : j < fs.size := (Array.getElem?_eq_some_iff.1 hf).1
          have := hg j f hf
          rw [oj, kj] at this
          have hjc : j < cs.length := by omega
          have e1 : (cs.drop j).take 1 = [cs[j]] := by
            rw [List.drop_eq_getElem_cons hjc]; rfl
          have hx : j < xs.length := by omega
          rw [e1, List.getElem?_eq_getElem hx] at this
          exact ⟨m, _, cs[j], List.getElem?_eq_getElem hjc, this⟩
        refine ⟨q, fun _ => ⟨hq, fun j u hu => ?_⟩⟩
        have hj : j < (row q).length := (List.getElem?_eq_some_iff.1 hu).1
        have := hat j (by rw [hrow] at hj; omega)
        rw [Addr.add_add] at this
        rw [this, hu]
      · exact ⟨d0, fun h => absurd h hi⟩
    obtain ⟨f, hfk⟩ := Classical.skolem.1 key
    have hel1 : ((List.range len).map f).length = len := by simp
    refine ⟨(List.range len).map f, ⟨some a', cap, by rw [hel1], by rw [hel1]; exact hl, hm, by rw [flat_len hrow], by simp, fun j u hu => ⟨a', rfl, ?_⟩⟩, ?_⟩
    · have hj : j < len * k := by have := (List.getElem?_eq_some_iff.1 hu).1; rw [flat_len hrow, hel1] at this; exact this
      have hjk : j / k < len := (Nat.div_lt_iff_lt_mul hk).2 hj
      have hjm : j % k < k := Nat.mod_lt _ hk
      have e1 : j / k * k + j % k = j := by rw [Nat.mul_comm]; exact Nat.div_add_mod j k
      have := flat_get hrow ((List.range len).map f) hjm (j := j / k) (by rw [hel1]; exact hjk)
      rw [e1, hu] at this
      have h2 := (hfk (j / k) hjk).2 (j % k) u (by rw [this]; simp)
      rw [e1] at h2
      exact h2
    · intro t ht
      obtain ⟨i, hi, rfl⟩ := List.mem_map.1 ht
      exact (hfk i (List.mem_range.1 hi)).1
end Go.Mx
