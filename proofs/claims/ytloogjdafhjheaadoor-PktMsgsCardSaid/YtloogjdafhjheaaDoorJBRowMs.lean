/- From the form's reading of a slice of structs to the symbolic heap's. From the form's reading of a message to the symbolic heap's. -/
import Derived.Test.YtloogjdafhjheaaDoorRowLib
import Derived.Deep.Fields
import Derived.Test.YtloogjdafhjheaaDoorRowLL
import Derived.Test.YtloogjdafhjheaaDoorPmA
namespace Go.Mx
open Go Go.RowKit Go.ChangeShapes Go.WideShapes Go.ChangeAt Go.Deep
variable {H : Type} {enc : TypeId × Value → H} {P : Program} {w : World}

/-- Rows of k cells one behind the other: the cell i of row j. -/
theorem flat_get {T : Type} {k : Nat} {f : T → List Value} (hk : ∀ t, (f t).length = k) : ∀ (l : List T) {j i : Nat}, i < k → ∀ (hj : j < l.length), (l.flatMap f)[j * k + i]? = (f l[j])[i]?
  | [], j, i, _, hj => by simp at hj
  | t :: l, 0, i, hi, _ => by
    rw [List.flatMap_cons, Nat.zero_mul, Nat.zero_add, List.getElem?_append_left (by rw [hk]; exact hi)]
    rfl
  | t :: l, j + 1, i, hi, hj => by
    rw [List.flatMap_cons, List.getElem?_append_right (by rw [hk, Nat.succ_mul]; omega), hk, show (j + 1) * k + i - k = j * k + i by rw [Nat.succ_mul]; omega, flat_get hk l hi (by simpa using hj)]
    rfl
theorem flat_len {T : Type} {k : Nat} {f : T → List Value} (hk : ∀ t, (f t).length = k) : ∀ l : List T, (l.flatMap f).length = l.length * k
  | [] => by simp
  | t :: l => by rw [List.flatMap_cons, List.length_append, hk, flat_len hk l, List.length_cons, Nat.succ_mul]; omega

/-- A slice of structs whose fields are of one cell each, by what each row's cells are. -/
theorem open_structs {T : Type} (row : T → List Value) (Ok : T → Prop) (d0 : T) {k : Nat} (hrow : ∀ t, (row t).length = k) (hk : 0 < k) {r : Reach} {b0 : Nat} {t e : TypeId} {fs : Array Field} {v : Value} {d : DataW H} {ps : List MemPlace} {held : Bool}
    (ht : P.underlying t = some (.slice e)) (he : P.underlying e = some (.struct fs)) (hone : oneCellFields P fs = true) (hC : P.cellsOf e = k) (hfs : fs.size = k)
    (dec : ∀ cs : List Value, cs.length = k → (∀ (i : Nat) (f : Field), fs[i]? = some f → ∃ m y c, cs[i]? = some c ∧ DataW.trod enc P w 0 (fun _ => true) held m f.type [c] = some y) → ∃ t, cs = row t ∧ Ok t)
    (hval : Value.okWide P w r b0 t v) (hd : DataW.Trod enc P w 0 (fun _ => true) held t v d ps) : ∃ l : List T, Sl w k v l.length (l.flatMap row) ∧ ∀ t ∈ l, Ok t := by
  obtain ⟨a, len, cap, rfl⟩ := okWide_slice ht hval
  obtain ⟨fuel, hf⟩ := hd
  rcases DataW.trod_slice ht hf with ⟨hcs, _⟩ | ⟨a', len', cap', elems, rest, n, _, hcs, _, _, hl, hm, hel, hsp, _⟩
  · simp [Value.cells] at hcs
    obtain ⟨rfl, rfl, rfl⟩ := hcs
    exact ⟨[], Sl.nil w k, by simp⟩
  · simp [Value.cells] at hcs
    obtain ⟨rfl, rfl, rfl⟩ := hcs
    have key : ∀ i : Nat, ∃ q : T, i < len → Ok q ∧ ∀ j u, (row q)[j]? = some u → w.cell? (a'.add (i * k + j)) = some u := by
      intro i
      by_cases hi : i < len
      · have h3 := hsp i hi
        rw [hC, List.getElem?_eq_getElem (by omega)] at h3
        obtain ⟨cs, hcs, htr⟩ := Option.bind_eq_some_iff.1 h3
        obtain ⟨_, hcl, hat⟩ := World.cells?_some hcs
        obtain ⟨xs, m, _, _, _, hlen, hg⟩ := DataW.trod_struct he htr
        obtain ⟨q, rfl, hq⟩ := dec cs hcl fun j f hf => by
          obtain ⟨oj, kj⟩ := hone_of hone j f hf
          have hj : j < fs.size := (Array.getElem?_eq_some_iff.1 hf).1
          have := hg j f hf
          rw [oj, kj] at this
          have hjc : j < cs.length := by omega
          have e1 : (cs.drop j).take 1 = [cs[j]] := by
            rw [List.drop_eq_getElem_cons hjc]; rfl
          have hx : j < xs.length := by omega
          rw [e1, List.getElem?_eq_getElem hx] at this
          exact ⟨m, _, cs[j], List.getElem?_eq_getElem hjc, this⟩
        refine ⟨q, fun _ => ⟨hq, fun j u hu => ?_⟩⟩
        have hj : j < (row q).length := (List.getElem?_eq_some_iff.1 hu).1
        have := hat j (by rw [hrow] at hj; omega)
        rw [Addr.add_add] at this
        rw [this, hu]
      · exact ⟨d0, fun h => absurd h hi⟩
    obtain ⟨f, hfk⟩ := Classical.skolem.1 key
    have hel1 : ((List.range len).map f).length = len := by simp
    refine ⟨(List.range len).map f, ⟨some a', cap, by rw [hel1], by rw [hel1]; exact hl, hm, by rw [flat_len hrow], by simp, fun j u hu => ⟨a', rfl, ?_⟩⟩, ?_⟩
    · have hj : j < len * k := by have := (List.getElem?_eq_some_iff.1 hu).1; rw [flat_len hrow, hel1] at this; exact this
      have hjk : j / k < len := (Nat.div_lt_iff_lt_mul hk).2 hj
      have hjm : j % k < k := Nat.mod_lt _ hk
      have e1 : j / k * k + j % k = j := by rw [Nat.mul_comm]; exact Nat.div_add_mod j k
      have := flat_get hrow ((List.range len).map f) hjm (j := j / k) (by rw [hel1]; exact hjk)
      rw [e1, hu] at this
      have h2 := (hfk (j / k) hjk).2 (j % k) u (by rw [this]; simp)
      rw [e1] at h2
      exact h2
    · intro t ht
      obtain ⟨i, hi, rfl⟩ := List.mem_map.1 ht
      exact (hfk i (List.mem_range.1 hi)).1
end Go.Mx

namespace Go.Mx
open Go Go.RowKit Go.ChangeShapes Go.WideShapes Go.ChangeAt Go.Deep
variable {H : Type} {enc : TypeId × Value → H} {P : Program} {w : World}
theorem strsM_all {e : TypeId} : ∀ {l : List ByteArray} {s : ByteArray}, s ∈ l → s.size ∈ DataW.weightsAll (H := H) P e (strs l)
  | a :: l, s, h => by
    have hs : s.size = s.data.toList.length := rfl
    simp only [strs, List.map_cons, DataW.weightsAll, List.mem_append, DataW.weights, List.mem_singleton]
    rcases List.mem_cons.1 h with rfl | h
    · exact .inl hs
    · exact .inr (strsM_all h)

theorem textsM_sz {t e : TypeId} {fuel : Nat} {u : Value} {x : DataW H × List MemPlace} {held : Bool} (ht : P.underlying t = some (.slice e)) (he : P.underlying e = some .string) (hc : P.cellsOf e = 1)
    (hf : DataW.trod enc P w 0 (fun _ => true) held fuel t [u] = some x) : ∃ l : List ByteArray, Sl w 1 u l.length (ss l) ∧ ((∀ n ∈ x.1.weights P t, n ≤ reachBytes) → ∀ s ∈ l, s.size ≤ reachBytes) := by
  rcases open_strings ht he hc hf with ⟨hcs, _⟩ | ⟨x, len, c, zs, hcs, _, hl, hm, hz, hx, hcell, hwz⟩
  · simp at hcs
    subst hcs
    exact ⟨[], Sl.nil w 1, fun _ => by simp⟩
  · simp at hcs
    subst hcs
    simp only [if_true] at hz
    refine ⟨zs.take len, ⟨some x, c, ?_, ?_, hm, ?_, by simp, fun j u hu => ⟨x, rfl, ?_⟩⟩, fun hw s hs => ?_⟩
    · rw [List.length_take, hz, Nat.min_eq_left hl]
    · rw [List.length_take, hz, Nat.min_eq_left hl]; exact hl
    · rw [ss, List.length_map, Nat.mul_one]
    · have hj : j < len := by
        have := (List.getElem?_eq_some_iff.1 hu).1
        rw [ss, List.length_map, List.length_take] at this
        omega
      rw [hcell j (by omega), ← hu]
      have hzj : j < zs.length := by omega
      simp [ss, hj, hzj]
    · subst hx
      refine hw _ ?_
      simp only [DataW.weights, ht, List.mem_cons, List.mem_append]
      exact .inr (.inl (strsM_all hs))

theorem wfM_i64 {n : Int} (h : (Lit.int .i64 n).wf = true) : -9223372036854775808 ≤ n ∧ n ≤ 9223372036854775807 := by
  simpa [Lit.wf, IntKind.min, IntKind.max, IntKind.signed, IntKind.bits] using h
/-- The ints of a message that came in. -/
structure MI (m : Ms) : Prop where
  k : -9223372036854775808 ≤ m.kind ∧ m.kind ≤ 9223372036854775807
  s : -9223372036854775808 ≤ m.seq ∧ m.seq ≤ 9223372036854775807
  a : -9223372036854775808 ≤ m.n ∧ m.n ≤ 9223372036854775807
  b : -9223372036854775808 ≤ m.m ∧ m.m ≤ 9223372036854775807
structure MZ (m : Ms) : Prop where
  i : ∀ x ∈ m.ids, x.size ≤ 140737488351232
  d : m.data.length ≤ 140737488351232
theorem open_msg {r : Reach} {b0 : Nat} {t tI tD tU tS tP : TypeId} {f0 f1 f2 f3 f4 f5 : Field} {v : Value} {d : DataW H} {ps : List MemPlace} {held : Bool}
    (ht : P.underlying t = some (.struct #[f0, f1, f2, f3, f4, f5])) (hone : oneCellFields P #[f0, f1, f2, f3, f4, f5] = true) (hC : P.cellsOf t = 6)
    (h0 : f0.type = tI) (h1 : f1.type = tI) (h2 : f2.type = tI) (h3 : f3.type = tI) (h4 : f4.type = tP) (h5 : f5.type = tD)
    (hI : P.underlying tI = some (.int .i64)) (hD : P.underlying tD = some (.slice tU)) (hU : P.underlying tU = some (.int .u8)) (hcU : P.cellsOf tU = 1) (hbU : P.bytesOf tU = 1)
    (hS : P.underlying tS = some .string) (hP : P.underlying tP = some (.slice tS)) (hcS : P.cellsOf tS = 1)
    (hval : Value.okWide P w r b0 t v) (hd : DataW.Trod enc P w 0 (fun _ => true) held t v d ps) :
    ∃ (iv dv : Value) (o : Ms), v = MV iv dv o ∧ MB w iv dv o ∧ MI o ∧ ((∀ n ∈ d.weights P t, n ≤ reachBytes) → MZ o) := by
  obtain ⟨cs, rfl, hsz⟩ := okWide_struct ht hval
  obtain ⟨fuel, hf⟩ := hd
  obtain ⟨L, rfl⟩ : ∃ L : List Value, cs = L.toArray := ⟨cs.toList, by simp⟩
  simp only [Value.cells, List.size_toArray] at hf hsz
  rw [hC] at hsz
  match L, hsz with
  | [c0, c1, c2, c3, c4, c5], _ =>
    obtain ⟨xs, m, _, hex, _, hlen, hg⟩ := DataW.trod_struct ht hf
    obtain ⟨o0, l0⟩ := hone_of hone 0 f0 rfl
    obtain ⟨o1, l1⟩ := hone_of hone 1 f1 rfl
    obtain ⟨o2, l2⟩ := hone_of hone 2 f2 rfl
    obtain ⟨o3, l3⟩ := hone_of hone 3 f3 rfl
    obtain ⟨o4, l4⟩ := hone_of hone 4 f4 rfl
    obtain ⟨o5, l5⟩ := hone_of hone 5 f5 rfl
    match xs, hlen with
    | [y0, y1, y2, y3, y4, y5], _ =>
      have q0 : DataW.trod enc P w 0 (fun _ => true) held m f0.type [c0] = some y0 := by simpa [o0, l0] using hg 0 f0 rfl
      have q1 : DataW.trod enc P w 0 (fun _ => true) held m f1.type [c1] = some y1 := by simpa [o1, l1] using hg 1 f1 rfl
      have q2 : DataW.trod enc P w 0 (fun _ => true) held m f2.type [c2] = some y2 := by simpa [o2, l2] using hg 2 f2 rfl
      have q3 : DataW.trod enc P w 0 (fun _ => true) held m f3.type [c3] = some y3 := by simpa [o3, l3] using hg 3 f3 rfl
      have q4 : DataW.trod enc P w 0 (fun _ => true) held m f4.type [c4] = some y4 := by simpa [o4, l4] using hg 4 f4 rfl
      have q5 : DataW.trod enc P w 0 (fun _ => true) held m f5.type [c5] = some y5 := by simpa [o5, l5] using hg 5 f5 rfl
      rw [h0] at q0; rw [h1] at q1; rw [h2] at q2; rw [h3] at q3; rw [h4] at q4; rw [h5] at q5
      obtain ⟨n0, e0, _, w0⟩ := DataW.trod_int hI q0
      obtain ⟨n1, e1, _, w1⟩ := DataW.trod_int hI q1
      obtain ⟨n2, e2, _, w2⟩ := DataW.trod_int hI q2
      obtain ⟨n3, e3, _, w3⟩ := DataW.trod_int hI q3
      obtain ⟨pl, sp, wp⟩ := textsM_sz hP hS hcS q4
      obtain ⟨dl, sd, wd⟩ := bytes_of hD hU hcU hbU q5
      simp at e0 e1 e2 e3
      subst e0; subst e1; subst e2; subst e3
      refine ⟨c4, c5, ⟨n0, n1, n2, n3, pl, dl⟩, rfl, ⟨sp, sd⟩, ⟨wfM_i64 w0, wfM_i64 w1, wfM_i64 w2, wfM_i64 w3⟩, fun hw => ?_⟩
      have hd : d = .agg [y0.1, y1.1, y2.1, y3.1, y4.1, y5.1] := congrArg Prod.fst hex
      subst hd
      have hw' : ∀ (j : Nat) (t' : TypeId) (y : DataW H), [tI, tI, tI, tI, tP, tD][j]? = some t' → [y0.1, y1.1, y2.1, y3.1, y4.1, y5.1][j]? = some y → ∀ n ∈ y.weights P t', n ≤ reachBytes := fun j t' y a b n hn => hw n (by
        simp only [DataW.weights, ht, List.map_cons, List.map_nil, h0, h1, h2, h3, h4, h5]
        exact DataW.weights_mem_each a b n hn)
      have r4 := wp (hw' 4 tP y4.1 rfl rfl)
      have r5 := wd (hw' 5 tD y5.1 rfl rfl)
      have hR : reachBytes = 140737488351232 := by decide
      rw [hR] at r4 r5
      exact ⟨r4, r5⟩
end Go.Mx
