/- From the form's reading of a slice of edits to the symbolic heap's. -/
import Derived.Test.YtknmmfffcihkpaaRowLib
import Derived.Test.YtknmmfffcihkpaaEd
import Derived.Deep.Fields
namespace Go.Mx
open Go Go.RowKit Go.ChangeShapes Go.WideShapes Go.ChangeAt Go.Deep
variable {H : Type} {enc : TypeId × Value → H} {P : Program} {w : World}

theorem texts_of {t e : TypeId} {fuel : Nat} {u : Value} {x : DataW H × List MemPlace} {held : Bool} (ht : P.underlying t = some (.slice e)) (he : P.underlying e = some .string) (hc : P.cellsOf e = 1)
    (hf : DataW.trod enc P w 0 (fun _ => true) held fuel t [u] = some x) : ∃ l : List ByteArray, Sl w 1 u l.length (ss l) ∧ ∀ s ∈ l, s.size ≤ maxLen := by
  rcases open_strings ht he hc hf with ⟨hcs, _⟩ | ⟨x, len, c, zs, hcs, _, hl, hm, hz, _, hcell, hwz⟩
  · simp at hcs
    subst hcs
    exact ⟨[], Sl.nil w 1, by simp⟩
  · simp at hcs
    subst hcs
    simp only [if_true] at hz
    refine ⟨zs.take len, ⟨some x, c, ?_, ?_, hm, ?_, by simp, fun j u hu => ⟨x, rfl, ?_⟩⟩, fun s hs => hwz s (List.mem_of_mem_take hs)⟩
    · rw [List.length_take, hz, Nat.min_eq_left hl]
    · rw [List.length_take, hz, Nat.min_eq_left hl]; exact hl
    · rw [ss, List.length_map, Nat.mul_one]
    · have hj : j < len := by
        have := (List.getElem?_eq_some_iff.1 hu).1
        rw [ss, List.length_map, List.length_take] at this
        omega
      rw [hcell j (by omega), ← hu]
      have hzj : j < zs.length := by omega
      simp [ss, hj, hzj]

/-- What is known of an edit that came in. -/
def EdOk (e : Ed) : Prop := (Lit.int .i64 e.1).wf = true ∧ (Lit.int .i64 e.2.1).wf = true ∧ ∀ s ∈ e.2.2, s.size ≤ maxLen

theorem open_edits {r : Reach} {b0 : Nat} {t e tI tS tE : TypeId} {f0 f1 f2 : Field} {v : Value} {d : DataW H} {ps : List MemPlace} {held : Bool} (ht : P.underlying t = some (.slice e)) (he : P.underlying e = some (.struct #[f0, f1, f2]))
    (hone : oneCellFields P #[f0, f1, f2] = true) (hC : P.cellsOf e = 3) (h0 : f0.type = tI) (h1 : f1.type = tI) (h2 : f2.type = tS) (hI : P.underlying tI = some (.int .i64)) (hS : P.underlying tS = some (.slice tE)) (hE : P.underlying tE = some .string) (hcE : P.cellsOf tE = 1)
    (hval : Value.okWide P w r b0 t v) (hd : DataW.Trod enc P w 0 (fun _ => true) held t v d ps) : ∃ es : List Ed, ED w v es ∧ ∀ e ∈ es, EdOk e := by
  obtain ⟨a, len, cap, rfl⟩ := okWide_slice ht hval
  obtain ⟨fuel, hf⟩ := hd
  rcases DataW.trod_slice ht hf with ⟨hcs, _⟩ | ⟨a', len', cap', elems, rest, n, _, hcs, _, _, hl, hm, hel, hsp, _⟩
  · simp [Value.cells] at hcs
    obtain ⟨rfl, rfl, rfl⟩ := hcs
    exact ⟨[], ED.nil w, by simp⟩
  · simp [Value.cells] at hcs
    obtain ⟨rfl, rfl, rfl⟩ := hcs
    have key : ∀ i : Nat, ∃ q : Ed × Value, i < len → w.cell? (a'.add (i * 3)) = some (.int .i64 q.1.1) ∧ w.cell? (a'.add (i * 3 + 1)) = some (.int .i64 q.1.2.1) ∧ w.cell? (a'.add (i * 3 + 2)) = some q.2 ∧ Sl w 1 q.2 q.1.2.2.length (ss q.1.2.2) ∧ EdOk q.1 := by
      intro i
      by_cases hi : i < len
      · have h3 := hsp i hi
        rw [hC, List.getElem?_eq_getElem (by omega)] at h3
        obtain ⟨cs, hcs, htr⟩ := Option.bind_eq_some_iff.1 h3
        obtain ⟨_, hcl, hat⟩ := World.cells?_some hcs
        match cs, hcl with
        | [c0, c1, c2], _ =>
          obtain ⟨xs, m, _, _, _, hlen, hg⟩ := DataW.trod_struct he htr
          obtain ⟨o0, k0⟩ := hone_of hone 0 f0 rfl
          obtain ⟨o1, k1⟩ := hone_of hone 1 f1 rfl
          obtain ⟨o2, k2⟩ := hone_of hone 2 f2 rfl
          match xs, hlen with
          | [y0, y1, y2], _ =>
            have g0 : DataW.trod enc P w 0 (fun _ => true) held m f0.type [c0] = some y0 := by simpa [o0, k0] using hg 0 f0 rfl
            have g1 : DataW.trod enc P w 0 (fun _ => true) held m f1.type [c1] = some y1 := by simpa [o1, k1] using hg 1 f1 rfl
            have g2 : DataW.trod enc P w 0 (fun _ => true) held m f2.type [c2] = some y2 := by simpa [o2, k2] using hg 2 f2 rfl
            rw [h0] at g0
            rw [h1] at g1
            rw [h2] at g2
            obtain ⟨n0, e0, _, w0⟩ := DataW.trod_int hI g0
            obtain ⟨n1, e1, _, w1⟩ := DataW.trod_int hI g1
            obtain ⟨L, sl, hz⟩ := texts_of hS hE hcE g2
            simp at e0 e1
            subst e0; subst e1
            refine ⟨((n0, n1, L), c2), fun _ => ⟨?_, ?_, ?_, sl, w0, w1, hz⟩⟩
            · have := hat 0 (by omega); rw [Addr.add_add] at this; simpa using this
            · have := hat 1 (by omega); rw [Addr.add_add] at this; simpa using this
            · have := hat 2 (by omega); rw [Addr.add_add] at this; simpa using this
      · exact ⟨((0, 0, []), .bool false), fun h => absurd h hi⟩
    obtain ⟨f, hfk⟩ := Classical.skolem.1 key
    have hel1 : ((List.range len).map fun i => (f i).1).length = len := by simp
    have hvl : ((List.range len).map fun i => (f i).2).length = ((List.range len).map fun i => (f i).1).length := by simp
    refine ⟨(List.range len).map fun i => (f i).1, ⟨(List.range len).map fun i => (f i).2, hvl, ?_, ?_⟩, ?_⟩
    · refine ⟨some a', cap, by rw [hel1], by rw [hel1]; exact hl, hm, edc_len _ _ hvl, by simp, fun j u hu => ⟨a', rfl, ?_⟩⟩
      have hj : j < len * 3 := by have := (List.getElem?_eq_some_iff.1 hu).1; rw [edc_len _ _ hvl, hel1] at this; exact this
      have hk : j / 3 < ((List.range len).map fun i => (f i).1).length := by rw [hel1]; omega
      obtain ⟨q1, q2, q3⟩ := edc_get hvl hk
      obtain ⟨r1, r2, r3, _⟩ := hfk (j / 3) (by omega)
      have hm3 : j % 3 = 0 ∨ j % 3 = 1 ∨ j % 3 = 2 := by omega
      rcases hm3 with h | h | h
      · rw [show 3 * (j / 3) = j by omega, hu] at q1
        rw [show j / 3 * 3 = j by omega] at r1
        rw [Option.some.inj q1]
        simpa using r1
      · rw [show 3 * (j / 3) + 1 = j by omega, hu] at q2
        rw [show j / 3 * 3 + 1 = j by omega] at r2
        rw [Option.some.inj q2]
        simpa using r2
      · rw [show 3 * (j / 3) + 2 = j by omega, hu] at q3
        rw [show j / 3 * 3 + 2 = j by omega] at r3
        rw [Option.some.inj q3]
        simpa using r3
    · intro q hq
      unfold rdt at hq
      rw [List.mem_iff_getElem] at hq
      obtain ⟨i, hi, rfl⟩ := hq
      simp at hi
      simpa using (hfk i hi).2.2.2.1
    · intro e he
      obtain ⟨i, hi, rfl⟩ := List.mem_map.1 he
      exact (hfk i (List.mem_range.1 hi)).2.2.2.2
end Go.Mx
