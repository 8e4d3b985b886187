/- From the form's reading of an object to the symbolic heap's. -/
import Derived.Test.YtlfdnlomlbbicaaRowLL
import Derived.Test.YtlfdnlomlbbicaaJLRow
import Derived.Test.YtlfdnlomlbbicaaJFObjM
import Derived.Deep.Fields
namespace Go.Mx
open Go Go.RowKit Go.ChangeShapes Go.WideShapes Go.ChangeAt Go.Deep
variable {H : Type} {enc : TypeId × Value → H} {P : Program} {w : World}

theorem strs_all {e : TypeId} : ∀ {l : List ByteArray} {s : ByteArray}, s ∈ l → s.size ∈ DataW.weightsAll (H := H) P e (strs l)
  | a :: l, s, h => by
    have hs : s.size = s.data.toList.length := rfl
    simp only [strs, List.map_cons, DataW.weightsAll, List.mem_append, DataW.weights, List.mem_singleton]
    rcases List.mem_cons.1 h with rfl | h
    · exact .inl hs
    · exact .inr (strs_all h)

theorem texts_sz {t e : TypeId} {fuel : Nat} {u : Value} {x : DataW H × List MemPlace} {held : Bool} (ht : P.underlying t = some (.slice e)) (he : P.underlying e = some .string) (hc : P.cellsOf e = 1)
    (hf : DataW.trod enc P w 0 (fun _ => true) held fuel t [u] = some x) : ∃ l : List ByteArray, Sl w 1 u l.length (ss l) ∧ ((∀ n ∈ x.1.weights P t, n ≤ reachBytes) → ∀ s ∈ l, s.size ≤ reachBytes) := by
  rcases open_strings ht he hc hf with ⟨hcs, _⟩ | ⟨x, len, c, zs, hcs, _, hl, hm, hz, hx, hcell, hwz⟩
  · simp at hcs
    subst hcs
    exact ⟨[], Sl.nil w 1, fun _ => by simp⟩
  · simp at hcs
    subst hcs
    simp only [if_true] at hz
    refine ⟨zs.take len, ⟨some x, c, ?_, ?_, hm, ?_, by simp, fun j u hu => ⟨x, rfl, ?_⟩⟩, fun hw s hs => ?_⟩
    · rw [List.length_take, hz, Nat.min_eq_left hl]
    · rw [List.length_take, hz, Nat.min_eq_left hl]; exact hl
    · rw [ss, List.length_map, Nat.mul_one]
    · have hj : j < len := by
        have := (List.getElem?_eq_some_iff.1 hu).1
        rw [ss, List.length_map, List.length_take] at this
        omega
      rw [hcell j (by omega), ← hu]
      have hzj : j < zs.length := by omega
      simp [ss, hj, hzj]
    · subst hx
      refine hw _ ?_
      simp only [DataW.weights, ht, List.mem_cons, List.mem_append]
      exact .inr (.inl (strs_all hs))

def ItOk (x : Itm) : Prop := -9223372036854775808 ≤ x.1 ∧ x.1 ≤ 9223372036854775807
theorem wf_i64' {n : Int} (h : (Lit.int .i64 n).wf = true) : -9223372036854775808 ≤ n ∧ n ≤ 9223372036854775807 := by
  simpa [Lit.wf, IntKind.min, IntKind.max, IntKind.signed, IntKind.bits] using h
theorem items_sz {t e tI tS : TypeId} {f0 f1 f2 : Field} {fuel : Nat} {u : Value} {x : DataW H × List MemPlace} {held : Bool} (ht : P.underlying t = some (.slice e)) (he : P.underlying e = some (.struct #[f0, f1, f2]))
    (hone : oneCellFields P #[f0, f1, f2] = true) (hC : P.cellsOf e = 3) (h0 : f0.type = tI) (h1 : f1.type = tS) (h2 : f2.type = tS) (hI : P.underlying tI = some (.int .i64)) (hS : P.underlying tS = some .string)
    (hf : DataW.trod enc P w 0 (fun _ => true) held fuel t [u] = some x) : ∃ l : List Itm, Sl w 3 u l.length (itms l) ∧ (∀ y ∈ l, ItOk y) ∧ ((∀ n ∈ x.1.weights P t, n ≤ reachBytes) → ∀ y ∈ l, y.2.1.size ≤ reachBytes ∧ y.2.2.size ≤ reachBytes) := by
  rcases DataW.trod_slice ht hf with ⟨hcs, _⟩ | ⟨a', len, cap', elems, rest, n, _, hcs, hx, _, hl, hm, hel, hsp, _⟩
  · simp at hcs
    subst hcs
    exact ⟨[], Sl.nil w 3, by simp, fun _ => by simp⟩
  · simp at hcs
    subst hcs
    subst hx
    have key : ∀ i : Nat, ∃ q : Itm, i < len → ItOk q ∧ (∀ j u, (itmRow q)[j]? = some u → w.cell? (a'.add (i * 3 + j)) = some u) ∧
        ((∀ n ∈ (DataW.slice (elems.map (·.1)) (rest.map (·.1)) : DataW H).weights P t, n ≤ reachBytes) → q.2.1.size ≤ reachBytes ∧ q.2.2.size ≤ reachBytes) := by
      intro i
      by_cases hi : i < len
      · have h3 := hsp i hi
        rw [hC, List.getElem?_eq_getElem (by omega)] at h3
        obtain ⟨cs, hcs, htr⟩ := Option.bind_eq_some_iff.1 h3
        obtain ⟨_, hcl, hat⟩ := World.cells?_some hcs
        match cs, hcl with
        | [c0, c1, c2], _ =>
          obtain ⟨xs, m, _, hex, _, hlen, hg⟩ := DataW.trod_struct he htr
          obtain ⟨o0, k0⟩ := hone_of hone 0 f0 rfl
          obtain ⟨o1, k1⟩ := hone_of hone 1 f1 rfl
          obtain ⟨o2, k2⟩ := hone_of hone 2 f2 rfl
          match xs, hlen with
          | [y0, y1, y2], _ =>
            have g0 : DataW.trod enc P w 0 (fun _ => true) held m f0.type [c0] = some y0 := by simpa [o0, k0] using hg 0 f0 rfl
            have g1 : DataW.trod enc P w 0 (fun _ => true) held m f1.type [c1] = some y1 := by simpa [o1, k1] using hg 1 f1 rfl
            have g2 : DataW.trod enc P w 0 (fun _ => true) held m f2.type [c2] = some y2 := by simpa [o2, k2] using hg 2 f2 rfl
            rw [h0] at g0
            rw [h1] at g1
            rw [h2] at g2
            obtain ⟨n0, e0, _, w0⟩ := DataW.trod_int hI g0
            obtain ⟨n1, e1, q1, w1⟩ := DataW.trod_string hS g1
            obtain ⟨n2, e2, q2, w2⟩ := DataW.trod_string hS g2
            simp at e0 e1 e2
            subst e0; subst e1; subst e2; subst q1; subst q2
            refine ⟨(n0, n1, n2), fun _ => ⟨wf_i64' w0, fun j u hu => ?_, fun hw => ?_⟩⟩
            · match j, hu with
              | 0, hu => have := hat 0 (by omega); rw [Addr.add_add] at this; rw [this]; simpa [itmRow] using hu
              | 1, hu => have := hat 1 (by omega); rw [Addr.add_add] at this; rw [this]; simpa [itmRow] using hu
              | 2, hu => have := hat 2 (by omega); rw [Addr.add_add] at this; rw [this]; simpa [itmRow] using hu
            · have hall : ∀ n ∈ (elems[i].1).weights P e, n ≤ reachBytes := fun n hn => hw n (by
                simp only [DataW.weights, ht, List.mem_cons, List.mem_append]
                exact Or.inr (Or.inl (weights_all (List.mem_map.2 ⟨elems[i], List.getElem_mem _, rfl⟩) n hn)))
              rw [hex] at hall
              simp only [List.map_cons, List.map_nil] at hall
              have e1 := hall n1.data.toList.length (by simp [DataW.weights, he, DataW.weightsEach, h1])
              have e2 := hall n2.data.toList.length (by simp [DataW.weights, he, DataW.weightsEach, h2])
              have s1 : n1.size = n1.data.toList.length := rfl
              have s2 : n2.size = n2.data.toList.length := rfl
              exact ⟨by rw [s1]; exact e1, by rw [s2]; exact e2⟩
      · exact ⟨(0, ByteArray.empty, ByteArray.empty), fun h => absurd h hi⟩
    obtain ⟨f, hfk⟩ := Classical.skolem.1 key
    have hel1 : ((List.range len).map f).length = len := by simp
    have hrow : ∀ t, (itmRow t).length = 3 := fun _ => rfl
    refine ⟨(List.range len).map f, ⟨some a', cap', by rw [hel1], by rw [hel1]; exact hl, hm, by unfold itms; rw [flat_len hrow], by simp, fun j u hu => ⟨a', rfl, ?_⟩⟩, ?_, ?_⟩
    · unfold itms at hu
      have hj : j < len * 3 := by have := (List.getElem?_eq_some_iff.1 hu).1; rw [flat_len hrow, hel1] at this; exact this
      have hjk : j / 3 < len := by omega
      have hjm : j % 3 < 3 := by omega
      have e1 : j / 3 * 3 + j % 3 = j := by omega
      have := flat_get hrow ((List.range len).map f) hjm (j := j / 3) (by rw [hel1]; exact hjk)
      rw [e1, hu] at this
      have h2 := (hfk (j / 3) hjk).2.1 (j % 3) u (by rw [this]; simp)
      rw [e1] at h2
      exact h2
    · intro t ht
      obtain ⟨i, hi, rfl⟩ := List.mem_map.1 ht
      exact (hfk i (List.mem_range.1 hi)).1
    · intro hw t ht
      obtain ⟨i, hi, rfl⟩ := List.mem_map.1 ht
      exact (hfk i (List.mem_range.1 hi)).2.2 hw

/-- The ints of an object that came in. -/
structure OI (o : Ob) : Prop where
  k : -9223372036854775808 ≤ o.kind ∧ o.kind ≤ 9223372036854775807
  s : -9223372036854775808 ≤ o.stamp ∧ o.stamp ≤ 9223372036854775807
  a : -9223372036854775808 ≤ o.author ∧ o.author ≤ 9223372036854775807

theorem open_obj {r : Reach} {b0 : Nat} {t tI tD tU tL e tS tP : TypeId} {f0 f1 f2 f3 f4 f5 f6 f7 g0 g1 g2 : Field} {v : Value} {d : DataW H} {ps : List MemPlace} {held : Bool}
    (ht : P.underlying t = some (.struct #[f0, f1, f2, f3, f4, f5, f6, f7])) (hone : oneCellFields P #[f0, f1, f2, f3, f4, f5, f6, f7] = true) (hC : P.cellsOf t = 8)
    (h0 : f0.type = tI) (h1 : f1.type = tD) (h2 : f2.type = tL) (h3 : f3.type = tS) (h4 : f4.type = tP) (h5 : f5.type = tI) (h6 : f6.type = tI) (h7 : f7.type = tS)
    (hI : P.underlying tI = some (.int .i64)) (hD : P.underlying tD = some (.slice tU)) (hU : P.underlying tU = some (.int .u8)) (hcU : P.cellsOf tU = 1) (hbU : P.bytesOf tU = 1)
    (hL : P.underlying tL = some (.slice e)) (he : P.underlying e = some (.struct #[g0, g1, g2])) (hone2 : oneCellFields P #[g0, g1, g2] = true) (hC2 : P.cellsOf e = 3) (k0 : g0.type = tI) (k1 : g1.type = tS) (k2 : g2.type = tS)
    (hS : P.underlying tS = some .string) (hP : P.underlying tP = some (.slice tS)) (hcS : P.cellsOf tS = 1)
    (hval : Value.okWide P w r b0 t v) (hd : DataW.Trod enc P w 0 (fun _ => true) held t v d ps) :
    ∃ (dv iv pv : Value) (o : Ob), v = OV dv iv pv o ∧ OB w dv iv pv o ∧ OI o ∧ ((∀ n ∈ d.weights P t, n ≤ reachBytes) → OZ o ∧ o.data.length ≤ reachBytes) := by
  obtain ⟨cs, rfl, hsz⟩ := okWide_struct ht hval
  obtain ⟨fuel, hf⟩ := hd
  obtain ⟨L, rfl⟩ : ∃ L : List Value, cs = L.toArray := ⟨cs.toList, by simp⟩
  simp only [Value.cells, List.size_toArray] at hf hsz
  rw [hC] at hsz
  match L, hsz with
  | [c0, c1, c2, c3, c4, c5, c6, c7], _ =>
    obtain ⟨xs, m, _, hex, _, hlen, hg⟩ := DataW.trod_struct ht hf
    obtain ⟨o0, l0⟩ := hone_of hone 0 f0 rfl
    obtain ⟨o1, l1⟩ := hone_of hone 1 f1 rfl
    obtain ⟨o2, l2⟩ := hone_of hone 2 f2 rfl
    obtain ⟨o3, l3⟩ := hone_of hone 3 f3 rfl
    obtain ⟨o4, l4⟩ := hone_of hone 4 f4 rfl
    obtain ⟨o5, l5⟩ := hone_of hone 5 f5 rfl
    obtain ⟨o6, l6⟩ := hone_of hone 6 f6 rfl
    obtain ⟨o7, l7⟩ := hone_of hone 7 f7 rfl
    match xs, hlen with
    | [y0, y1, y2, y3, y4, y5, y6, y7], _ =>
      have q0 : DataW.trod enc P w 0 (fun _ => true) held m f0.type [c0] = some y0 := by simpa [o0, l0] using hg 0 f0 rfl
      have q1 : DataW.trod enc P w 0 (fun _ => true) held m f1.type [c1] = some y1 := by simpa [o1, l1] using hg 1 f1 rfl
      have q2 : DataW.trod enc P w 0 (fun _ => true) held m f2.type [c2] = some y2 := by simpa [o2, l2] using hg 2 f2 rfl
      have q3 : DataW.trod enc P w 0 (fun _ => true) held m f3.type [c3] = some y3 := by simpa [o3, l3] using hg 3 f3 rfl
      have q4 : DataW.trod enc P w 0 (fun _ => true) held m f4.type [c4] = some y4 := by simpa [o4, l4] using hg 4 f4 rfl
      have q5 : DataW.trod enc P w 0 (fun _ => true) held m f5.type [c5] = some y5 := by simpa [o5, l5] using hg 5 f5 rfl
      have q6 : DataW.trod enc P w 0 (fun _ => true) held m f6.type [c6] = some y6 := by simpa [o6, l6] using hg 6 f6 rfl
      have q7 : DataW.trod enc P w 0 (fun _ => true) held m f7.type [c7] = some y7 := by simpa [o7, l7] using hg 7 f7 rfl
      rw [h0] at q0; rw [h1] at q1; rw [h2] at q2; rw [h3] at q3; rw [h4] at q4; rw [h5] at q5; rw [h6] at q6; rw [h7] at q7
      obtain ⟨n0, e0, _, w0⟩ := DataW.trod_int hI q0
      obtain ⟨dl, sd, wd⟩ := bytes_of hD hU hcU hbU q1
      obtain ⟨il, si, ii, wi⟩ := items_sz hL he hone2 hC2 k0 k1 k2 hI hS q2
      obtain ⟨tr, e3, x3, _⟩ := DataW.trod_string hS q3
      obtain ⟨pl, sp, wp⟩ := texts_sz hP hS hcS q4
      obtain ⟨n5, e5, _, w5⟩ := DataW.trod_int hI q5
      obtain ⟨n6, e6, _, w6⟩ := DataW.trod_int hI q6
      obtain ⟨ms, e7, x7, _⟩ := DataW.trod_string hS q7
      simp at e0 e3 e5 e6 e7
      subst e0; subst e3; subst e5; subst e6; subst e7
      refine ⟨c1, c2, c4, ⟨n0, dl, il, tr, pl, n5, n6, ms⟩, rfl, ⟨sd, si, sp⟩, ⟨wf_i64' w0, wf_i64' w5, wf_i64' w6⟩, fun hw => ?_⟩
      have hd : d = .agg [y0.1, y1.1, y2.1, y3.1, y4.1, y5.1, y6.1, y7.1] := congrArg Prod.fst hex
      subst hd
      have hw' : ∀ (j : Nat) (t' : TypeId) (y : DataW H), [tI, tD, tL, tS, tP, tI, tI, tS][j]? = some t' → [y0.1, y1.1, y2.1, y3.1, y4.1, y5.1, y6.1, y7.1][j]? = some y → ∀ n ∈ y.weights P t', n ≤ reachBytes := fun j t' y a b n hn => hw n (by
        simp only [DataW.weights, ht, List.map_cons, List.map_nil, h0, h1, h2, h3, h4, h5, h6, h7]
        exact DataW.weights_mem_each a b n hn)
      have r1 := wd (hw' 1 tD y1.1 rfl rfl)
      have r2 := wi (hw' 2 tL y2.1 rfl rfl)
      have r3 := hw' 3 tS y3.1 rfl rfl
      have r4 := wp (hw' 4 tP y4.1 rfl rfl)
      have r7 := hw' 7 tS y7.1 rfl rfl
      rw [x3] at r3
      rw [x7] at r7
      have r3 := r3 tr.data.toList.length (by simp only [DataW.weights, List.mem_singleton])
      have r7 := r7 ms.data.toList.length (by simp only [DataW.weights, List.mem_singleton])
      have hR : reachBytes = 140737488351232 := by decide
      have s3 : tr.size = tr.data.toList.length := rfl
      have s7 : ms.size = ms.data.toList.length := rfl
      rw [hR] at r1 r2 r3 r4 r7
      exact ⟨⟨by rw [s3]; exact r3, by rw [s7]; exact r7, fun y hy => ⟨(r2 y hy).1, (r2 y hy).2, (ii y hy).1, (ii y hy).2⟩, r4⟩, by rw [hR]; exact r1⟩
end Go.Mx
