/- Commits that came in: a slice of structs (name, parents, stamp); from the form's reading to the symbolic heap's. -/
import Derived.Test.YtojbdlbcaoeffaaRowLib
import Derived.Test.YtojbdlbcaoeffaaRowSt
import Derived.Test.YtojbdlbcaoeffaaDagM
import Derived.Deep.Fields
namespace Go.Mx
open Go Go.RowKit Go.ChangeShapes Go.WideShapes Go.ChangeAt Go.Deep
variable {H : Type} {enc : TypeId × Value → H} {P : Program} {w : World}

theorem texts_of {t e : TypeId} {fuel : Nat} {u : Value} {x : DataW H × List MemPlace} {held : Bool} (ht : P.underlying t = some (.slice e)) (he : P.underlying e = some .string) (hc : P.cellsOf e = 1)
    (hf : DataW.trod enc P w 0 (fun _ => true) held fuel t [u] = some x) : ∃ l : List ByteArray, Sl w 1 u l.length (ss l) ∧ ∀ s ∈ l, s.size ≤ maxLen := by
  rcases open_strings ht he hc hf with ⟨hcs, _⟩ | ⟨x, len, c, zs, hcs, _, hl, hm, hz, _, hcell, hwz⟩
  · simp at hcs
    subst hcs
    exact ⟨[], Sl.nil w 1, by simp⟩
  · simp at hcs
    subst hcs
    simp only [if_true] at hz
    refine ⟨zs.take len, ⟨some x, c, ?_, ?_, hm, ?_, by simp, fun j u hu => ⟨x, rfl, ?_⟩⟩, fun s hs => hwz s (List.mem_of_mem_take hs)⟩
    · rw [List.length_take, hz, Nat.min_eq_left hl]
    · rw [List.length_take, hz, Nat.min_eq_left hl]; exact hl
    · rw [ss, List.length_map, Nat.mul_one]
    · have hj : j < len := by
        have := (List.getElem?_eq_some_iff.1 hu).1
        rw [ss, List.length_map, List.length_take] at this
        omega
      rw [hcell j (by omega), ← hu]
      have hzj : j < zs.length := by omega
      simp [ss, hj, hzj]


def ndRow (q : Gd) : List Value := [.string q.2.1, q.1, .int .i64 q.2.2.2]
/-- A slice of commits. -/
def ND (w : World) (v : Value) (l : List Gd) : Prop := Sl w 3 v l.length (l.flatMap ndRow) ∧ ∀ q ∈ l, Sl w 1 q.1 q.2.2.1.length (ss q.2.2.1)
theorem ND.old {w0 w : World} {R : List Row} {Q : List Rd} {v : Value} {l : List Gd} (h : St w0 w R Q) (hl : ND w0 v l) : ND w v l := ⟨h.old hl.1, fun q hq => h.old (hl.2 q hq)⟩
theorem ND.at {w : World} {v : Value} {l : List Gd} (h : ND w v l) : ∃ ao cap blk off, v = .slice ao l.length cap ∧ l.length ≤ cap ∧ cap ≤ 9223372036854775807 ∧
    ∀ k (hk : k < l.length), ao = some ⟨blk, off, none⟩ ∧ w.cell? ⟨blk, off + k * 3, none⟩ = some (.string l[k].2.1) ∧ w.cell? ⟨blk, off + k * 3 + 1, none⟩ = some l[k].1 ∧ w.cell? ⟨blk, off + k * 3 + 2, none⟩ = some (.int .i64 l[k].2.2.2) := by
  obtain ⟨ao, cap, rfl, h1, h2, h3, _, hc⟩ := h.1.form
  unfold maxLen at h2
  by_cases hnil : l = []
  · subst hnil; exact ⟨ao, cap, 0, 0, rfl, h1, by omega, fun k hk => by simp at hk⟩
  · have hne : l.flatMap ndRow ≠ [] := by intro he; rw [he] at h3; simp at h3; exact hnil (List.eq_nil_of_length_eq_zero (by omega))
    obtain ⟨blk, off, rfl, hh⟩ := hc hne
    refine ⟨_, cap, blk, off, rfl, h1, by omega, fun k hk => ⟨rfl, ?_, ?_, ?_⟩⟩
    · have := hh (k * 3 + 0) _ ((flat_get (k := 3) (fun _ => rfl) l (by omega) hk).trans (show (ndRow l[k])[0]? = some (.string l[k].2.1) from rfl))
      simpa using this
    · have := hh (k * 3 + 1) _ ((flat_get (k := 3) (fun _ => rfl) l (by omega) hk).trans (show (ndRow l[k])[1]? = some l[k].1 from rfl))
      simpa [Nat.add_assoc] using this
    · have := hh (k * 3 + 2) _ ((flat_get (k := 3) (fun _ => rfl) l (by omega) hk).trans (show (ndRow l[k])[2]? = some (.int .i64 l[k].2.2.2) from rfl))
      simpa [Nat.add_assoc] using this
def NdOk (q : Gd) : Prop := q.2.1.size ≤ maxLen ∧ (Lit.int .i64 q.2.2.2).wf = true ∧ ∀ s ∈ q.2.2.1, s.size ≤ maxLen

theorem open_nodes {r : Reach} {b0 : Nat} {t e tN tI tS : TypeId} {f0 f1 f2 : Field} {v : Value} {d : DataW H} {ps : List MemPlace} {held : Bool} (ht : P.underlying t = some (.slice e)) (he : P.underlying e = some (.struct #[f0, f1, f2]))
    (hone : oneCellFields P #[f0, f1, f2] = true) (hC : P.cellsOf e = 3) (h0 : f0.type = tN) (h1 : f1.type = tS) (h2 : f2.type = tI) (hI : P.underlying tI = some (.int .i64)) (hS : P.underlying tS = some (.slice tN)) (hN : P.underlying tN = some .string) (hcN : P.cellsOf tN = 1)
    (hval : Value.okWide P w r b0 t v) (hd : DataW.Trod enc P w 0 (fun _ => true) held t v d ps) : ∃ l : List Gd, ND w v l ∧ ∀ q ∈ l, NdOk q := by
  obtain ⟨a, len, cap, rfl⟩ := okWide_slice ht hval
  obtain ⟨fuel, hf⟩ := hd
  rcases DataW.trod_slice ht hf with ⟨hcs, _⟩ | ⟨a', len', cap', elems, rest, n, _, hcs, _, _, hl, hm, hel, hsp, _⟩
  · simp [Value.cells] at hcs
    obtain ⟨rfl, rfl, rfl⟩ := hcs
    exact ⟨[], ⟨Sl.nil w 3, by simp⟩, by simp⟩
  · simp [Value.cells] at hcs
    obtain ⟨rfl, rfl, rfl⟩ := hcs
    have key : ∀ i : Nat, ∃ q : Gd, i < len → w.cell? (a'.add (i * 3)) = some (.string q.2.1) ∧ w.cell? (a'.add (i * 3 + 1)) = some q.1 ∧ w.cell? (a'.add (i * 3 + 2)) = some (.int .i64 q.2.2.2) ∧ Sl w 1 q.1 q.2.2.1.length (ss q.2.2.1) ∧ NdOk q := by
      intro i
      by_cases hi : i < len
      · have h3 := hsp i hi
        rw [hC, List.getElem?_eq_getElem (by omega)] at h3
        obtain ⟨cs, hcs, htr⟩ := Option.bind_eq_some_iff.1 h3
        obtain ⟨_, hcl, hat⟩ := World.cells?_some hcs
        match cs, hcl with
        | [c0, c1, c2], _ =>
          obtain ⟨xs, m, _, _, _, hlen, hg⟩ := DataW.trod_struct he htr
          obtain ⟨o0, k0⟩ := hone_of hone 0 f0 rfl
          obtain ⟨o1, k1⟩ := hone_of hone 1 f1 rfl
          obtain ⟨o2, k2⟩ := hone_of hone 2 f2 rfl
          match xs, hlen with
          | [y0, y1, y2], _ =>
            have g0 : DataW.trod enc P w 0 (fun _ => true) held m f0.type [c0] = some y0 := by simpa [o0, k0] using hg 0 f0 rfl
            have g1 : DataW.trod enc P w 0 (fun _ => true) held m f1.type [c1] = some y1 := by simpa [o1, k1] using hg 1 f1 rfl
            have g2 : DataW.trod enc P w 0 (fun _ => true) held m f2.type [c2] = some y2 := by simpa [o2, k2] using hg 2 f2 rfl
            rw [h0] at g0
            rw [h1] at g1
            rw [h2] at g2
            obtain ⟨n0, e0, _, w0⟩ := DataW.trod_string hN g0
            obtain ⟨L, sl, hz⟩ := texts_of hS hN hcN g1
            obtain ⟨n2, e2, _, w2⟩ := DataW.trod_int hI g2
            simp at e0 e2
            subst e0; subst e2
            refine ⟨(c1, n0, L, n2), fun _ => ⟨?_, ?_, ?_, sl, w0, w2, hz⟩⟩
            · have := hat 0 (by omega); rw [Addr.add_add] at this; simpa using this
            · have := hat 1 (by omega); rw [Addr.add_add] at this; simpa using this
            · have := hat 2 (by omega); rw [Addr.add_add] at this; simpa using this
      · exact ⟨(.bool false, ByteArray.empty, [], 0), fun h => absurd h hi⟩
    obtain ⟨f, hfk⟩ := Classical.skolem.1 key
    have hel1 : ((List.range len).map f).length = len := by simp
    refine ⟨(List.range len).map f, ⟨?_, ?_⟩, ?_⟩
    · refine ⟨some a', cap, by rw [hel1], by rw [hel1]; exact hl, hm, by rw [flat_len (k := 3) (fun _ => rfl)], by simp, fun j u hu => ⟨a', rfl, ?_⟩⟩
      have hj : j < len * 3 := by have := (List.getElem?_eq_some_iff.1 hu).1; rw [flat_len (k := 3) (fun _ => rfl), hel1] at this; exact this
      have hk : j / 3 < ((List.range len).map f).length := by rw [hel1]; omega
      have hfg := flat_get (k := 3) (f := ndRow) (fun _ => rfl) ((List.range len).map f) (j := j / 3) (i := j % 3) (by omega) hk
      rw [show j / 3 * 3 + j % 3 = j by omega, hu] at hfg
      obtain ⟨r1, r2, r3, _⟩ := hfk (j / 3) (by omega)
      have hfe : ((List.range len).map f)[j / 3] = f (j / 3) := by simp
      rw [hfe] at hfg
      have hm3 : j % 3 = 0 ∨ j % 3 = 1 ∨ j % 3 = 2 := by omega
      rcases hm3 with h | h | h
      · rw [h] at hfg
        rw [show j / 3 * 3 = j by omega] at r1
        rw [Option.some.inj hfg]
        exact r1
      · rw [h] at hfg
        rw [show j / 3 * 3 + 1 = j by omega] at r2
        rw [Option.some.inj hfg]
        exact r2
      · rw [h] at hfg
        rw [show j / 3 * 3 + 2 = j by omega] at r3
        rw [Option.some.inj hfg]
        exact r3
    · intro q hq
      obtain ⟨i, hi, rfl⟩ := List.mem_map.1 hq
      exact (hfk i (List.mem_range.1 hi)).2.2.2.1
    · intro e he
      obtain ⟨i, hi, rfl⟩ := List.mem_map.1 he
      exact (hfk i (List.mem_range.1 hi)).2.2.2.2
end Go.Mx
