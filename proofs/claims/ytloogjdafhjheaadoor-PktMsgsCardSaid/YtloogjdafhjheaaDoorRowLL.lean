/- From the form's reading of a slice of slices of bytes to the symbolic heap's. -/
import Derived.Test.YtloogjdafhjheaaDoorRowLib
import Derived.Test.YtloogjdafhjheaaDoorLists
import Derived.SizedLaws
namespace Go.Mx
open Go Go.RowKit Go.ChangeShapes Go.WideShapes Go.ChangeAt
variable {H : Type} {enc : TypeId × Value → H} {P : Program} {w : World}

theorem weights_all {e : TypeId} {elems : List (DataW H)} {x : DataW H} (hx : x ∈ elems) : ∀ n ∈ x.weights P e, n ∈ DataW.weightsAll P e elems := by
  induction elems with
  | nil => cases hx
  | cons d r ih =>
    intro n hn
    simp only [DataW.weightsAll, List.mem_append]
    rcases List.mem_cons.1 hx with rfl | hx
    · exact Or.inl hn
    · exact Or.inr (ih hx n hn)

theorem bytes_of {t e : TypeId} {fuel : Nat} {u : Value} {x : DataW H × List MemPlace} {held : Bool} (ht : P.underlying t = some (.slice e)) (he : P.underlying e = some (.int .u8)) (hc : P.cellsOf e = 1) (hby : P.bytesOf e = 1)
    (hf : DataW.trod enc P w 0 (fun _ => true) held fuel t [u] = some x) : ∃ l : List UInt8, Sl w 1 u l.length (bs l) ∧ ((∀ n ∈ x.1.weights P t, n ≤ reachBytes) → l.length ≤ reachBytes) := by
  rcases open_ints ht he hc hf with ⟨hcs, _⟩ | ⟨x, len, cap, zs, hcs, _, hl, hm, hz, hx, hcell, hwz⟩
  · simp at hcs
    subst hcs
    exact ⟨[], Sl.nil w 1, fun _ => by simp⟩
  · simp at hcs
    subst hcs
    simp only [if_true] at hz
    refine ⟨(zs.take len).map fun n => UInt8.ofNat n.toNat, ⟨some x, cap, ?_, ?_, hm, ?_, by simp, fun j u hu => ⟨x, rfl, ?_⟩⟩, fun hw => ?_⟩
    · rw [List.length_map, List.length_take, hz, Nat.min_eq_left hl]
    · rw [List.length_map, List.length_take, hz, Nat.min_eq_left hl]; exact hl
    · rw [bs_len, Nat.mul_one]
    · have hj : j < len := by
        have := (List.getElem?_eq_some_iff.1 hu).1
        rw [bs_len, List.length_map, List.length_take] at this
        omega
      rw [hcell j (by omega), ← hu]
      have hzj : j < zs.length := by omega
      have hw := hwz zs[j] (List.getElem_mem _)
      have hx : 0 ≤ zs[j] ∧ zs[j] ≤ 255 := by simpa [Lit.wf, IntKind.min, IntKind.max, IntKind.signed, IntKind.bits] using hw
      rw [bs_get (by rw [List.length_map, List.length_take]; omega)]
      simp only [List.getElem_map, List.getElem_take, UInt8.toNat_ofNat']
      congr 2
      rw [List.getD_eq_getElem?_getD, List.getElem?_eq_getElem hzj, Option.getD_some]
      omega
    · subst hx
      have := hw (((lits .u8 (zs.take len)).length + (lits .u8 (zs.drop len)).length) * P.bytesOf e) (by simp only [DataW.weights, ht]; exact List.mem_cons_self ..)
      rw [hby] at this
      simp only [lits, List.length_map, List.length_take, List.length_drop] at this ⊢
      omega

theorem open_lists_sz {r : Reach} {b0 : Nat} {t e b : TypeId} {v : Value} {d : DataW H} {ps : List MemPlace} {held : Bool} (ht : P.underlying t = some (.slice e)) (he : P.underlying e = some (.slice b)) (hb : P.underlying b = some (.int .u8))
    (hce : P.cellsOf e = 1) (hcb : P.cellsOf b = 1) (hby : P.bytesOf b = 1)
    (hval : Value.okWide P w r b0 t v) (hd : DataW.Trod enc P w 0 (fun _ => true) held t v d ps) : ∃ ls : List (List UInt8), LL w v ls ∧ ((∀ n ∈ d.weights P t, n ≤ reachBytes) → ∀ l ∈ ls, l.length ≤ reachBytes) := by
  obtain ⟨a, len, cap, rfl⟩ := okWide_slice ht hval
  obtain ⟨fuel, hf⟩ := hd
  rcases DataW.trod_slice ht hf with ⟨hcs, _⟩ | ⟨a', len', cap', elems, rest, n, _, hcs, hx, _, hl, hm, hel, hsp, _⟩
  · simp [Value.cells] at hcs
    obtain ⟨rfl, rfl, rfl⟩ := hcs
    exact ⟨[], LL.nil w, fun _ => by simp⟩
  · simp [Value.cells] at hcs
    obtain ⟨rfl, rfl, rfl⟩ := hcs
    simp only [Prod.mk.injEq] at hx
    obtain ⟨rfl, _⟩ := hx
    have key : ∀ i : Nat, ∃ q : Value × List UInt8, i < len → w.cell? (a'.add i) = some q.1 ∧ Sl w 1 q.1 q.2.length (bs q.2) ∧ ((∀ n ∈ (DataW.slice (elems.map (·.1)) (rest.map (·.1)) : DataW H).weights P t, n ≤ reachBytes) → q.2.length ≤ reachBytes) := by
      intro i
      by_cases hi : i < len
      · have h3 := hsp i hi
        rw [hce, Nat.mul_one, List.getElem?_eq_getElem (by omega)] at h3
        obtain ⟨cs, hcs, htr⟩ := Option.bind_eq_some_iff.1 h3
        obtain ⟨_, hcl, hat⟩ := World.cells?_some hcs
        match cs, hcl with
        | [c0], _ =>
          obtain ⟨l, h1, h2⟩ := bytes_of he hb hcb hby htr
          refine ⟨(c0, l), fun _ => ⟨by have := hat 0 (by omega); rw [Addr.add_zero'] at this; simpa using this, h1, fun hw => h2 fun n hn => hw n ?_⟩⟩
          simp only [DataW.weights, ht, List.mem_cons, List.mem_append]
          exact Or.inr (Or.inl (weights_all (List.mem_map.2 ⟨elems[i], List.getElem_mem _, rfl⟩) n hn))
      · exact ⟨(.bool false, []), fun h => absurd h hi⟩
    obtain ⟨f, hfk⟩ := Classical.skolem.1 key
    refine ⟨(List.range len).map fun i => (f i).2, ⟨(List.range len).map fun i => (f i).1, by simp, ?_, ?_⟩, fun hw l hl => ?_⟩
    · refine ⟨some a', cap, by simp, by simpa using hl, hm, by simp, by simp, fun j u hu => ⟨a', rfl, ?_⟩⟩
      have hj : j < len := by have := (List.getElem?_eq_some_iff.1 hu).1; simpa using this
      rw [(hfk j hj).1]
      simpa [hj] using hu
    · intro q hq
      unfold rds at hq
      rw [List.mem_iff_getElem] at hq
      obtain ⟨i, hi, rfl⟩ := hq
      simp at hi
      simpa using (hfk i hi).2.1
    · obtain ⟨i, hi, rfl⟩ := List.mem_map.1 hl
      exact (hfk i (List.mem_range.1 hi)).2.2 hw
theorem open_lists {r : Reach} {b0 : Nat} {t e b : TypeId} {v : Value} {d : DataW H} {ps : List MemPlace} {held : Bool} (ht : P.underlying t = some (.slice e)) (he : P.underlying e = some (.slice b)) (hb : P.underlying b = some (.int .u8))
    (hce : P.cellsOf e = 1) (hcb : P.cellsOf b = 1) (hby : P.bytesOf b = 1)
    (hval : Value.okWide P w r b0 t v) (hd : DataW.Trod enc P w 0 (fun _ => true) held t v d ps) : ∃ ls : List (List UInt8), LL w v ls :=
  (open_lists_sz ht he hb hce hcb hby hval hd).imp fun _ h => h.1
end Go.Mx
