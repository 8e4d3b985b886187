/- What the listed variables hold, off the row's premise. -/
import Derived.Test.YtobpojlophhfaaaDoorJ6ShaF
import Derived.Test.YtobpojlophhfaaaDoorRows
import Derived.OpenShut
import Derived.MakeChecks
import Derived.ProofKit
namespace Go.Mx
open Go Go.RowKit
/-- A cell of a variable that is an array of numbers of 32 bits. -/
theorem arr_cell {P : Program} {W : World} {nm : String} {g : Nat} {cs : Array Value} {t e : TypeId} {n : Nat} {nums : List Int} {fuel : Nat} {p : List MemPlace}
    (ht : P.underlying t = some (.array n e)) (he : P.underlying e = some (.int .u32)) (ce : P.cellsOf e = 1) (hg : P.globalNamed nm = some g) (hv : W.var? P nm = some cs)
    (hd : DataW.trod (fun _ => ()) P W 0 (fun _ => true) false fuel t cs.toList = some (.agg (nums.map fun z => (DataW.lit (.int .u32 z) : DataW Unit)), p)) (hn : nums.length = n) (r : Nat) (hr : r < n) :
    W.cell? ⟨g, r, none⟩ = some (.int .u32 (nums.getD r 0)) := by
  obtain ⟨xs, m, _, ex, _, hl, hel⟩ := DataW.trod_array ht hd
  have hE := hel r hr
  rw [ce, Nat.mul_one, List.getElem?_eq_getElem (by omega)] at hE
  obtain ⟨z, e1, e2, _⟩ := DataW.trod_int he hE
  have e3 : (xs.map (·.1)) = nums.map fun z => (DataW.lit (.int .u32 z) : DataW Unit) := (DataW.agg.inj (Prod.mk.inj ex).1).symm
  have e4 : (xs.map (·.1))[r]? = (nums.map fun z => (DataW.lit (.int .u32 z) : DataW Unit))[r]? := by rw [e3]
  rw [List.getElem?_map, List.getElem?_map, List.getElem?_eq_getElem (by omega : r < xs.length), List.getElem?_eq_getElem (by omega : r < nums.length), e2] at e4
  have hz : z = nums.getD r 0 := by
    simp only [Option.map_some, Option.some.injEq, DataW.lit.injEq, Lit.int.injEq, true_and] at e4
    rw [e4, List.getD, List.getElem?_eq_getElem (by omega : r < nums.length)]; rfl
  rw [World.var?_cell hg hv r, ← hz]
  have : cs.toList[r]? = some (.int .u32 z) := by
    have h0 : ((cs.toList.drop r).take 1)[0]? = some (.int .u32 z) := by rw [e1]; rfl
    simpa using h0
  simpa using this
theorem nums_cell {l : List U32} {i : Nat} {u : Value} (h : (u32s l)[i]? = some u) : i < l.length ∧ u = .int .u32 ((l.map fun x => (x.toNat : Int)).getD i 0) := by
  have hi : i < l.length := by rw [← u32s_len]; exact (List.getElem?_eq_some_iff.1 h).1
  rw [u32s_get hi] at h
  refine ⟨hi, ?_⟩
  rw [← Option.some.inj h]
  simp [hi]
end Go.Mx
namespace Go.Proofs.YtobpojlophhfaaaDoor
open Go.RowKit Go.Mx

set_option maxRecDepth 100000 in
theorem laid_of_met {W : World} (h : laidMetH Tryd.prog [("marline/sha.cubes", Rows.laid_marline_sha_cubes), ("marline/sha.squares", Rows.laid_marline_sha_squares)] W) : Laid W := by
  rw [MakeChecks.laidMetH_plain _ _ _ (by kernel_rfl)] at h
  obtain ⟨ps, ⟨g, t, cs, fuel, p, q, hg, ht, hv, hd, ⟨g', t', cs', fuel', p', q', hg', ht', hv', hd', _, _⟩, _⟩, _, _⟩ := h
  obtain rfl := Option.some.inj ((show Tryd.prog.globalNamed "marline/sha.cubes" = some 2 by kernel_rfl).symm.trans hg)
  obtain rfl := Option.some.inj ((show (Tryd.prog.globals[2]?).map (·.type) = some 115 by kernel_rfl).symm.trans ht)
  obtain rfl := Option.some.inj ((show Tryd.prog.globalNamed "marline/sha.squares" = some 1 by kernel_rfl).symm.trans hg')
  obtain rfl := Option.some.inj ((show (Tryd.prog.globals[1]?).map (·.type) = some 114 by kernel_rfl).symm.trans ht')
  have ce : Tryd.prog.cellsOf 105 = 1 := by kernel_rfl
  have hc : (Rows.laid_marline_sha_cubes : DataW Unit) = .agg ((K64.map fun x => (x.toNat : Int)).map fun z => (DataW.lit (.int .u32 z) : DataW Unit)) := by kernel_rfl
  have hs : (Rows.laid_marline_sha_squares : DataW Unit) = .agg ((I8.lst.map fun x => (x.toNat : Int)).map fun z => (DataW.lit (.int .u32 z) : DataW Unit)) := by kernel_rfl
  rw [hc] at hd
  rw [hs] at hd'
  refine ⟨fun i u hu => ?_, fun i u hu => ?_⟩
  · obtain ⟨hi, rfl⟩ := nums_cell hu
    exact arr_cell Tryd.underlying114 Tryd.underlying105 ce hg' hv' hd' (by rw [List.length_map]; rfl) i (by rw [S8.lst_len] at hi; exact hi)
  · obtain ⟨hi, rfl⟩ := nums_cell hu
    exact arr_cell Tryd.underlying115 Tryd.underlying105 ce hg hv hd (by rw [List.length_map]; rfl) i (by simpa [K64] using hi)
end Go.Proofs.YtobpojlophhfaaaDoor
