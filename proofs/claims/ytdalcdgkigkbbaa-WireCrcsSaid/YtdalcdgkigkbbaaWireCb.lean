/- marlaw2.WireCrcs: lists that do not fit; the row's walk. -/
import Derived.Test.YtdalcdgkigkbbaaWireC
namespace Go.Proofs.Ytdalcdgkigkbbaa
open Go.RowKit Go.Mx

set_option maxRecDepth 100000 in
theorem wireCrcs_bad (w : World) (v v' v'' : Value) (a b c : List UInt8) (hv : Sl w 1 v a.length (bs a)) (hv' : Sl w 1 v' b.length (bs b)) (hv'' : Sl w 1 v'' c.length (bs c)) (at_ : Int) (x : UInt8) (h : 6000 < a.length ∨ b.length ≠ a.length ∨ c.length ≠ a.length) :
    Calls Try.prog 6 #[v, v', v'', .int .i64 at_, .int .u8 (x.toNat : Int)] w fun e w' => e = .returned (.bool true) ∧ Below w.heap.size w w' := by
  obtain ⟨ao, cap, blk, off, rfl, h1, h2, _, _⟩ := hv.byt
  obtain ⟨ao', cap', blk', off', rfl, h1', h2', _, _⟩ := hv'.byt
  obtain ⟨ao'', cap'', blk'', off'', rfl, h1'', h2'', _, _⟩ := hv''.byt
  clear hv hv' hv''
  have hd : decide (6000 < (a.length : Int)) = true ∨ (decide (6000 < (a.length : Int)) = false ∧ ((b.length : Int) != (a.length : Int)) = true) ∨ (decide (6000 < (a.length : Int)) = false ∧ ((b.length : Int) != (a.length : Int)) = false ∧ ((c.length : Int) != (a.length : Int)) = true) := by
    simp only [decide_eq_true_eq, decide_eq_false_iff_not, bne_iff_ne, ne_eq, bne_eq_false_iff_eq]; omega
  clear h
  rcases hd with d1 | ⟨d1, d2⟩ | ⟨d1, d2, d3⟩
  all_goals
    go_enter Try.func6, Try.ntmps6
    go_wp2_with fail
    refine (first_any _).mono ?_
    rintro e w1 ⟨rfl, hs1⟩
    go_wp2_with (first | ((with_reducible show wpList _ _ _ _ _ _); refine wpl_want rfl ?_) | (go_at_call 12; refine (first_any _).mono ?_; rintro e w2 ⟨rfl, hs2⟩))
    go_ret
    exact ⟨rfl, (hs1.call0 hs2).below⟩

theorem wireCrcsRow (v : Value) (a : List UInt8) {w : World} (hv : Sl w 1 v a.length (bs a)) (v' : Value) (b : List UInt8) (hv' : Sl w 1 v' b.length (bs b)) (v'' : Value) (c : List UInt8) (hv'' : Sl w 1 v'' c.length (bs c)) (at_ : Int) (_wa : (Lit.int .i64 at_).wf = true) (x : UInt8) (_w : World) :
    Calls Try.prog 6 #[v, v', v'', .int .i64 at_, .int .u8 (x.toNat : Int)] w fun e w' => e = .returned (.bool true) ∧ Below w.heap.size w w' := by
  by_cases h : 6000 < a.length ∨ b.length ≠ a.length ∨ c.length ≠ a.length
  · exact wireCrcs_bad w v v' v'' a b c hv hv' hv'' at_ x h
  · exact wireCrcs_good w v v' v'' a b c hv hv' hv'' at_ x (by omega) (by omega) (by omega)
end Go.Proofs.Ytdalcdgkigkbbaa
