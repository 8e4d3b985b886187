/- What the listed variables hold, off the row's premise. The walk of PktBack, as its row asks. -/
import Derived.Test.YtloogjdafhjheaaDoorPmA
import Derived.Test.YtloogjdafhjheaaDoorRows
import Derived.OpenShut
import Derived.MakeChecks
import Derived.ProofKit
import Derived.LaidLaws
import Derived.Test.YtloogjdafhjheaaDoorPmW
namespace Go.Proofs.YtloogjdafhjheaaDoor
open Go.RowKit Go.Mx
set_option maxRecDepth 100000 in
theorem ldp_of_met {W : World} (h : laidMetH Tryd.prog Rows.pktBackRow.laid W) : LdP W := by
  change laidMetH Tryd.prog [("math/bits.deBruijn32tab", Rows.laid_math_bits_deBruijn32tab), ("math/bits.deBruijn64tab", Rows.laid_math_bits_deBruijn64tab), ("internal/strconv.uint64pow10", Rows.laid_internal_strconv_uint64pow10), ("unicode/utf8.acceptRanges", Rows.laid_unicode_utf8_acceptRanges), ("strconv.ErrRange", Rows.laid_strconv_ErrRange), ("strconv.ErrSyntax", Rows.laid_strconv_ErrSyntax), ("unicode/utf8.first", Rows.laid_unicode_utf8_first)] W at h
  rw [MakeChecks.laidMetH_plain _ _ _ (by kernel_rfl)] at h
  obtain ⟨ps, ⟨_, _, _, _, _, _, _, _, _, _, ⟨_, _, _, _, _, _, _, _, _, _, ⟨g, t, cs, fuel, p, q, hg, ht, hv, hd, ⟨_, _, _, _, _, _, _, _, _, _, ⟨g1, t1, cs1, fuel1, p1, q1, hg1, ht1, hv1, hd1, ⟨g2, t2, cs2, fuel2, p2, q2, hg2, ht2, hv2, hd2, _, _⟩, _⟩, _⟩, _⟩, _⟩, _⟩, _, _⟩ := h
  obtain rfl := Option.some.inj ((show Tryd.prog.globalNamed "internal/strconv.uint64pow10" = some 0 by kernel_rfl).symm.trans hg)
  obtain rfl := Option.some.inj ((show (Tryd.prog.globals[0]?).map (·.type) = some 100 by kernel_rfl).symm.trans ht)
  obtain rfl := Option.some.inj ((show Tryd.prog.globalNamed "strconv.ErrRange" = some 3 by kernel_rfl).symm.trans hg1)
  obtain rfl := Option.some.inj ((show (Tryd.prog.globals[3]?).map (·.type) = some 70 by kernel_rfl).symm.trans ht1)
  obtain rfl := Option.some.inj ((show Tryd.prog.globalNamed "strconv.ErrSyntax" = some 2 by kernel_rfl).symm.trans hg2)
  obtain rfl := Option.some.inj ((show (Tryd.prog.globals[2]?).map (·.type) = some 70 by kernel_rfl).symm.trans ht2)
  have hc : (Rows.laid_internal_strconv_uint64pow10 : DataW Unit) = Lib.tabData .u64 Lib.pow10Tab := by kernel_rfl
  rw [hc] at hd
  have hcs := Lib.cells_of_tab Tryd.underlying100 Tryd.underlying87 (by kernel_rfl) (by kernel_rfl) hd
  have htab : Lib.TabIs Tryd.prog W "internal/strconv.uint64pow10" .u64 Lib.pow10Tab := by
    unfold Lib.TabIs
    rw [hv, ← hcs]
  have he : ∀ (g : Nat) (cs : Array Value) (fuel : Nat) (nm tn : String) (d : DataW Unit) (p : List MemPlace), Tryd.prog.globalNamed nm = some g → W.var? Tryd.prog nm = some cs →
      DataW.trod (fun _ => ()) Tryd.prog W 0 (fun _ => true) false fuel 70 cs.toList = some (.iface tn d, p) → ∃ ev, W.cell? ⟨g, 0, none⟩ = some ev ∧ (ev = .nilIface ∨ ∃ te pe, ev = .iface te pe) := by
    intro g cs fuel nm tn d p hg hv hd
    obtain ⟨_, u, v, hcs, _, _⟩ := iface_of_trod Tryd.underlying70 hd
    have := World.var?_cell hg hv 0
    refine ⟨.iface u v, ?_, .inr ⟨u, v, rfl⟩⟩
    rw [this]
    have e : cs.toList[0]? = some (.iface u v) := by rw [hcs]; rfl
    simpa using e
  refine ⟨htab, ?_, he _ _ _ _ _ _ _ hg2 hv2 hd2, he _ _ _ _ _ _ _ hg1 hv1 hd1⟩
  have h0 := World.var?_cell hg hv 0
  have e : cs[0]? = some (.int .u64 (Lib.pow10Tab.getD 0 0)) := by
    have : cs.toList[0]? = some (.int .u64 (Lib.pow10Tab.getD 0 0)) := by rw [hcs]; rfl
    simpa using this
  rw [e] at h0
  exact World.block_lt_of_cell? W _ h0
end Go.Proofs.YtloogjdafhjheaaDoor

namespace Go.Proofs.YtloogjdafhjheaaDoor
open Go.RowKit Go.Mx Go.ChangeShapes Go.WideShapes
theorem pktBackRow (v : Value) (l : List (List UInt8)) {w : World} (hl : LL w v l) (hz : ∀ x ∈ l, x.length ≤ reachBytes) (iv dv : Value) (m : Ms) (hm : MB w iv dv m) (_hi : MI m) (hmz : MZ m) (a : Int) (wa : (Lit.int .i64 a).wf = true) (x : UInt8) (_w : World) (hL : LdP w) :
    Calls Tryd.prog 4 #[v, MV iv dv m, .int .i64 a, .int .u8 (x.toNat : Int)] w fun e w' => e = .returned (.bool true) ∧ Below w.heap.size w w' :=
  pktBack_any v l w hl (fun p hp => by have := hz p hp; rw [show reachBytes = 140737488351232 by decide] at this; exact this) iv dv m hm hmz a (wfM_i64 wa) x hL
end Go.Proofs.YtloogjdafhjheaaDoor
