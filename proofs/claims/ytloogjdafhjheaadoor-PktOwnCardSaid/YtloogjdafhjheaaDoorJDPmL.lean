/- What the listed variables hold, off the row's premise. Walk of the law PktOwn. The walk of PktOwn, as its row asks. -/
import Derived.Test.YtloogjdafhjheaaDoorPmA
import Derived.Test.YtloogjdafhjheaaDoorRows
import Derived.OpenShut
import Derived.MakeChecks
import Derived.ProofKit
import Derived.LaidLaws
import Derived.Test.YtloogjdafhjheaaDoorPmQ
import Derived.Test.YtloogjdafhjheaaDoorJAPmS
import Derived.Test.YtloogjdafhjheaaDoorJCPnL
import Derived.Test.YtloogjdafhjheaaDoorJBRowMs
namespace Go.Proofs.YtloogjdafhjheaaDoor
open Go.RowKit Go.Mx
set_option maxRecDepth 100000 in
theorem ldp_of_met {W : World} (h : laidMetH Tryd.prog Rows.pktBackRow.laid W) : LdP W := by
  change laidMetH Tryd.prog [("math/bits.deBruijn32tab", Rows.laid_math_bits_deBruijn32tab), ("math/bits.deBruijn64tab", Rows.laid_math_bits_deBruijn64tab), ("internal/strconv.uint64pow10", Rows.laid_internal_strconv_uint64pow10), ("unicode/utf8.acceptRanges", Rows.laid_unicode_utf8_acceptRanges), ("strconv.ErrRange", Rows.laid_strconv_ErrRange), ("strconv.ErrSyntax", Rows.laid_strconv_ErrSyntax), ("unicode/utf8.first", Rows.laid_unicode_utf8_first)] W at h
  rw [MakeChecks.laidMetH_plain _ _ _ (by kernel_rfl)] at h
  obtain ⟨ps, ⟨_, _, _, _, _, _, _, _, _, _, ⟨_, _, _, _, _, _, _, _, _, _, ⟨g, t, cs, fuel, p, q, hg, ht, hv, hd, ⟨_, _, _, _, _, _, _, _, _, _, ⟨g1, t1, cs1, fuel1, p1, q1, hg1, ht1, hv1, hd1, ⟨g2, t2, cs2, fuel2, p2, q2, hg2, ht2, hv2, hd2, _, _⟩, _⟩, _⟩, _⟩, _⟩, _⟩, _, _⟩ := h
  obtain rfl := Option.some.inj ((show Tryd.prog.globalNamed "internal/strconv.uint64pow10" = some 0 by kernel_rfl).symm.trans hg)
  obtain rfl := Option.some.inj ((show (Tryd.prog.globals[0]?).map (·.type) = some 100 by kernel_rfl).symm.trans ht)
  obtain rfl := Option.some.inj ((show Tryd.prog.globalNamed "strconv.ErrRange" = some 3 by kernel_rfl).symm.trans hg1)
  obtain rfl := Option.some.inj ((show (Tryd.prog.globals[3]?).map (·.type) = some 70 by kernel_rfl).symm.trans ht1)
  obtain rfl := Option.some.inj ((show Tryd.prog.globalNamed "strconv.ErrSyntax" = some 2 by kernel_rfl).symm.trans hg2)
  obtain rfl := Option.some.inj ((show (Tryd.prog.globals[2]?).map (·.type) = some 70 by kernel_rfl).symm.trans ht2)
  have hc : (Rows.laid_internal_strconv_uint64pow10 : DataW Unit) = Lib.tabData .u64 Lib.pow10Tab := by kernel_rfl
  rw [hc] at hd
  have hcs := Lib.cells_of_tab Tryd.underlying100 Tryd.underlying87 (by kernel_rfl) (by kernel_rfl) hd
  have htab : Lib.TabIs Tryd.prog W "internal/strconv.uint64pow10" .u64 Lib.pow10Tab := by
    unfold Lib.TabIs
    rw [hv, ← hcs]
  have he : ∀ (g : Nat) (cs : Array Value) (fuel : Nat) (nm tn : String) (d : DataW Unit) (p : List MemPlace), Tryd.prog.globalNamed nm = some g → W.var? Tryd.prog nm = some cs →
      DataW.trod (fun _ => ()) Tryd.prog W 0 (fun _ => true) false fuel 70 cs.toList = some (.iface tn d, p) → ∃ ev, W.cell? ⟨g, 0, none⟩ = some ev ∧ (ev = .nilIface ∨ ∃ te pe, ev = .iface te pe) := by
    intro g cs fuel nm tn d p hg hv hd
    obtain ⟨_, u, v, hcs, _, _⟩ := iface_of_trod Tryd.underlying70 hd
    have := World.var?_cell hg hv 0
    refine ⟨.iface u v, ?_, .inr ⟨u, v, rfl⟩⟩
    rw [this]
    have e : cs.toList[0]? = some (.iface u v) := by rw [hcs]; rfl
    simpa using e
  refine ⟨htab, ?_, he _ _ _ _ _ _ _ hg2 hv2 hd2, he _ _ _ _ _ _ _ hg1 hv1 hd1⟩
  have h0 := World.var?_cell hg hv 0
  have e : cs[0]? = some (.int .u64 (Lib.pow10Tab.getD 0 0)) := by
    have : cs.toList[0]? = some (.int .u64 (Lib.pow10Tab.getD 0 0)) := by rw [hcs]; rfl
    simpa using this
  rw [e] at h0
  exact World.block_lt_of_cell? W _ h0
end Go.Proofs.YtloogjdafhjheaaDoor

namespace Go.Mx
open Go Go.RowKit
theorem incX {X : List UInt8} {i : Nat} (h : i < X.length) : (bs X).take i ++ [Value.int .u8 (((X[i].toNat : Int) + 1) % 256)] ++ (bs X).drop (i + 1) = bs (X.set i (X[i] + 1)) := by
  have e : ((X[i].toNat : Int) + 1) % 256 = ((X[i] + 1).toNat : Int) := by
    rw [UInt8.toNat_add]
    have : (1 : UInt8).toNat = 1 := rfl
    rw [this]; omega
  rw [e, List.set_eq_take_append_cons_drop, if_pos h]
  simp [bs, List.map_take, List.map_drop]
theorem St.frontAt {w0 w : World} {R : List Row} {Q : List Rd} (h : St w0 w R Q) (i : Nat) (hi : i < R.length) : St w0 w (R[i] :: R.eraseIdx i) Q := by
  have hp : (R[i] :: R.eraseIdx i).Perm R := by
    have e : R = R.take i ++ R[i] :: R.drop (i + 1) := by rw [← List.drop_eq_getElem_cons hi, List.take_append_drop]
    rw [List.eraseIdx_eq_take_drop_succ]
    conv => rhs; rw [e]
    exact List.perm_middle.symm
  refine ⟨h.below, fun r hr => h.own r (hp.mem_iff.1 hr), ?_, h.rd, fun q hq r hr => h.apart q hq r (hp.mem_iff.1 hr)⟩
  exact (hp.pairwise_iff (fun {r s} hrs b hb hb' => hrs b hb' hb)).2 h.sep
/-- A message that is the caller's own. -/
theorem DecO_st {w w' : World} {v v' : Value} {ids : List ByteArray} {data : List UInt8} (hs : St w w' [] []) (hi : Ow w' w.heap.size 9 1 v ids.length (ss ids)) (hd : Ow w' w.heap.size 5 1 v' data.length (bs data)) :
    St w w' [⟨v', 5, 1, data.length, bs data⟩, ⟨v, 9, 1, ids.length, ss ids⟩] [] :=
  (hs.addEnd (r := ⟨v', 5, 1, data.length, bs data⟩) hd (by simp)).addEnd (r := ⟨v, 9, 1, ids.length, ss ids⟩) hi (fun s hs b hb => by
    obtain rfl := List.mem_singleton.1 hs
    exact Ow.typeApart hd hi (by decide) b hb)
end Go.Mx
namespace Go.Proofs.YtloogjdafhjheaaDoor
open Go.RowKit Go.Mx
set_option maxRecDepth 200000 in
set_option maxHeartbeats 8000000 in
theorem pktOwn_any (w : World) (iv dv : Value) (m : Ms) (hm : MB w iv dv m) (hmz : MZ m) (hL : LdP w) :
    Calls Tryd.prog 5 #[MV iv dv m] w fun e w' => e = .returned (.bool true) ∧ Below w.heap.size w w' := by
  have HENC := Mx.hid (fun wx (h : St w wx [] []) => encP_any iv dv m wx (hm.old h) (fun x hx => by have := hmz.i x hx; omega) (hL.keep h))
  have HFEW := Mx.hid (fun wx (h : St w wx [] []) => few_any iv dv m wx (hm.old h))
  have HSAME := Mx.hid (fun wx (h : St w wx [] []) iv' dv' (hb : MB wx iv' dv' m) => (sameP_any iv' dv' iv dv m m wx hb (hm.old h)).mono fun e w' h => (⟨by rw [h.1, decide_eq_true rfl], h.2⟩ : e = .returned (.bool true) ∧ St wx w' [] []))
  have HL := Mx.hid (fun wx (h : St w wx [] []) => hL.keep h)
  obtain ⟨M, hM⟩ : ∃ M, M = m := ⟨_, rfl⟩
  rw [← hM] at HENC HFEW HSAME ⊢
  have hE : ∃ kind seq n mm, ∀ iv dv, MV iv dv M = .agg #[.int .i64 kind, .int .i64 seq, .int .i64 n, .int .i64 mm, iv, dv] := ⟨_, _, _, _, fun _ _ => rfl⟩
  obtain ⟨kind, seq, n, mm, hE⟩ := hE
  have HE := Mx.hid hE
  rw [hE] at HENC HFEW ⊢
  simp only [hE] at HSAME
  clear hm hmz hL hM hE
  go_enter Tryd.func5, Tryd.ntmps5
  go_upto_region 1 with (((with_reducible show wpList _ _ _ _ _ _); refine wpl_box rfl 25 _ rfl (St.refl w) ([.int .i64 kind, .int .i64 seq, .int .i64 n, .int .i64 mm, iv, dv]) (by rfl) ?_; intro gx wx hsx))
  go_wp2_with fail
  refine (firstPkt_any _).mono ?_
  rintro e w1 ⟨rfl, hk⟩
  have hs0 := hsx.call0 hk
  clear hsx hk
  go_wp2_with (first | ((with_reducible show wpList _ _ _ _ _ _); refine wpl_want rfl ?_) | ((with_reducible show wpList _ _ _ _ _ _); refine wpl_loadA rfl 25 _ rfl Tryd.aMsg (gx) (0) rfl ([.int .i64 kind, .int .i64 seq, .int .i64 n, .int .i64 mm, iv, dv]) rfl (VCof hs0 (List.mem_cons_self ..)) ?_))
  refine (HFEW.out _ hs0.bare).mono ?_
  rintro e w2 ⟨fb, rfl, hk2, hfew⟩
  replace hs0 := hs0.call0 hk2
  clear hk2
  cases fb with
  | false =>
    go_wp2_with (first | ((with_reducible show wpList _ _ _ _ _ _); refine wpl_want rfl ?_) | (go_at_call 6; refine (firstPkt_any _).mono ?_; rintro e w2 ⟨rfl, hk2⟩; replace hs0 := hs0.call0 hk2))
    go_ret
    exact ⟨rfl, hs0.below⟩
  | true =>
  have HF := Mx.hid (hfew rfl)
  clear hfew
  go_wp2_with (first | ((with_reducible show wpList _ _ _ _ _ _); refine wpl_want rfl ?_) | ((with_reducible show wpList _ _ _ _ _ _); refine wpl_loadA rfl 25 _ rfl Tryd.aMsg (gx) (0) rfl ([.int .i64 kind, .int .i64 seq, .int .i64 n, .int .i64 mm, iv, dv]) rfl (VCof hs0 (List.mem_cons_self ..)) ?_))
  refine (HENC.out _ hs0.bare).mono ?_
  rintro e w7 (⟨hmay, v7, rfl, hk7⟩ | ⟨hmay, rfl, hk7⟩)
  case inr =>
    have hs7 := hs0.call0 hk7
    clear hs0 hk7
    go_wp2_with (first | ((with_reducible show wpList _ _ _ _ _ _); refine wpl_want rfl ?_) | (go_at_call 6; refine (firstPkt_any _).mono ?_; rintro e w9 ⟨rfl, hk9⟩; replace hs7 := hs7.call0 hk9))
    go_ret
    exact ⟨rfl, hs7.below⟩
  case inl =>
  have hs7 := hs0.call1 hk7
  have hlen8 := enc_len8 M
  have hsm : (encM M).length ≤ 100000 := by
    have h1 := linesL_le (pieces_1000 hmay)
    have h2 := pieces_len M
    have h3 : M.ids.length ≤ 64 := by
      have h := hmay
      unfold mayM at h
      simp only [Bool.and_eq_true, decide_eq_true_eq] at h
      omega
    have h5 : (bodyM M).length = (linesL (piecesM M)).length + 4 := by unfold bodyM; simp
    rw [h2] at h1
    omega
  obtain ⟨gb, cb, rfl, -, -, hcb1, hcb2⟩ := hk7.form0 (by omega)
  have HWH := Mx.hid (fun M' er (h : DecM (encM M) M' er) => dec_whole hmay h)
  clear hs0 hk7 hlen8 hmay
  generalize encM M = E at *
  go_wp2_with fail
  refine (decO_any _ E _ hs7.sl0 (by omega) (HL.out _ hs7.bare)).mono ?_
  rintro e w9 ⟨iv1, dv1, M', er, rfl, hk9, hMB, hd, hoi, hod⟩
  obtain ⟨hMM, rfl⟩ := HWH.out _ _ hd
  subst M'
  rw [HE.out]
  obtain ⟨i1, j1, rfl, -, hj1, -⟩ := hMB.i.form
  obtain ⟨d1, e1, rfl, -, he1, -⟩ := hMB.d.form
  have hs9 : St w w9 [(⟨.slice d1 M.data.length e1, 5, 1, M.data.length, bs (M.data)⟩ : Row), (⟨.slice i1 M.ids.length j1, 9, 1, M.ids.length, ss M.ids⟩ : Row), (⟨.slice (some ⟨gb, 0, none⟩) E.length cb, 5, 1, E.length, bs (E)⟩ : Row), (⟨.slice (some ⟨gx, 0, none⟩) 1 1, 25, 6, 1, [.int .i64 kind, .int .i64 seq, .int .i64 n, .int .i64 mm, iv, dv]⟩ : Row)] [] := hs7.call (DecO_st hk9 hoi hod)
  clear hd hs7 hk9 hMB hoi hod
  go_upto_region 9 with (first | ((with_reducible show wpList _ _ _ _ _ _); refine wpl_want rfl ?_) | ((with_reducible show wpList _ _ _ _ _ _); refine wpl_storeA rfl 25 _ _ rfl Tryd.aMsg ((St.refl w9).madeAt #[.int .i64 0, .int .i64 0, .int .i64 0, .int .i64 0, .slice none 0 0, .slice none 0 0] 25 6 1 _ rfl (by simp [maxLen]) rfl) (0) rfl ([.int .i64 kind, .int .i64 seq, .int .i64 n, .int .i64 mm, .slice i1 M.ids.length j1, .slice d1 M.data.length e1]) rfl (by rfl) (by simp) (by intro u hu; simp at hu; rcases hu with rfl | rfl | rfl | rfl | rfl | rfl <;> rfl) ?_; intro w10 hk10))
  replace hk10 := hk10.cast rfl (show _ = [.int .i64 kind, .int .i64 seq, .int .i64 n, .int .i64 mm, .slice i1 M.ids.length j1, .slice d1 M.data.length e1] by simp)
  generalize w9.heap.size = g1 at *
  have hs10 : St w w10 [(⟨.slice (some ⟨g1, 0, none⟩) 1 1, 25, 6, 1, [.int .i64 kind, .int .i64 seq, .int .i64 n, .int .i64 mm, .slice i1 M.ids.length j1, .slice d1 M.data.length e1]⟩ : Row), (⟨.slice d1 M.data.length e1, 5, 1, M.data.length, bs (M.data)⟩ : Row), (⟨.slice i1 M.ids.length j1, 9, 1, M.ids.length, ss M.ids⟩ : Row), (⟨.slice (some ⟨gb, 0, none⟩) E.length cb, 5, 1, E.length, bs (E)⟩ : Row), (⟨.slice (some ⟨gx, 0, none⟩) 1 1, 25, 6, 1, [.int .i64 kind, .int .i64 seq, .int .i64 n, .int .i64 mm, iv, dv]⟩ : Row)] [] := hs9.call1 hk10
  clear hs9 hk10
  go_wp2_with fail
  refine (decO_any _ E _ (hs10.sl (r := (⟨.slice (some ⟨gb, 0, none⟩) E.length cb, 5, 1, E.length, bs (E)⟩ : Row)) (by simp)) (by omega) (HL.out _ hs10.bare)).mono ?_
  rintro e w11 ⟨iv2, dv2, M', er, rfl, hk11, hMB, hd, hoi, hod⟩
  obtain ⟨hMM, rfl⟩ := HWH.out _ _ hd
  subst M'
  rw [HE.out]
  obtain ⟨i2, j2, rfl, -⟩ := hMB.i.form
  obtain ⟨d2, e2, rfl, -⟩ := hMB.d.form
  have hs11 : St w w11 [(⟨.slice d2 M.data.length e2, 5, 1, M.data.length, bs (M.data)⟩ : Row), (⟨.slice i2 M.ids.length j2, 9, 1, M.ids.length, ss M.ids⟩ : Row), (⟨.slice (some ⟨g1, 0, none⟩) 1 1, 25, 6, 1, [.int .i64 kind, .int .i64 seq, .int .i64 n, .int .i64 mm, .slice i1 M.ids.length j1, .slice d1 M.data.length e1]⟩ : Row), (⟨.slice d1 M.data.length e1, 5, 1, M.data.length, bs (M.data)⟩ : Row), (⟨.slice i1 M.ids.length j1, 9, 1, M.ids.length, ss M.ids⟩ : Row), (⟨.slice (some ⟨gb, 0, none⟩) E.length cb, 5, 1, E.length, bs (E)⟩ : Row), (⟨.slice (some ⟨gx, 0, none⟩) 1 1, 25, 6, 1, [.int .i64 kind, .int .i64 seq, .int .i64 n, .int .i64 mm, iv, dv]⟩ : Row)] [] := hs10.call (DecO_st hk11 hoi hod)
  clear hd hs10 hk11 hMB hoi hod
  go_upto_region 10 with (first | ((with_reducible show wpList _ _ _ _ _ _); refine wpl_want rfl ?_) | ((with_reducible show wpList _ _ _ _ _ _); refine wpl_storeA rfl 25 _ _ rfl Tryd.aMsg ((St.refl w11).madeAt #[.int .i64 0, .int .i64 0, .int .i64 0, .int .i64 0, .slice none 0 0, .slice none 0 0] 25 6 1 _ rfl (by simp [maxLen]) rfl) (0) rfl ([.int .i64 kind, .int .i64 seq, .int .i64 n, .int .i64 mm, .slice i2 M.ids.length j2, .slice d2 M.data.length e2]) rfl (by rfl) (by simp) (by intro u hu; simp at hu; rcases hu with rfl | rfl | rfl | rfl | rfl | rfl <;> rfl) ?_; intro w12 hk12))
  replace hk12 := hk12.cast rfl (show _ = [.int .i64 kind, .int .i64 seq, .int .i64 n, .int .i64 mm, .slice i2 M.ids.length j2, .slice d2 M.data.length e2] by simp)
  generalize w11.heap.size = g2 at *
  have hs12 : St w w12 [(⟨.slice (some ⟨g2, 0, none⟩) 1 1, 25, 6, 1, [.int .i64 kind, .int .i64 seq, .int .i64 n, .int .i64 mm, .slice i2 M.ids.length j2, .slice d2 M.data.length e2]⟩ : Row), (⟨.slice d2 M.data.length e2, 5, 1, M.data.length, bs (M.data)⟩ : Row), (⟨.slice i2 M.ids.length j2, 9, 1, M.ids.length, ss M.ids⟩ : Row), (⟨.slice (some ⟨g1, 0, none⟩) 1 1, 25, 6, 1, [.int .i64 kind, .int .i64 seq, .int .i64 n, .int .i64 mm, .slice i1 M.ids.length j1, .slice d1 M.data.length e1]⟩ : Row), (⟨.slice d1 M.data.length e1, 5, 1, M.data.length, bs (M.data)⟩ : Row), (⟨.slice i1 M.ids.length j1, 9, 1, M.ids.length, ss M.ids⟩ : Row), (⟨.slice (some ⟨gb, 0, none⟩) E.length cb, 5, 1, E.length, bs (E)⟩ : Row), (⟨.slice (some ⟨gx, 0, none⟩) 1 1, 25, 6, 1, [.int .i64 kind, .int .i64 seq, .int .i64 n, .int .i64 mm, iv, dv]⟩ : Row)] [] := hs11.call1 hk12
  have hs13 : St w w12 [(⟨.slice (some ⟨gb, 0, none⟩) E.length cb, 5, 1, E.length, bs (E)⟩ : Row), (⟨.slice (some ⟨g2, 0, none⟩) 1 1, 25, 6, 1, [.int .i64 kind, .int .i64 seq, .int .i64 n, .int .i64 mm, .slice i2 M.ids.length j2, .slice d2 M.data.length e2]⟩ : Row), (⟨.slice d2 M.data.length e2, 5, 1, M.data.length, bs (M.data)⟩ : Row), (⟨.slice i2 M.ids.length j2, 9, 1, M.ids.length, ss M.ids⟩ : Row), (⟨.slice (some ⟨g1, 0, none⟩) 1 1, 25, 6, 1, [.int .i64 kind, .int .i64 seq, .int .i64 n, .int .i64 mm, .slice i1 M.ids.length j1, .slice d1 M.data.length e1]⟩ : Row), (⟨.slice d1 M.data.length e1, 5, 1, M.data.length, bs (M.data)⟩ : Row), (⟨.slice i1 M.ids.length j1, 9, 1, M.ids.length, ss M.ids⟩ : Row), (⟨.slice (some ⟨gx, 0, none⟩) 1 1, 25, 6, 1, [.int .i64 kind, .int .i64 seq, .int .i64 n, .int .i64 mm, iv, dv]⟩ : Row)] [] := hs12.frontAt 6 (by simp)
  clear hs11 hk12 hs12
  go_wp2_with (first | ((with_reducible show wpList _ _ _ _ _ _); refine wpl_want rfl ?_))
  go_loopw [9] (fun y wr => ∃ (i : Nat) (X : List UInt8), i ≤ E.length ∧ y = .int .i64 i ∧ Hid (X.length = E.length) ∧ St w wr [(⟨.slice (some ⟨gb, 0, none⟩) E.length cb, 5, 1, E.length, bs (X)⟩ : Row), (⟨.slice (some ⟨g2, 0, none⟩) 1 1, 25, 6, 1, [.int .i64 kind, .int .i64 seq, .int .i64 n, .int .i64 mm, .slice i2 M.ids.length j2, .slice d2 M.data.length e2]⟩ : Row), (⟨.slice d2 M.data.length e2, 5, 1, M.data.length, bs (M.data)⟩ : Row), (⟨.slice i2 M.ids.length j2, 9, 1, M.ids.length, ss M.ids⟩ : Row), (⟨.slice (some ⟨g1, 0, none⟩) 1 1, 25, 6, 1, [.int .i64 kind, .int .i64 seq, .int .i64 n, .int .i64 mm, .slice i1 M.ids.length j1, .slice d1 M.data.length e1]⟩ : Row), (⟨.slice d1 M.data.length e1, 5, 1, M.data.length, bs (M.data)⟩ : Row), (⟨.slice i1 M.ids.length j1, 9, 1, M.ids.length, ss M.ids⟩ : Row), (⟨.slice (some ⟨gx, 0, none⟩) 1 1, 25, 6, 1, [.int .i64 kind, .int .i64 seq, .int .i64 n, .int .i64 mm, iv, dv]⟩ : Row)] []) (fun y _ => E.length - (intOf y).toNat)
  case atStart => exact ⟨0, E, by omega, rfl, rfl, hs13⟩
  case round =>
    obtain ⟨i, X, hi, rfl, HX, hs⟩ := hrel
    clear hs13
    by_cases hlt : i < E.length
    · have hX : i < X.length := by have := HX.out; omega
      have c1 : wr.cell? ⟨gb, i, none⟩ = some (.int .u8 (X[i].toNat : Int)) := hs.cell (bs_get hX)
      have HbX := Mx.hid (incX hX)
      have HlX := Mx.hid (show i < (bs X).length by rw [bs_len]; exact hX)
      have HNX : Hid ((X.set i (X[i] + 1)).length = E.length) := Mx.hid (by rw [List.length_set]; exact HX.out)
      have hii : (i : Int) < (E.length : Int) := by omega
      generalize X[i] = p at *
      clear hX
      go_wp2_with (first | ((with_reducible show wpList _ _ _ _ _ _); refine wpl_want rfl ?_) | ((with_reducible show wpList _ _ _ _ _ _); refine wpl_store1 rfl 5 _ _ rfl hs (i) rfl (.int .u8 (((p.toNat : Int) + 1) % 256)) rfl rfl (by kernel_rfl) HlX.out rfl ?_; intro w7 ht1))
      exact ⟨⟨i + 1, X.set i (p + 1), by omega, by go_num, HNX, ht1.cast rfl HbX.out⟩, by simp [intOf]; omega⟩
    · obtain rfl : i = E.length := by omega
      have q7 : decide ((E.length : Int) < (E.length : Int)) = false := decide_eq_false (by omega)
      have hs14 : St w wr [(⟨.slice d1 M.data.length e1, 5, 1, M.data.length, bs (M.data)⟩ : Row), (⟨.slice (some ⟨g2, 0, none⟩) 1 1, 25, 6, 1, [.int .i64 kind, .int .i64 seq, .int .i64 n, .int .i64 mm, .slice i2 M.ids.length j2, .slice d2 M.data.length e2]⟩ : Row), (⟨.slice d2 M.data.length e2, 5, 1, M.data.length, bs (M.data)⟩ : Row), (⟨.slice i2 M.ids.length j2, 9, 1, M.ids.length, ss M.ids⟩ : Row), (⟨.slice (some ⟨g1, 0, none⟩) 1 1, 25, 6, 1, [.int .i64 kind, .int .i64 seq, .int .i64 n, .int .i64 mm, .slice i1 M.ids.length j1, .slice d1 M.data.length e1]⟩ : Row), (⟨.slice i1 M.ids.length j1, 9, 1, M.ids.length, ss M.ids⟩ : Row), (⟨.slice (some ⟨gx, 0, none⟩) 1 1, 25, 6, 1, [.int .i64 kind, .int .i64 seq, .int .i64 n, .int .i64 mm, iv, dv]⟩ : Row)] [] := hs.tail.frontAt 4 (by simp)
      clear hs hi hlt
      go_wp2_with (first | ((with_reducible show wpList _ _ _ _ _ _); refine wpl_want rfl ?_))
      go_loopw [10] (fun y wr => ∃ (i : Nat) (X : List UInt8), i ≤ M.data.length ∧ y = .int .i64 i ∧ Hid (X.length = M.data.length) ∧ St w wr [(⟨.slice d1 M.data.length e1, 5, 1, M.data.length, bs (X)⟩ : Row), (⟨.slice (some ⟨g2, 0, none⟩) 1 1, 25, 6, 1, [.int .i64 kind, .int .i64 seq, .int .i64 n, .int .i64 mm, .slice i2 M.ids.length j2, .slice d2 M.data.length e2]⟩ : Row), (⟨.slice d2 M.data.length e2, 5, 1, M.data.length, bs (M.data)⟩ : Row), (⟨.slice i2 M.ids.length j2, 9, 1, M.ids.length, ss M.ids⟩ : Row), (⟨.slice (some ⟨g1, 0, none⟩) 1 1, 25, 6, 1, [.int .i64 kind, .int .i64 seq, .int .i64 n, .int .i64 mm, .slice i1 M.ids.length j1, .slice d1 M.data.length e1]⟩ : Row), (⟨.slice i1 M.ids.length j1, 9, 1, M.ids.length, ss M.ids⟩ : Row), (⟨.slice (some ⟨gx, 0, none⟩) 1 1, 25, 6, 1, [.int .i64 kind, .int .i64 seq, .int .i64 n, .int .i64 mm, iv, dv]⟩ : Row)] []) (fun y _ => M.data.length - (intOf y).toNat)
      case atStart => exact ⟨0, M.data, by omega, rfl, rfl, hs14⟩
      case round =>
        obtain ⟨i, X, hi, rfl, HX, hs⟩ := hrel
        clear hs14
        have x5 : wr.cell? ⟨g1, 5, none⟩ = some (.slice d1 M.data.length e1) := hs.rcell (List.mem_cons_of_mem _ (List.mem_cons_of_mem _ (List.mem_cons_of_mem _ (List.mem_cons_of_mem _ (List.mem_cons_self ..))))) (j := 5) rfl
        have x4 : wr.cell? ⟨g1, 4, none⟩ = some (.slice i1 M.ids.length j1) := hs.rcell (List.mem_cons_of_mem _ (List.mem_cons_of_mem _ (List.mem_cons_of_mem _ (List.mem_cons_of_mem _ (List.mem_cons_self ..))))) (j := 4) rfl
        by_cases hlt : i < M.data.length
        · have hX : i < X.length := by have := HX.out; omega
          obtain ⟨gd, cd, hv, _, _, hx1, hx2⟩ := hs.form0 (by omega)
          simp only [Value.slice.injEq, true_and] at hv
          obtain ⟨rfl, rfl⟩ := hv
          have c1 : wr.cell? ⟨gd, i, none⟩ = some (.int .u8 (X[i].toNat : Int)) := hs.cell (bs_get hX)
          have HbX := Mx.hid (incX hX)
          have HlX := Mx.hid (show i < (bs X).length by rw [bs_len]; exact hX)
          have HNX : Hid ((X.set i (X[i] + 1)).length = M.data.length) := Mx.hid (by rw [List.length_set]; exact HX.out)
          have hii : (i : Int) < (M.data.length : Int) := by omega
          generalize X[i] = p at *
          clear hX
          go_wp2_with (first | ((with_reducible show wpList _ _ _ _ _ _); refine wpl_want rfl ?_) | ((with_reducible show wpList _ _ _ _ _ _); refine wpl_store1 rfl 5 _ _ rfl hs (i) rfl (.int .u8 (((p.toNat : Int) + 1) % 256)) rfl rfl (by kernel_rfl) HlX.out rfl ?_; intro w7 ht1))
          exact ⟨⟨i + 1, X.set i (p + 1), by omega, by go_num, HNX, ht1.cast rfl HbX.out⟩, by simp [intOf]; omega⟩
        · obtain rfl : i = M.data.length := by omega
          have q8 : decide ((M.data.length : Int) < (M.data.length : Int)) = false := decide_eq_false (by omega)
          have hs15 : St w wr [(⟨.slice i1 M.ids.length j1, 9, 1, M.ids.length, ss M.ids⟩ : Row), (⟨.slice (some ⟨g2, 0, none⟩) 1 1, 25, 6, 1, [.int .i64 kind, .int .i64 seq, .int .i64 n, .int .i64 mm, .slice i2 M.ids.length j2, .slice d2 M.data.length e2]⟩ : Row), (⟨.slice d2 M.data.length e2, 5, 1, M.data.length, bs (M.data)⟩ : Row), (⟨.slice i2 M.ids.length j2, 9, 1, M.ids.length, ss M.ids⟩ : Row), (⟨.slice (some ⟨g1, 0, none⟩) 1 1, 25, 6, 1, [.int .i64 kind, .int .i64 seq, .int .i64 n, .int .i64 mm, .slice i1 M.ids.length j1, .slice d1 M.data.length e1]⟩ : Row), (⟨.slice (some ⟨gx, 0, none⟩) 1 1, 25, 6, 1, [.int .i64 kind, .int .i64 seq, .int .i64 n, .int .i64 mm, iv, dv]⟩ : Row)] [] := hs.tail.frontAt 4 (by simp)
          clear hs hi hlt
          have hidl : M.ids.length ≤ 100 := HF.out.2.1
          go_upto_region 20 with (first | ((with_reducible show wpList _ _ _ _ _ _); refine wpl_want rfl ?_))
          go_wp2_with (first | ((with_reducible show wpList _ _ _ _ _ _); refine wpl_want rfl ?_) | (at_builtin; refine wpl_app rfl _ _ 22 rfl Tryd.elStr (hs15.alloc _) rfl (by exact Sl.one _ _ _) (by intro u hu; simp at hu; subst hu; rfl) (by omega) ?_; intro v16 w16 hs16 _; obtain ⟨va16, vc16, rfl, _⟩ := id hs16.sl0; have hs17 : St w w16 [(⟨.slice (some ⟨g1, 0, none⟩) 1 1, 25, 6, 1, [.int .i64 kind, .int .i64 seq, .int .i64 n, .int .i64 mm, .slice i1 M.ids.length j1, .slice d1 M.data.length e1]⟩ : Row), ⟨.slice va16 (M.ids.length + 1) vc16, 9, 1, M.ids.length + 1, ss M.ids ++ [.string ⟨#[120]⟩]⟩, (⟨.slice (some ⟨g2, 0, none⟩) 1 1, 25, 6, 1, [.int .i64 kind, .int .i64 seq, .int .i64 n, .int .i64 mm, .slice i2 M.ids.length j2, .slice d2 M.data.length e2]⟩ : Row), (⟨.slice d2 M.data.length e2, 5, 1, M.data.length, bs (M.data)⟩ : Row), (⟨.slice i2 M.ids.length j2, 9, 1, M.ids.length, ss M.ids⟩ : Row), (⟨.slice (some ⟨gx, 0, none⟩) 1 1, 25, 6, 1, [.int .i64 kind, .int .i64 seq, .int .i64 n, .int .i64 mm, iv, dv]⟩ : Row)] [] := hs16.frontAt 4 (by simp)) | ((with_reducible show wpList _ _ _ _ _ _); refine wpl_store1 rfl 22 _ _ rfl hs17 (4) rfl (.slice va16 (M.ids.length + 1) vc16) rfl rfl (by kernel_rfl) (by simp) rfl ?_; intro w18 hs18))
          refine (firstPkt_any _).mono ?_
          rintro e w19 ⟨rfl, hk19⟩
          have hs19 := hs18.tail.tail.call0 hk19
          have hcq := VCof hs19 (List.mem_cons_self ..)
          have hcx := VCof hs19 (List.mem_cons_of_mem _ (List.mem_cons_of_mem _ (List.mem_cons_of_mem _ (List.mem_cons_self ..))))
          have HSM := Mx.hid (HSAME.out _ hs19.bare _ _ ⟨hs19.sl (r := (⟨.slice i2 M.ids.length j2, 9, 1, M.ids.length, ss M.ids⟩ : Row)) (by simp), hs19.sl (r := (⟨.slice d2 M.data.length e2, 5, 1, M.data.length, bs (M.data)⟩ : Row)) (by simp)⟩)
          go_wp2_with (first | ((with_reducible show wpList _ _ _ _ _ _); refine wpl_want rfl ?_) | ((with_reducible show wpList _ _ _ _ _ _); refine wpl_loadA rfl 25 _ rfl Tryd.aMsg (g2) (0) rfl ([.int .i64 kind, .int .i64 seq, .int .i64 n, .int .i64 mm, .slice i2 M.ids.length j2, .slice d2 M.data.length e2]) rfl hcq ?_) | ((with_reducible show wpList _ _ _ _ _ _); refine wpl_loadA rfl 25 _ rfl Tryd.aMsg (gx) (0) rfl ([.int .i64 kind, .int .i64 seq, .int .i64 n, .int .i64 mm, iv, dv]) rfl hcx ?_) | (go_at_call 18; refine HSM.out.mono ?_; rintro e w20 ⟨rfl, hk20⟩))
          go_ret
          exact ⟨rfl, (hs19.call0 hk20).below⟩
end Go.Proofs.YtloogjdafhjheaaDoor

namespace Go.Proofs.YtloogjdafhjheaaDoor
open Go.RowKit Go.Mx Go.ChangeShapes Go.WideShapes
theorem pktOwnRow (iv dv : Value) (m : Ms) {w : World} (hm : MB w iv dv m) (_hi : MI m) (hmz : MZ m) (_w : World) (hL : LdP w) :
    Calls Tryd.prog 5 #[MV iv dv m] w fun e w' => e = .returned (.bool true) ∧ Below w.heap.size w w' :=
  pktOwn_any w iv dv m hm hmz hL
end Go.Proofs.YtloogjdafhjheaaDoor
