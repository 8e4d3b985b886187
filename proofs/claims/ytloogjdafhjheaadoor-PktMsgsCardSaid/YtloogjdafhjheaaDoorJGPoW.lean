/- What the listed variables hold, off the row's premise. Walk of the law PktMsgs. The walk of PktMsgs, as its row asks. -/
import Derived.Test.YtloogjdafhjheaaDoorPmA
import Derived.Test.YtloogjdafhjheaaDoorRows
import Derived.OpenShut
import Derived.MakeChecks
import Derived.ProofKit
import Derived.LaidLaws
import Derived.Test.YtloogjdafhjheaaDoorPmQ
import Derived.Test.YtloogjdafhjheaaDoorJAPmS
import Derived.Test.YtloogjdafhjheaaDoorJFPoE
import Derived.Test.YtloogjdafhjheaaDoorPoP
import Derived.Test.YtloogjdafhjheaaDoorJBRowMs
namespace Go.Proofs.YtloogjdafhjheaaDoor
open Go.RowKit Go.Mx
set_option maxRecDepth 100000 in
theorem ldp_of_met {W : World} (h : laidMetH Tryd.prog Rows.pktBackRow.laid W) : LdP W := by
  change laidMetH Tryd.prog [("math/bits.deBruijn32tab", Rows.laid_math_bits_deBruijn32tab), ("math/bits.deBruijn64tab", Rows.laid_math_bits_deBruijn64tab), ("internal/strconv.uint64pow10", Rows.laid_internal_strconv_uint64pow10), ("unicode/utf8.acceptRanges", Rows.laid_unicode_utf8_acceptRanges), ("strconv.ErrRange", Rows.laid_strconv_ErrRange), ("strconv.ErrSyntax", Rows.laid_strconv_ErrSyntax), ("unicode/utf8.first", Rows.laid_unicode_utf8_first)] W at h
  rw [MakeChecks.laidMetH_plain _ _ _ (by kernel_rfl)] at h
  obtain ⟨ps, ⟨_, _, _, _, _, _, _, _, _, _, ⟨_, _, _, _, _, _, _, _, _, _, ⟨g, t, cs, fuel, p, q, hg, ht, hv, hd, ⟨_, _, _, _, _, _, _, _, _, _, ⟨g1, t1, cs1, fuel1, p1, q1, hg1, ht1, hv1, hd1, ⟨g2, t2, cs2, fuel2, p2, q2, hg2, ht2, hv2, hd2, _, _⟩, _⟩, _⟩, _⟩, _⟩, _⟩, _, _⟩ := h
  obtain rfl := Option.some.inj ((show Tryd.prog.globalNamed "internal/strconv.uint64pow10" = some 0 by kernel_rfl).symm.trans hg)
  obtain rfl := Option.some.inj ((show (Tryd.prog.globals[0]?).map (·.type) = some 100 by kernel_rfl).symm.trans ht)
  obtain rfl := Option.some.inj ((show Tryd.prog.globalNamed "strconv.ErrRange" = some 3 by kernel_rfl).symm.trans hg1)
  obtain rfl := Option.some.inj ((show (Tryd.prog.globals[3]?).map (·.type) = some 70 by kernel_rfl).symm.trans ht1)
  obtain rfl := Option.some.inj ((show Tryd.prog.globalNamed "strconv.ErrSyntax" = some 2 by kernel_rfl).symm.trans hg2)
  obtain rfl := Option.some.inj ((show (Tryd.prog.globals[2]?).map (·.type) = some 70 by kernel_rfl).symm.trans ht2)
  have hc : (Rows.laid_internal_strconv_uint64pow10 : DataW Unit) = Lib.tabData .u64 Lib.pow10Tab := by kernel_rfl
  rw [hc] at hd
  have hcs := Lib.cells_of_tab Tryd.underlying100 Tryd.underlying87 (by kernel_rfl) (by kernel_rfl) hd
  have htab : Lib.TabIs Tryd.prog W "internal/strconv.uint64pow10" .u64 Lib.pow10Tab := by
    unfold Lib.TabIs
    rw [hv, ← hcs]
  have he : ∀ (g : Nat) (cs : Array Value) (fuel : Nat) (nm tn : String) (d : DataW Unit) (p : List MemPlace), Tryd.prog.globalNamed nm = some g → W.var? Tryd.prog nm = some cs →
      DataW.trod (fun _ => ()) Tryd.prog W 0 (fun _ => true) false fuel 70 cs.toList = some (.iface tn d, p) → ∃ ev, W.cell? ⟨g, 0, none⟩ = some ev ∧ (ev = .nilIface ∨ ∃ te pe, ev = .iface te pe) := by
    intro g cs fuel nm tn d p hg hv hd
    obtain ⟨_, u, v, hcs, _, _⟩ := iface_of_trod Tryd.underlying70 hd
    have := World.var?_cell hg hv 0
    refine ⟨.iface u v, ?_, .inr ⟨u, v, rfl⟩⟩
    rw [this]
    have e : cs.toList[0]? = some (.iface u v) := by rw [hcs]; rfl
    simpa using e
  refine ⟨htab, ?_, he _ _ _ _ _ _ _ hg2 hv2 hd2, he _ _ _ _ _ _ _ hg1 hv1 hd1⟩
  have h0 := World.var?_cell hg hv 0
  have e : cs[0]? = some (.int .u64 (Lib.pow10Tab.getD 0 0)) := by
    have : cs.toList[0]? = some (.int .u64 (Lib.pow10Tab.getD 0 0)) := by rw [hcs]; rfl
    simpa using this
  rw [e] at h0
  exact World.block_lt_of_cell? W _ h0
end Go.Proofs.YtloogjdafhjheaaDoor

namespace Go.Mx
open Go Go.RowKit
/-- What Encode tells. -/
def eM (m : Ms) : List UInt8 := if mayM m = true then encM m else []
def eN (m : Ms) : Int := if mayM m = true then 0 else 1
/-- A variable's cells. -/
def VC6 (g : Nat) (cs : List Value) (w : World) : Prop := ∀ i u, cs[i]? = some u → w.cell? ⟨g, 0 + i, none⟩ = some u
theorem VC6.of {w0 w : World} {R : List Row} {Q : List Rd} {g : Nat} {n cap : Nat} {e : TypeId} {cs : List Value} {size : Nat} (h : St w0 w R Q) (hr : (⟨.slice (some ⟨g, 0, none⟩) n cap, e, size, n, cs⟩ : Row) ∈ R) : VC6 g cs w := fun i u hu => by rw [Nat.zero_add]; exact h.rcell hr hu
theorem VC6.keep {w0 w : World} {R : List Row} {Q : List Rd} {g : Nat} {cs : List Value} (h : VC6 g cs w0) (hs : St w0 w R Q) : VC6 g cs w := fun i u hu => hs.keep (h i u hu)
end Go.Mx
namespace Go.Proofs.YtloogjdafhjheaaDoor
open Go.RowKit Go.Mx
theorem encU {f : FuncId} {args : Array Value} {m : Ms} {w : World} (h : Calls Tryd.prog f args w (EncP m w)) : Calls Tryd.prog f args w fun e w' => ∃ v, e = .returned (.tuple #[v, .int .i64 (eN m)]) ∧ St w w' [⟨v, 5, 1, (eM m).length, bs (eM m)⟩] [] :=
  h.mono fun e w' he => by
    unfold eN eM
    rcases he with ⟨h1, v, h2, h3⟩ | ⟨h1, h2, h3⟩
    · rw [if_pos h1, if_pos h1]; exact ⟨v, h2, h3⟩
    · rw [h1]; exact ⟨_, h2, h3.addNil _ _⟩
theorem plain_c (k s n mm : Int) (iv dv : Value) (ids : List ByteArray) (data : List UInt8) (w : World) (h : MB w iv dv ⟨k, s, n, mm, ids, data⟩) : Calls Tryd.prog 10 #[.agg #[.int .i64 k, .int .i64 s, .int .i64 n, .int .i64 mm, iv, dv]] w fun e w' => e = .returned (.agg #[.int .i64 k, .int .i64 s, .int .i64 n, .int .i64 mm, iv, dv]) ∧ St w w' [] [] := plain_any iv dv ⟨k, s, n, mm, ids, data⟩ w h
theorem rsame_self (k s n mm : Int) (iv dv iv' dv' : Value) (ids : List ByteArray) (data : List UInt8) (w : World) (h : MB w iv dv ⟨k, s, n, mm, ids, data⟩) (h' : MB w iv' dv' ⟨k, s, n, mm, ids, data⟩) : Calls Tryd.prog 17 #[.agg #[.int .i64 k, .int .i64 s, .int .i64 n, .int .i64 mm, iv, dv], .agg #[.int .i64 k, .int .i64 s, .int .i64 n, .int .i64 mm, iv', dv']] w fun e w' => e = .returned (.bool true) ∧ St w w' [] [] :=
  (rsameP_any iv dv iv' dv' ⟨k, s, n, mm, ids, data⟩ ⟨k, s, n, mm, ids, data⟩ w h h').mono fun e w' he => by rw [decide_eq_true rfl] at he; exact he
theorem bytes_self (v v' : Value) (l : List UInt8) (w : World) (hv : Sl w 1 v l.length (bs l)) (hv' : Sl w 1 v' l.length (bs l)) :
    Calls Tryd.prog 14 #[v, v'] w fun e w' => e = .returned (.bool true) ∧ w = w' :=
  (bytes_any v v' l l w hv hv').mono fun e w' he => by rw [decide_eq_true rfl] at he; exact he
set_option maxRecDepth 200000 in
set_option maxHeartbeats 20000000 in
theorem pktMsgs_any (iv dv : Value) (m : Ms) (w : World) (hm : MB w iv dv m) (hmz : MZ m) (iv' dv' : Value) (m' : Ms) (hm' : MB w iv' dv' m') (hmz' : MZ m') (v : Value) (b : List UInt8) (hv : Sl w 1 v b.length (bs b)) (hL : LdP w) :
    Calls Tryd.prog 3 #[MV iv dv m, MV iv' dv' m', v] w fun e w' => e = .returned (.bool true) ∧ Below w.heap.size w w' := by
  have HFa := Mx.hid (fun wx (h : St w wx [] []) => few_any iv dv m wx (hm.old h))
  have HFb := Mx.hid (fun wx (h : St w wx [] []) => few_any iv' dv' m' wx (hm'.old h))
  have HL := Mx.hid (fun wx (h : St w wx [] []) => hL.keep h)
  have HA := Mx.hid hm
  have HB := Mx.hid hm'
  have HZA := Mx.hid (fun x (hx : x ∈ m.ids) => (show x.size ≤ 140737488355328 by have := hmz.i x hx; omega))
  have HZB := Mx.hid (fun x (hx : x ∈ m'.ids) => (show x.size ≤ 140737488355328 by have := hmz'.i x hx; omega))
  have HV := Mx.hid hv
  obtain ⟨ba, bc, rfl, hbc, hbm, _⟩ := hv.form
  unfold maxLen at hbm
  obtain ⟨ka, sa, na, ma, ia, da⟩ := m
  obtain ⟨kb, sb, nb, mb, ib, db⟩ := m'
  have hi := hm.i
  have hd := hm.d
  have hi' := hm'.i
  have hd' := hm'.d
  simp only [] at hi hd hi' hd'
  obtain ⟨i1, i2, rfl, -⟩ := hi.form
  obtain ⟨d1, d2, rfl, -⟩ := hd.form
  obtain ⟨j1, j2, rfl, -⟩ := hi'.form
  obtain ⟨e1, e2, rfl, -⟩ := hd'.form
  simp only [MV] at *
  clear hm hm' hmz hmz' hv hL hi hd hi' hd'
  go_enter Tryd.func3, Tryd.ntmps3
  go_upto_region 1 with (first | (((with_reducible show wpList _ _ _ _ _ _); refine wpl_box rfl 25 _ rfl (St.refl w) ([.int .i64 ka, .int .i64 sa, .int .i64 na, .int .i64 ma, .slice i1 ia.length i2, .slice d1 da.length d2]) (by rfl) ?_; intro gx wx hsx)) | (((with_reducible show wpList _ _ _ _ _ _); refine wpl_box rfl 25 _ rfl hsx ([.int .i64 kb, .int .i64 sb, .int .i64 nb, .int .i64 mb, .slice j1 ib.length j2, .slice e1 db.length e2]) (by rfl) ?_; intro gy wy hsy)))
  go_wp2_with (first | (go_at_call 6; refine (firstPkt_any _).mono ?_; rintro e wf ⟨rfl, hkf⟩; replace hsy := hsy.call0 hkf; clear hkf) | (first | ((with_reducible show wpList _ _ _ _ _ _); refine wpl_loadA rfl 25 _ rfl Tryd.aMsg (gx) (0) rfl ([.int .i64 ka, .int .i64 sa, .int .i64 na, .int .i64 ma, .slice i1 ia.length i2, .slice d1 da.length d2]) rfl (VC6.of hsy (List.mem_cons_of_mem _ (List.mem_cons_self ..))) ?_) | ((with_reducible show wpList _ _ _ _ _ _); refine wpl_loadA rfl 25 _ rfl Tryd.aMsg (gy) (0) rfl ([.int .i64 kb, .int .i64 sb, .int .i64 nb, .int .i64 mb, .slice j1 ib.length j2, .slice e1 db.length e2]) rfl (VC6.of hsy (List.mem_cons_self ..)) ?_)))
  refine (HFa.out _ hsy.bare).mono ?_
  rintro e w3 ⟨fa, rfl, hk, hfa⟩
  replace hsy := hsy.call0 hk
  clear hk
  cases fa with
  | false =>
    go_wp2_with (first | ((with_reducible show wpList _ _ _ _ _ _); refine wpl_want rfl ?_) | (go_at_call 6; refine (firstPkt_any _).mono ?_; rintro e wf ⟨rfl, hkf⟩; replace hsy := hsy.call0 hkf; clear hkf))
    go_ret
    exact ⟨rfl, hsy.below⟩
  | true =>
  go_wp2_with (first | ((with_reducible show wpList _ _ _ _ _ _); refine wpl_want rfl ?_) | (first | ((with_reducible show wpList _ _ _ _ _ _); refine wpl_loadA rfl 25 _ rfl Tryd.aMsg (gx) (0) rfl ([.int .i64 ka, .int .i64 sa, .int .i64 na, .int .i64 ma, .slice i1 ia.length i2, .slice d1 da.length d2]) rfl (VC6.of hsy (List.mem_cons_of_mem _ (List.mem_cons_self ..))) ?_) | ((with_reducible show wpList _ _ _ _ _ _); refine wpl_loadA rfl 25 _ rfl Tryd.aMsg (gy) (0) rfl ([.int .i64 kb, .int .i64 sb, .int .i64 nb, .int .i64 mb, .slice j1 ib.length j2, .slice e1 db.length e2]) rfl (VC6.of hsy (List.mem_cons_self ..)) ?_)))
  refine (HFb.out _ hsy.bare).mono ?_
  rintro e w4 ⟨fb, rfl, hk, hfb⟩
  replace hsy := hsy.call0 hk
  clear hk
  cases fb with
  | false =>
    go_wp2_with (first | ((with_reducible show wpList _ _ _ _ _ _); refine wpl_want rfl ?_) | (go_at_call 6; refine (firstPkt_any _).mono ?_; rintro e wf ⟨rfl, hkf⟩; replace hsy := hsy.call0 hkf; clear hkf))
    go_ret
    exact ⟨rfl, hsy.below⟩
  | true =>
  by_cases hbl : 70000 < b.length
  · have q3 : decide ((70000 : Int) < (b.length : Int)) = true := decide_eq_true (by omega)
    have q4 : decide (70000 < b.length) = true := decide_eq_true (by omega)
    clear hfa hfb
    go_wp2_with (first | ((with_reducible show wpList _ _ _ _ _ _); refine wpl_want rfl ?_) | (go_at_call 6; refine (firstPkt_any _).mono ?_; rintro e wf ⟨rfl, hkf⟩; replace hsy := hsy.call0 hkf; clear hkf))
    go_ret
    exact ⟨rfl, hsy.below⟩
  have q3 : decide ((70000 : Int) < (b.length : Int)) = false := decide_eq_false (by omega)
  have q4 : decide (70000 < b.length) = false := decide_eq_false (by omega)
  have HBL := Mx.hid (show b.length ≤ 70000 by omega)
  clear hfa hfb hbl HFa HFb hsx
  go_wp2_with (first | ((with_reducible show wpList _ _ _ _ _ _); refine wpl_want rfl ?_))
  refine (copyBytes_any _ b _ (hsy.old HV.out) (by have := HBL.out; omega)).mono ?_
  rintro e w5 ⟨vn, rfl, hk⟩
  obtain ⟨na', nc', rfl, _⟩ := id hk.sl0
  have hs1 := (hsy.call1 hk).freeze
  simp only [] at hs1
  clear hk hsy
  go_wp2_with (first | ((with_reducible show wpList _ _ _ _ _ _); refine wpl_want rfl ?_) | ((with_reducible show wpList _ _ _ _ _ _); refine wpl_loadA rfl 25 _ rfl Tryd.aMsg (gx) (0) rfl ([.int .i64 ka, .int .i64 sa, .int .i64 na, .int .i64 ma, .slice i1 ia.length i2, .slice d1 da.length d2]) rfl (VC6.of hs1 (List.mem_cons_of_mem _ (List.mem_cons_self ..))) ?_))
  refine (encU (encP_any _ _ ⟨ka, sa, na, ma, ia, da⟩ _ (MB.old hs1 HA.out) HZA.out (HL.out _ hs1.bare))).mono ?_
  rintro e w6 ⟨vx, rfl, hk⟩
  obtain ⟨xa, xc, rfl, _⟩ := id hk.sl0
  have hs2 := (hs1.call1 hk).freeze
  simp only [] at hs2
  clear hk hs1
  go_wp2_with (first | ((with_reducible show wpList _ _ _ _ _ _); refine wpl_want rfl ?_) | ((with_reducible show wpList _ _ _ _ _ _); refine wpl_loadA rfl 25 _ rfl Tryd.aMsg (gx) (0) rfl ([.int .i64 ka, .int .i64 sa, .int .i64 na, .int .i64 ma, .slice i1 ia.length i2, .slice d1 da.length d2]) rfl (VC6.of hs2 (List.mem_cons_of_mem _ (List.mem_cons_self ..))) ?_))
  refine (plain_c _ _ _ _ _ _ ia da _ (MB.old hs2 HA.out)).mono ?_
  rintro e w7 ⟨rfl, hk⟩
  have hs3 := hs2.call0 hk
  clear hk hs2
  go_wp2_with fail
  refine (encU (rencP_any _ _ ⟨ka, sa, na, ma, ia, da⟩ _ (MB.old hs3 HA.out) HZA.out)).mono ?_
  rintro e w8 ⟨vy, rfl, hk⟩
  obtain ⟨ya, yc, rfl, _⟩ := id hk.sl0
  have hs4 := (hs3.call1 hk).freeze
  simp only [] at hs4
  clear hk hs3
  generalize eM ⟨ka, sa, na, ma, ia, da⟩ = EB at *
  generalize eN ⟨ka, sa, na, ma, ia, da⟩ = EE at *
  go_wp2_with fail
  refine (decP_any _ b _ hs4.q2 (by have := HBL.out; omega) (HL.out _ hs4.bare)).mono ?_
  rintro e w9 ⟨vi, vd, M, er, rfl, hk, hMB, hdec⟩
  have hs5 := hs4.call0 hk
  obtain ⟨kq, sq, nq, mq, iq, dq⟩ := M
  have hqi := hMB.i
  have hqd := hMB.d
  simp only [] at hqi hqd
  obtain ⟨qi1, qi2, rfl, _⟩ := id hqi
  obtain ⟨qd1, qd2, rfl, _⟩ := id hqd
  have HDEC := Mx.hid hdec
  simp only [MV] at *
  clear hk hs4 hqi hqd hdec
  go_wp2_with (((with_reducible show wpList _ _ _ _ _ _); refine wpl_storeA rfl 25 _ _ rfl Tryd.aMsg ((St.refl w9).madeAt ([.int .i64 0, .int .i64 0, .int .i64 0, .int .i64 0, .slice none 0 0, .slice none 0 0]).toArray 25 6 1 _ rfl (by simp [maxLen]) rfl) (0) rfl ([.int .i64 kq, .int .i64 sq, .int .i64 nq, .int .i64 mq, .slice qi1 iq.length qi2, .slice qd1 dq.length qd2]) rfl (by rfl) (by simp) (by intro u hu; simp at hu; rcases hu with rfl | rfl | rfl | rfl | rfl | rfl <;> rfl) ?_; intro w10 hk10))
  replace hk10 := hk10.cast rfl (show _ = [.int .i64 kq, .int .i64 sq, .int .i64 nq, .int .i64 mq, .slice qi1 iq.length qi2, .slice qd1 dq.length qd2] by simp)
  generalize w9.heap.size = gq at *
  have hs6 := hs5.call1 hk10
  replace hMB := hMB.old hk10
  clear hs5 hk10
  refine (rdecP_any _ b _ (hs6.old HV.out) (by have := HBL.out; omega)).mono ?_
  rintro e w11 ⟨vi2, vd2, M2, er2, rfl, hk, hMR, hdec⟩
  obtain ⟨hMM, hEE⟩ := DecM.uniq hdec HDEC.out
  subst hMM hEE
  have hs7 := hs6.call0 hk
  replace hMB := hMB.old hk
  have hqi := hMR.i
  have hqd := hMR.d
  simp only [] at hqi hqd
  obtain ⟨ri1, ri2, rfl, _⟩ := id hqi
  obtain ⟨rd1, rd2, rfl, _⟩ := id hqd
  simp only [MV] at *
  clear hk hs6 hqi hqd hdec HDEC
  go_wp2_with (((with_reducible show wpList _ _ _ _ _ _); refine wpl_storeA rfl 32 _ _ rfl Tryd.aMsgR ((St.refl w11).madeAt ([.int .i64 0, .int .i64 0, .int .i64 0, .int .i64 0, .slice none 0 0, .slice none 0 0]).toArray 32 6 1 _ rfl (by simp [maxLen]) rfl) (0) rfl ([.int .i64 kq, .int .i64 sq, .int .i64 nq, .int .i64 mq, .slice ri1 iq.length ri2, .slice rd1 dq.length rd2]) rfl (by rfl) (by simp) (by intro u hu; simp at hu; rcases hu with rfl | rfl | rfl | rfl | rfl | rfl <;> rfl) ?_; intro w12 hk12))
  replace hk12 := hk12.cast rfl (show _ = [.int .i64 kq, .int .i64 sq, .int .i64 nq, .int .i64 mq, .slice ri1 iq.length ri2, .slice rd1 dq.length rd2] by simp)
  generalize w11.heap.size = gr at *
  have hs8 := hs7.call1 hk12
  replace hMB := hMB.old hk12
  replace hMR := hMR.old hk12
  clear hs7 hk12
  have HS := Mx.hid (fun (wx : World) (R : List Row) (Q : List Rd) (h : St w12 wx R Q) => (show VC6 gx [.int .i64 ka, .int .i64 sa, .int .i64 na, .int .i64 ma, .slice i1 ia.length i2, .slice d1 da.length d2] wx ∧ VC6 gy [.int .i64 kb, .int .i64 sb, .int .i64 nb, .int .i64 mb, .slice j1 ib.length j2, .slice e1 db.length e2] wx ∧ VC6 gq [.int .i64 kq, .int .i64 sq, .int .i64 nq, .int .i64 mq, .slice qi1 iq.length qi2, .slice qd1 dq.length qd2] wx ∧ VC6 gr [.int .i64 kq, .int .i64 sq, .int .i64 nq, .int .i64 mq, .slice ri1 iq.length ri2, .slice rd1 dq.length rd2] wx from
    ⟨VC6.keep (VC6.of (g := gx) (cs := [.int .i64 ka, .int .i64 sa, .int .i64 na, .int .i64 ma, .slice i1 ia.length i2, .slice d1 da.length d2]) hs8 (by repeat (first | exact List.mem_cons_self .. | apply List.mem_cons_of_mem))) h, VC6.keep (VC6.of (g := gy) (cs := [.int .i64 kb, .int .i64 sb, .int .i64 nb, .int .i64 mb, .slice j1 ib.length j2, .slice e1 db.length e2]) hs8 (by repeat (first | exact List.mem_cons_self .. | apply List.mem_cons_of_mem))) h, VC6.keep (VC6.of (g := gq) (cs := [.int .i64 kq, .int .i64 sq, .int .i64 nq, .int .i64 mq, .slice qi1 iq.length qi2, .slice qd1 dq.length qd2]) hs8 (by repeat (first | exact List.mem_cons_self .. | apply List.mem_cons_of_mem))) h, VC6.keep (VC6.of (g := gr) (cs := [.int .i64 kq, .int .i64 sq, .int .i64 nq, .int .i64 mq, .slice ri1 iq.length ri2, .slice rd1 dq.length rd2]) hs8 (by repeat (first | exact List.mem_cons_self .. | apply List.mem_cons_of_mem))) h⟩))
  have HA2 := Mx.hid (MB.old hs8 HA.out)
  have HB2 := Mx.hid (MB.old hs8 HB.out)
  have HQ2 := Mx.hid hMB
  have HR2 := Mx.hid hMR
  have HX2 := Mx.hid (And.intro hs8.q1 (And.intro hs8.q0 (And.intro hs8.q2 (hs8.old HV.out))))
  have HK := Mx.hid hs8.bare
  have HZA2 := Mx.hid HZA.out
  clear hs8 HA HB HV HBL hMB hMR HZB HL
  have h0 := (St.refl w12).drew
  (refine wp_region_S (46) (fun W' => VC6 gx [.int .i64 ka, .int .i64 sa, .int .i64 na, .int .i64 ma, .slice i1 ia.length i2, .slice d1 da.length d2] W' ∧ VC6 gy [.int .i64 kb, .int .i64 sb, .int .i64 nb, .int .i64 mb, .slice j1 ib.length j2, .slice e1 db.length e2] W' ∧ VC6 gq [.int .i64 kq, .int .i64 sq, .int .i64 nq, .int .i64 mq, .slice qi1 iq.length qi2, .slice qd1 dq.length qd2] W' ∧ VC6 gr [.int .i64 kq, .int .i64 sq, .int .i64 nq, .int .i64 mq, .slice ri1 iq.length ri2, .slice rd1 dq.length rd2] W') (by kernel_rfl) ?_ (fun hHeld => ?_); (focus ((try dsimp only); exact HS.out _ _ _ h0)))
  (refine wpAnyS_ready (rs := [0]) (by kernel_rfl) (by simp) ?_; refine AllS.consL rfl (fun K hK => ?_) AllS.nil)
  (go_simp; go_at_call 6; refine (firstPkt_any _).mono ?_; rintro e w' ⟨rfl, hk1⟩; go_wp2_with fail)
  have h1 := h0.call0 hk1
  (refine hK.out _ _ ?_ (fun hHeld => ?_); (focus ((try dsimp only); exact HS.out _ _ _ h1)); clear hK K; (try simp only [Act.put, List.setIfInBounds_toArray, List.set_cons_zero, List.set_cons_succ]))
  (refine wpAnyS_takeL (i := 1) (v := ?_) rfl (by kernel_rfl) (by kernel_rfl) (by kernel_rfl) (by kernel_rfl) (by kernel_rfl) (by kernel_rfl) (fun _ _ _ h => h) (Or.inl ⟨by rfl, ?_⟩) hHeld ?_; rotate_left 1; (focus (intro w' hSw; (try dsimp only at hSw); go_simp; (try with_reducible rfl))); (try simp only [Act.put, List.setIfInBounds_toArray, List.set_cons_zero, List.set_cons_succ]))
  (refine wpAnyS_takeL (i := 2) (v := ?_) rfl (by kernel_rfl) (by kernel_rfl) (by kernel_rfl) (by kernel_rfl) (by kernel_rfl) (by kernel_rfl) (fun _ _ _ h => h) (Or.inl ⟨by rfl, ?_⟩) hHeld ?_; rotate_left 1; (focus (intro w' hSw; (try dsimp only at hSw); go_simp; (try with_reducible rfl))); (try simp only [Act.put, List.setIfInBounds_toArray, List.set_cons_zero, List.set_cons_succ]))
  (refine wpAnyS_takeL (i := 3) (v := ?_) rfl (by kernel_rfl) (by kernel_rfl) (by kernel_rfl) (by kernel_rfl) (by kernel_rfl) (by kernel_rfl) (fun _ _ _ h => h) (Or.inl ⟨by rfl, ?_⟩) hHeld ?_; rotate_left 1; (focus (intro w' hSw; (try dsimp only at hSw); go_simp; (try with_reducible rfl))); (try simp only [Act.put, List.setIfInBounds_toArray, List.set_cons_zero, List.set_cons_succ]))
  (refine wpAnyS_ready (rs := [4]) (by kernel_rfl) (by simp) ?_; refine AllS.consL rfl (fun K hK => ?_) AllS.nil)
  (go_simp; go_at_call 14; refine (bytes_self _ _ EB _ (h1.old HX2.out.1) (h1.old HX2.out.2.1)).mono ?_; rintro e w' ⟨rfl, rfl⟩; go_wp2_with fail)
  (refine hK.out _ _ ?_ (fun hHeld => ?_); (focus ((try dsimp only); exact HS.out _ _ _ h1)); clear hK K; (try simp only [Act.put, List.setIfInBounds_toArray, List.set_cons_zero, List.set_cons_succ]))
  (refine wpAnyS_takeL (i := 5) (v := ?_) rfl (by kernel_rfl) (by kernel_rfl) (by kernel_rfl) (by kernel_rfl) (by kernel_rfl) (by kernel_rfl) (fun _ _ _ h => h) (Or.inl ⟨by rfl, ?_⟩) hHeld ?_; rotate_left 1; (focus (intro w' hSw; (try dsimp only at hSw); go_simp; (try with_reducible rfl))); (try simp only [Act.put, List.setIfInBounds_toArray, List.set_cons_zero, List.set_cons_succ]))
  (refine wpAnyS_takeL (i := 6) (v := ?_) rfl (by kernel_rfl) (by kernel_rfl) (by kernel_rfl) (by kernel_rfl) (by kernel_rfl) (by kernel_rfl) (fun _ _ _ h => h) (Or.inl ⟨by rfl, ?_⟩) hHeld ?_; rotate_left 1; (focus (intro w' hSw; (try dsimp only at hSw); go_simp; (try with_reducible rfl))); (try simp only [Act.put, List.setIfInBounds_toArray, List.set_cons_zero, List.set_cons_succ]))
  (refine wpAnyS_takeL (i := 7) (v := ?_) rfl (by kernel_rfl) (by kernel_rfl) (by kernel_rfl) (by kernel_rfl) (by kernel_rfl) (by kernel_rfl) (fun _ _ _ h => h) (Or.inl ⟨by rfl, ?_⟩) hHeld ?_; rotate_left 1; (focus (intro w' hSw; (try dsimp only at hSw); go_simp; (try with_reducible rfl))); (try simp only [Act.put, List.setIfInBounds_toArray, List.set_cons_zero, List.set_cons_succ]))
  (refine wpAnyS_takeL (i := 8) (v := ?_) rfl (by kernel_rfl) (by kernel_rfl) (by kernel_rfl) (by kernel_rfl) (by kernel_rfl) (by kernel_rfl) (fun _ _ _ h => h) (Or.inl ⟨by rfl, ?_⟩) hHeld ?_; rotate_left 1; (focus (intro w' hSw; (try dsimp only at hSw); go_simp; (try with_reducible rfl))); (try simp only [Act.put, List.setIfInBounds_toArray, List.set_cons_zero, List.set_cons_succ]))
  (refine wpAnyS_takeL (i := 9) (v := ?_) rfl (by kernel_rfl) (by kernel_rfl) (by kernel_rfl) (by kernel_rfl) (by kernel_rfl) (by kernel_rfl) (fun _ _ _ h => h) (Or.inl ⟨by rfl, ?_⟩) hHeld ?_; rotate_left 1; (focus (intro w' hSw; (try dsimp only at hSw); go_simp; (try with_reducible rfl))); (try simp only [Act.put, List.setIfInBounds_toArray, List.set_cons_zero, List.set_cons_succ]))
  (refine wpAnyS_takeL (i := 10) (v := ?_) rfl (by kernel_rfl) (by kernel_rfl) (by kernel_rfl) (by kernel_rfl) (by kernel_rfl) (by kernel_rfl) (fun _ _ _ h => h) (Or.inl ⟨by rfl, ?_⟩) hHeld ?_; rotate_left 1; (focus (intro w' hSw; (try dsimp only at hSw); go_simp; (try with_reducible rfl))); (try simp only [Act.put, List.setIfInBounds_toArray, List.set_cons_zero, List.set_cons_succ]))
  (refine wpAnyS_takeL (i := 11) (v := ?_) rfl (by kernel_rfl) (by kernel_rfl) (by kernel_rfl) (by kernel_rfl) (by kernel_rfl) (by kernel_rfl) (fun _ _ _ h => h) (Or.inl ⟨by rfl, ?_⟩) hHeld ?_; rotate_left 1; (focus (intro w' hSw; (try dsimp only at hSw); go_simp; (try with_reducible rfl))); (try simp only [Act.put, List.setIfInBounds_toArray, List.set_cons_zero, List.set_cons_succ]))
  (refine wpAnyS_takeL (i := 12) (v := ?_) rfl (by kernel_rfl) (by kernel_rfl) (by kernel_rfl) (by kernel_rfl) (by kernel_rfl) (by kernel_rfl) (fun _ _ _ h => h) (Or.inl ⟨by rfl, ?_⟩) hHeld ?_; rotate_left 1; (focus (intro w' hSw; (try dsimp only at hSw); have y0 := hSw.1 0 _ rfl; have y1 := hSw.1 1 _ rfl; have y2 := hSw.1 2 _ rfl; have y3 := hSw.1 3 _ rfl; have y4 := hSw.1 4 _ rfl; have y5 := hSw.1 5 _ rfl; simp only [Nat.zero_add] at y0 y1 y2 y3 y4 y5; go_simp; (try with_reducible rfl))); (try simp only [Act.put, List.setIfInBounds_toArray, List.set_cons_zero, List.set_cons_succ]))
  (refine wpAnyS_takeL (i := 14) (v := ?_) rfl (by kernel_rfl) (by kernel_rfl) (by kernel_rfl) (by kernel_rfl) (by kernel_rfl) (by kernel_rfl) (fun _ _ _ h => h) (Or.inl ⟨by rfl, ?_⟩) hHeld ?_; rotate_left 1; (focus (intro w' hSw; (try dsimp only at hSw); have y0 := hSw.1 0 _ rfl; have y1 := hSw.1 1 _ rfl; have y2 := hSw.1 2 _ rfl; have y3 := hSw.1 3 _ rfl; have y4 := hSw.1 4 _ rfl; have y5 := hSw.1 5 _ rfl; simp only [Nat.zero_add] at y0 y1 y2 y3 y4 y5; go_simp; (try with_reducible rfl))); (try simp only [Act.put, List.setIfInBounds_toArray, List.set_cons_zero, List.set_cons_succ]))
  (refine wpAnyS_ready (rs := [13]) (by kernel_rfl) (by simp) ?_; refine AllS.consL rfl (fun K hK => ?_) AllS.nil)
  (go_simp; go_at_call 15; refine (mayP_any _ _ ⟨ka, sa, na, ma, ia, da⟩ _ (MB.old h1 HA2.out) HZA2.out).mono ?_; rintro e w' ⟨rfl, hk2⟩; go_wp2_with fail)
  have h2 := h1.call0 hk2
  (refine hK.out _ _ ?_ (fun hHeld => ?_); (focus ((try dsimp only); exact HS.out _ _ _ h2)); clear hK K; (try simp only [Act.put, List.setIfInBounds_toArray, List.set_cons_zero, List.set_cons_succ]))
  (refine wpAnyS_ready (rs := [15]) (by kernel_rfl) (by simp) ?_; refine AllS.consL rfl (fun K hK => ?_) AllS.nil)
  (go_simp; go_at_call 10; refine (plain_c _ _ _ _ _ _ ia da _ (MB.old h2 HA2.out)).mono ?_; rintro e w' ⟨rfl, hk3⟩; go_wp2_with fail)
  have h3 := h2.call0 hk3
  (refine hK.out _ _ ?_ (fun hHeld => ?_); (focus ((try dsimp only); exact HS.out _ _ _ h3)); clear hK K; (try simp only [Act.put, List.setIfInBounds_toArray, List.set_cons_zero, List.set_cons_succ]))
  (refine wpAnyS_ready (rs := [16]) (by kernel_rfl) (by simp) ?_; refine AllS.consL rfl (fun K hK => ?_) AllS.nil)
  (go_simp; go_at_call 16; refine (rmayP_any _ _ ⟨ka, sa, na, ma, ia, da⟩ _ (MB.old h3 HA2.out) HZA2.out).mono ?_; rintro e w' ⟨rfl, hk4⟩; go_wp2_with fail)
  have h4 := h3.call0 hk4
  clear hk2 hk3 h3 h2 h1
  (refine hK.out _ _ ?_ (fun hHeld => ?_); (focus ((try dsimp only); exact HS.out _ _ _ h4)); clear hK K; (try simp only [Act.put, List.setIfInBounds_toArray, List.set_cons_zero, List.set_cons_succ]))
  (refine wpAnyS_takeL (i := 17) (v := ?_) rfl (by kernel_rfl) (by kernel_rfl) (by kernel_rfl) (by kernel_rfl) (by kernel_rfl) (by kernel_rfl) (fun _ _ _ h => h) (Or.inl ⟨by rfl, ?_⟩) hHeld ?_; rotate_left 1; (focus (intro w' hSw; (try dsimp only at hSw); go_simp; (try with_reducible rfl))); (try simp only [Act.put, List.setIfInBounds_toArray, List.set_cons_zero, List.set_cons_succ]))
  (refine wpAnyS_takeL (i := 18) (v := ?_) rfl (by kernel_rfl) (by kernel_rfl) (by kernel_rfl) (by kernel_rfl) (by kernel_rfl) (by kernel_rfl) (fun _ _ _ h => h) (Or.inl ⟨by rfl, ?_⟩) hHeld ?_; rotate_left 1; (focus (intro w' hSw; (try dsimp only at hSw); go_simp; (try with_reducible rfl))); (try simp only [Act.put, List.setIfInBounds_toArray, List.set_cons_zero, List.set_cons_succ]))
  (refine wpAnyS_takeL (i := 19) (v := ?_) rfl (by kernel_rfl) (by kernel_rfl) (by kernel_rfl) (by kernel_rfl) (by kernel_rfl) (by kernel_rfl) (fun _ _ _ h => h) (Or.inl ⟨by rfl, ?_⟩) hHeld ?_; rotate_left 1; (focus (intro w' hSw; (try dsimp only at hSw); go_simp; (try with_reducible rfl))); (try simp only [Act.put, List.setIfInBounds_toArray, List.set_cons_zero, List.set_cons_succ]))
  (refine wpAnyS_takeL (i := 20) (v := ?_) rfl (by kernel_rfl) (by kernel_rfl) (by kernel_rfl) (by kernel_rfl) (by kernel_rfl) (by kernel_rfl) (fun _ _ _ h => h) (Or.inl ⟨by rfl, ?_⟩) hHeld ?_; rotate_left 1; (focus (intro w' hSw; (try dsimp only at hSw); have y0 := hSw.2.2.1 0 _ rfl; have y1 := hSw.2.2.1 1 _ rfl; have y2 := hSw.2.2.1 2 _ rfl; have y3 := hSw.2.2.1 3 _ rfl; have y4 := hSw.2.2.1 4 _ rfl; have y5 := hSw.2.2.1 5 _ rfl; simp only [Nat.zero_add] at y0 y1 y2 y3 y4 y5; go_simp; (try with_reducible rfl))); (try simp only [Act.put, List.setIfInBounds_toArray, List.set_cons_zero, List.set_cons_succ]))
  (refine wpAnyS_takeL (i := 22) (v := ?_) rfl (by kernel_rfl) (by kernel_rfl) (by kernel_rfl) (by kernel_rfl) (by kernel_rfl) (by kernel_rfl) (fun _ _ _ h => h) (Or.inl ⟨by rfl, ?_⟩) hHeld ?_; rotate_left 1; (focus (intro w' hSw; (try dsimp only at hSw); have y0 := hSw.2.2.2 0 _ rfl; have y1 := hSw.2.2.2 1 _ rfl; have y2 := hSw.2.2.2 2 _ rfl; have y3 := hSw.2.2.2 3 _ rfl; have y4 := hSw.2.2.2 4 _ rfl; have y5 := hSw.2.2.2 5 _ rfl; simp only [Nat.zero_add] at y0 y1 y2 y3 y4 y5; go_simp; (try with_reducible rfl))); (try simp only [Act.put, List.setIfInBounds_toArray, List.set_cons_zero, List.set_cons_succ]))
  (refine wpAnyS_ready (rs := [21]) (by kernel_rfl) (by simp) ?_; refine AllS.consL rfl (fun K hK => ?_) AllS.nil)
  (go_simp; go_at_call 10; refine (plain_c _ _ _ _ _ _ iq dq _ (MB.old h4 HQ2.out)).mono ?_; rintro e w' ⟨rfl, hk5⟩; go_wp2_with fail)
  have h5 := h4.call0 hk5
  (refine hK.out _ _ ?_ (fun hHeld => ?_); (focus ((try dsimp only); exact HS.out _ _ _ h5)); clear hK K; (try simp only [Act.put, List.setIfInBounds_toArray, List.set_cons_zero, List.set_cons_succ]))
  (refine wpAnyS_ready (rs := [23]) (by kernel_rfl) (by simp) ?_; refine AllS.consL rfl (fun K hK => ?_) AllS.nil)
  (go_simp; go_at_call 17; refine (rsame_self _ _ _ _ _ _ _ _ iq dq _ (MB.old h5 HQ2.out) (MB.old h5 HR2.out)).mono ?_; rintro e w' ⟨rfl, hk6⟩; go_wp2_with fail)
  have h6 := h5.call0 hk6
  clear hk5 hk6 h5 h4
  (refine hK.out _ _ ?_ (fun hHeld => ?_); (focus ((try dsimp only); exact HS.out _ _ _ h6)); clear hK K; (try simp only [Act.put, List.setIfInBounds_toArray, List.set_cons_zero, List.set_cons_succ]))
  (refine wpAnyS_takeL (i := 24) (v := ?_) rfl (by kernel_rfl) (by kernel_rfl) (by kernel_rfl) (by kernel_rfl) (by kernel_rfl) (by kernel_rfl) (fun _ _ _ h => h) (Or.inl ⟨by rfl, ?_⟩) hHeld ?_; rotate_left 1; (focus (intro w' hSw; (try dsimp only at hSw); go_simp; (try with_reducible rfl))); (try simp only [Act.put, List.setIfInBounds_toArray, List.set_cons_zero, List.set_cons_succ]))
  (refine wpAnyS_takeL (i := 25) (v := ?_) rfl (by kernel_rfl) (by kernel_rfl) (by kernel_rfl) (by kernel_rfl) (by kernel_rfl) (by kernel_rfl) (fun _ _ _ h => h) (Or.inl ⟨by rfl, ?_⟩) hHeld ?_; rotate_left 1; (focus (intro w' hSw; (try dsimp only at hSw); go_simp; (try with_reducible rfl))); (try simp only [Act.put, List.setIfInBounds_toArray, List.set_cons_zero, List.set_cons_succ]))
  (refine wpAnyS_takeL (i := 26) (v := ?_) rfl (by kernel_rfl) (by kernel_rfl) (by kernel_rfl) (by kernel_rfl) (by kernel_rfl) (by kernel_rfl) (fun _ _ _ h => h) (Or.inl ⟨by rfl, ?_⟩) hHeld ?_; rotate_left 1; (focus (intro w' hSw; (try dsimp only at hSw); go_simp; (try with_reducible rfl))); (try simp only [Act.put, List.setIfInBounds_toArray, List.set_cons_zero, List.set_cons_succ]))
  (refine wpAnyS_takeL (i := 27) (v := ?_) rfl (by kernel_rfl) (by kernel_rfl) (by kernel_rfl) (by kernel_rfl) (by kernel_rfl) (by kernel_rfl) (fun _ _ _ h => h) (Or.inl ⟨by rfl, ?_⟩) hHeld ?_; rotate_left 1; (focus (intro w' hSw; (try dsimp only at hSw); go_simp; (try with_reducible rfl))); (try simp only [Act.put, List.setIfInBounds_toArray, List.set_cons_zero, List.set_cons_succ]))
  (refine wpAnyS_takeL (i := 28) (v := ?_) rfl (by kernel_rfl) (by kernel_rfl) (by kernel_rfl) (by kernel_rfl) (by kernel_rfl) (by kernel_rfl) (fun _ _ _ h => h) (Or.inl ⟨by rfl, ?_⟩) hHeld ?_; rotate_left 1; (focus (intro w' hSw; (try dsimp only at hSw); go_simp; (try with_reducible rfl))); (try simp only [Act.put, List.setIfInBounds_toArray, List.set_cons_zero, List.set_cons_succ]))
  (refine wpAnyS_takeL (i := 29) (v := ?_) rfl (by kernel_rfl) (by kernel_rfl) (by kernel_rfl) (by kernel_rfl) (by kernel_rfl) (by kernel_rfl) (fun _ _ _ h => h) (Or.inl ⟨by rfl, ?_⟩) hHeld ?_; rotate_left 1; (focus (intro w' hSw; (try dsimp only at hSw); go_simp; (try with_reducible rfl))); (try simp only [Act.put, List.setIfInBounds_toArray, List.set_cons_zero, List.set_cons_succ]))
  (refine wpAnyS_takeL (i := 30) (v := ?_) rfl (by kernel_rfl) (by kernel_rfl) (by kernel_rfl) (by kernel_rfl) (by kernel_rfl) (by kernel_rfl) (fun _ _ _ h => h) (Or.inl ⟨by rfl, ?_⟩) hHeld ?_; rotate_left 1; (focus (intro w' hSw; (try dsimp only at hSw); go_simp; (try with_reducible rfl))); (try simp only [Act.put, List.setIfInBounds_toArray, List.set_cons_zero, List.set_cons_succ]))
  (refine wpAnyS_takeL (i := 31) (v := ?_) rfl (by kernel_rfl) (by kernel_rfl) (by kernel_rfl) (by kernel_rfl) (by kernel_rfl) (by kernel_rfl) (fun _ _ _ h => h) (Or.inl ⟨by rfl, ?_⟩) hHeld ?_; rotate_left 1; (focus (intro w' hSw; (try dsimp only at hSw); have y0 := hSw.1 0 _ rfl; have y1 := hSw.1 1 _ rfl; have y2 := hSw.1 2 _ rfl; have y3 := hSw.1 3 _ rfl; have y4 := hSw.1 4 _ rfl; have y5 := hSw.1 5 _ rfl; simp only [Nat.zero_add] at y0 y1 y2 y3 y4 y5; go_simp; (try with_reducible rfl))); (try simp only [Act.put, List.setIfInBounds_toArray, List.set_cons_zero, List.set_cons_succ]))
  (refine wpAnyS_takeL (i := 32) (v := ?_) rfl (by kernel_rfl) (by kernel_rfl) (by kernel_rfl) (by kernel_rfl) (by kernel_rfl) (by kernel_rfl) (fun _ _ _ h => h) (Or.inl ⟨by rfl, ?_⟩) hHeld ?_; rotate_left 1; (focus (intro w' hSw; (try dsimp only at hSw); have y0 := hSw.2.1 0 _ rfl; have y1 := hSw.2.1 1 _ rfl; have y2 := hSw.2.1 2 _ rfl; have y3 := hSw.2.1 3 _ rfl; have y4 := hSw.2.1 4 _ rfl; have y5 := hSw.2.1 5 _ rfl; simp only [Nat.zero_add] at y0 y1 y2 y3 y4 y5; go_simp; (try with_reducible rfl))); (try simp only [Act.put, List.setIfInBounds_toArray, List.set_cons_zero, List.set_cons_succ]))
  (refine wpAnyS_takeL (i := 34) (v := ?_) rfl (by kernel_rfl) (by kernel_rfl) (by kernel_rfl) (by kernel_rfl) (by kernel_rfl) (by kernel_rfl) (fun _ _ _ h => h) (Or.inl ⟨by rfl, ?_⟩) hHeld ?_; rotate_left 1; (focus (intro w' hSw; (try dsimp only at hSw); have y0 := hSw.1 0 _ rfl; have y1 := hSw.1 1 _ rfl; have y2 := hSw.1 2 _ rfl; have y3 := hSw.1 3 _ rfl; have y4 := hSw.1 4 _ rfl; have y5 := hSw.1 5 _ rfl; simp only [Nat.zero_add] at y0 y1 y2 y3 y4 y5; go_simp; (try with_reducible rfl))); (try simp only [Act.put, List.setIfInBounds_toArray, List.set_cons_zero, List.set_cons_succ]))
  (refine wpAnyS_takeL (i := 36) (v := ?_) rfl (by kernel_rfl) (by kernel_rfl) (by kernel_rfl) (by kernel_rfl) (by kernel_rfl) (by kernel_rfl) (fun _ _ _ h => h) (Or.inl ⟨by rfl, ?_⟩) hHeld ?_; rotate_left 1; (focus (intro w' hSw; (try dsimp only at hSw); have y0 := hSw.2.1 0 _ rfl; have y1 := hSw.2.1 1 _ rfl; have y2 := hSw.2.1 2 _ rfl; have y3 := hSw.2.1 3 _ rfl; have y4 := hSw.2.1 4 _ rfl; have y5 := hSw.2.1 5 _ rfl; simp only [Nat.zero_add] at y0 y1 y2 y3 y4 y5; go_simp; (try with_reducible rfl))); (try simp only [Act.put, List.setIfInBounds_toArray, List.set_cons_zero, List.set_cons_succ]))
  (refine wpAnyS_ready (rs := [33]) (by kernel_rfl) (by simp) ?_; refine AllS.consL rfl (fun K hK => ?_) AllS.nil)
  (go_simp; go_at_call 18; refine (sameP_any _ _ _ _ ⟨ka, sa, na, ma, ia, da⟩ ⟨kb, sb, nb, mb, ib, db⟩ _ (MB.old h6 HA2.out) (MB.old h6 HB2.out)).mono ?_; rintro e w' ⟨rfl, hk7⟩; go_wp2_with fail)
  have h7 := h6.call0 hk7
  (refine hK.out _ _ ?_ (fun hHeld => ?_); (focus ((try dsimp only); exact HS.out _ _ _ h7)); clear hK K; (try simp only [Act.put, List.setIfInBounds_toArray, List.set_cons_zero, List.set_cons_succ]))
  (refine wpAnyS_ready (rs := [35]) (by kernel_rfl) (by simp) ?_; refine AllS.consL rfl (fun K hK => ?_) AllS.nil)
  (go_simp; go_at_call 10; refine (plain_c _ _ _ _ _ _ ia da _ (MB.old h7 HA2.out)).mono ?_; rintro e w' ⟨rfl, hk8⟩; go_wp2_with fail)
  have h8 := h7.call0 hk8
  (refine hK.out _ _ ?_ (fun hHeld => ?_); (focus ((try dsimp only); exact HS.out _ _ _ h8)); clear hK K; (try simp only [Act.put, List.setIfInBounds_toArray, List.set_cons_zero, List.set_cons_succ]))
  (refine wpAnyS_ready (rs := [37]) (by kernel_rfl) (by simp) ?_; refine AllS.consL rfl (fun K hK => ?_) AllS.nil)
  (go_simp; go_at_call 10; refine (plain_c _ _ _ _ _ _ ib db _ (MB.old h8 HB2.out)).mono ?_; rintro e w' ⟨rfl, hk9⟩; go_wp2_with fail)
  have h9 := h8.call0 hk9
  (refine hK.out _ _ ?_ (fun hHeld => ?_); (focus ((try dsimp only); exact HS.out _ _ _ h9)); clear hK K; (try simp only [Act.put, List.setIfInBounds_toArray, List.set_cons_zero, List.set_cons_succ]))
  (refine wpAnyS_ready (rs := [38]) (by kernel_rfl) (by simp) ?_; refine AllS.consL rfl (fun K hK => ?_) AllS.nil)
  (go_simp; go_at_call 17; refine (rsameP_any _ _ _ _ ⟨ka, sa, na, ma, ia, da⟩ ⟨kb, sb, nb, mb, ib, db⟩ _ (MB.old h9 HA2.out) (MB.old h9 HB2.out)).mono ?_; rintro e w' ⟨rfl, hk10⟩; go_wp2_with fail)
  have h10 := h9.call0 hk10
  clear hk7 hk8 hk9 hk10 h9 h8 h7 h6
  (refine hK.out _ _ ?_ (fun hHeld => ?_); (focus ((try dsimp only); exact HS.out _ _ _ h10)); clear hK K; (try simp only [Act.put, List.setIfInBounds_toArray, List.set_cons_zero, List.set_cons_succ]))
  (refine wpAnyS_takeL (i := 39) (v := ?_) rfl (by kernel_rfl) (by kernel_rfl) (by kernel_rfl) (by kernel_rfl) (by kernel_rfl) (by kernel_rfl) (fun _ _ _ h => h) (Or.inl ⟨by rfl, ?_⟩) hHeld ?_; rotate_left 1; (focus (intro w' hSw; (try dsimp only at hSw); go_simp; (try with_reducible rfl))); (try simp only [Act.put, List.setIfInBounds_toArray, List.set_cons_zero, List.set_cons_succ]))
  (refine wpAnyS_takeL (i := 40) (v := ?_) rfl (by kernel_rfl) (by kernel_rfl) (by kernel_rfl) (by kernel_rfl) (by kernel_rfl) (by kernel_rfl) (fun _ _ _ h => h) (Or.inl ⟨by rfl, ?_⟩) hHeld ?_; rotate_left 1; (focus (intro w' hSw; (try dsimp only at hSw); go_simp; (try with_reducible rfl))); (try simp only [Act.put, List.setIfInBounds_toArray, List.set_cons_zero, List.set_cons_succ]))
  (refine wpAnyS_takeL (i := 41) (v := ?_) rfl (by kernel_rfl) (by kernel_rfl) (by kernel_rfl) (by kernel_rfl) (by kernel_rfl) (by kernel_rfl) (fun _ _ _ h => h) (Or.inl ⟨by rfl, ?_⟩) hHeld ?_; rotate_left 1; (focus (intro w' hSw; (try dsimp only at hSw); go_simp; (try with_reducible rfl))); (try simp only [Act.put, List.setIfInBounds_toArray, List.set_cons_zero, List.set_cons_succ]))
  (refine wpAnyS_takeL (i := 42) (v := ?_) rfl (by kernel_rfl) (by kernel_rfl) (by kernel_rfl) (by kernel_rfl) (by kernel_rfl) (by kernel_rfl) (fun _ _ _ h => h) (Or.inl ⟨by rfl, ?_⟩) hHeld ?_; rotate_left 1; (focus (intro w' hSw; (try dsimp only at hSw); go_simp; (try with_reducible rfl))); (try simp only [Act.put, List.setIfInBounds_toArray, List.set_cons_zero, List.set_cons_succ]))
  (refine wpAnyS_takeL (i := 43) (v := ?_) rfl (by kernel_rfl) (by kernel_rfl) (by kernel_rfl) (by kernel_rfl) (by kernel_rfl) (by kernel_rfl) (fun _ _ _ h => h) (Or.inl ⟨by rfl, ?_⟩) hHeld ?_; rotate_left 1; (focus (intro w' hSw; (try dsimp only at hSw); go_simp; (try with_reducible rfl))); (try simp only [Act.put, List.setIfInBounds_toArray, List.set_cons_zero, List.set_cons_succ]))
  (refine wpAnyS_ready (rs := [44]) (by kernel_rfl) (by simp) ?_; refine AllS.consL rfl (fun K hK => ?_) AllS.nil)
  (go_simp; go_at_call 14; refine (bytes_self _ _ b _ (h10.old HX2.out.2.2.1) (h10.old HX2.out.2.2.2)).mono ?_; rintro e w' ⟨rfl, rfl⟩; go_wp2_with fail)
  (refine hK.out _ _ ?_ (fun hHeld => ?_); (focus ((try dsimp only); exact HS.out _ _ _ h10)); clear hK K; (try simp only [Act.put, List.setIfInBounds_toArray, List.set_cons_zero, List.set_cons_succ]))
  (refine wpAnyS_takeL (i := 45) (v := ?_) rfl (by kernel_rfl) (by kernel_rfl) (by kernel_rfl) (by kernel_rfl) (by kernel_rfl) (by kernel_rfl) (fun _ _ _ h => h) (Or.inl ⟨by rfl, ?_⟩) hHeld ?_; rotate_left 1; (focus (intro w' hSw; (try dsimp only at hSw); go_simp; (try with_reducible rfl))); (try simp only [Act.put, List.setIfInBounds_toArray, List.set_cons_zero, List.set_cons_succ]))
  (refine wpAnyS_seq (by rfl) (by kernel_rfl) ?_; simp only [List.drop_succ_cons, List.drop_zero])
  go_wp2_with fail
  go_ret
  exact ⟨rfl, (HK.out.call0 h10).below⟩
end Go.Proofs.YtloogjdafhjheaaDoor

namespace Go.Proofs.YtloogjdafhjheaaDoor
open Go.RowKit Go.Mx Go.ChangeShapes Go.WideShapes
theorem pktMsgsRow (iv dv : Value) (m : Ms) {w : World} (hm : MB w iv dv m) (_hi : MI m) (hmz : MZ m) (iv' dv' : Value) (m' : Ms) (hm' : MB w iv' dv' m') (_hi' : MI m') (hmz' : MZ m') (v : Value) (b : List UInt8) (hv : Sl w 1 v b.length (bs b)) (_w : World) (hL : LdP w) :
    Calls Tryd.prog 3 #[MV iv dv m, MV iv' dv' m', v] w fun e w' => e = .returned (.bool true) ∧ Below w.heap.size w w' :=
  pktMsgs_any iv dv m w hm hmz iv' dv' m' hm' hmz' v b hv hL
end Go.Proofs.YtloogjdafhjheaaDoor
