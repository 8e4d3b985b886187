/- The walk of the document's Apply. The walk of the document's Make. bytes.Index, as the shelf tells it, at slices that read as bytes. bytes.Index over the symbolic heap. The walk of match. -/
import Derived.Test.YtlfdnlomlbbicaaDoorJ7WireK
import Derived.Test.YtlfdnlomlbbicaaDoorJ8DelA
import Derived.Test.YtlfdnlomlbbicaaDoorJ3Base
import Derived.Lib.IndexMore
import Derived.Lib.Bytes
import Derived.Test.YtlfdnlomlbbicaaDoorShelf
namespace Go.Proofs.YtlfdnlomlbbicaaDoor
open Go.RowKit Go.Mx

theorem drop_suf {α : Type} (l : List α) (n : Nat) : l.drop n = l.drop (l.length - (l.drop n).length) := by
  rw [List.length_drop]
  by_cases h : n ≤ l.length
  · congr 1; omega
  · rw [List.drop_eq_nil_of_le (by omega), List.drop_eq_nil_of_le (by omega)]
theorem stepR_suf (base : List UInt8) (k : UInt8) (l : List UInt8) : (stepR base k l).2.2 = l.drop (l.length - (stepR base k l).2.2.length) := by
  unfold stepR
  repeat' split
  all_goals simp only [List.drop_drop]
  all_goals first | exact drop_suf _ _ | simp

end Go.Proofs.YtlfdnlomlbbicaaDoor

namespace Go.Proofs.YtlfdnlomlbbicaaDoor
open Go.RowKit Go.Mx

def MakePost (w : World) (base target : List UInt8) (e : Ending) (w' : World) : Prop :=
  ∃ v, e = .returned v ∧ St w w' [⟨v, 5, 1, (makeR base target).length, bs (makeR base target)⟩] []

theorem St.drop1 {w0 w : World} {r q : Row} {R : List Row} {Q : List Rd} (h : St w0 w (r :: q :: R) Q) : St w0 w (r :: R) Q :=
  h.sub (List.Sublist.cons_cons _ (List.sublist_cons_self _ _)) fun _ h => h

theorem flush_cast {w w' : World} {R : List Row} {v : Value} {O I : List UInt8} {p6 : Nat} (h : St w w' (⟨v, 5, 1, O.length + 1 + p6 + I.length, bs O ++ [Value.int IntKind.u8 2] ++ bs (putL I.length) ++ bs I⟩ :: R) [])
    (hne : Hid (I ≠ [])) (hl : (putL I.length).length = p6) : St w w' [⟨v, 5, 1, (O ++ flR I).length, bs (O ++ flR I)⟩] [] :=
  h.head.cast (by rw [flR_ne hne.out]; simp only [List.length_append, List.length_cons, hl]; omega) (by rw [flR_ne hne.out, bs_app, bs_cons, bs_app]; simp)



end Go.Proofs.YtlfdnlomlbbicaaDoor

namespace Go.Mx
open Go Go.RowKit

theorem occAt_iff {s sub : List UInt8} {i : Nat} : Lib.occAt s sub i = true ↔ (s.drop i).take sub.length = sub := by
  unfold Lib.occAt
  rw [List.isPrefixOf_iff_prefix, List.prefix_iff_eq_take]
  exact eq_comm

/-- The cells of a slice of bytes that is not empty, as the shelf asks for them. -/
theorem Sl.shelf {w : World} {v : Value} {n : Nat} {l : List UInt8} (h : Sl w 1 v n (bs l)) (hne : l ≠ []) :
    ∃ a cap, v = .slice (some a) l.length cap ∧ l.length ≤ cap ∧ cap ≤ 9223372036854775807 ∧ (∀ i, i < l.length → w.cell? (a.add i) = some (.int .u8 ((l.map fun x => (x.toNat : Int)).getD i 0))) := by
  obtain ⟨ao, cap, blk, off, rfl, h1, h2, h3, hc⟩ := h.byt
  obtain ⟨rfl, _⟩ := hc 0 (List.length_pos_iff.2 hne)
  subst h3
  refine ⟨_, cap, rfl, h1, h2, fun i hi => ?_⟩
  rw [Addr.add_lit, (hc i hi).2]
  simp [hi]
theorem bytesOf_nat (l : List UInt8) : Lib.bytesOf (l.map fun x => (x.toNat : Int)) = l := by
  unfold Lib.bytesOf
  simp [List.map_map, Function.comp_def]
theorem byteRange (l : List UInt8) : ∀ x ∈ (l.map fun x => (x.toNat : Int)), 0 ≤ x ∧ x < 256 := by
  intro x hx
  obtain ⟨y, _, rfl⟩ := List.mem_map.1 hx
  have := u8_lt y
  omega
end Go.Mx

namespace Go.Proofs.YtlfdnlomlbbicaaDoor
open Go.RowKit Go.Mx

/-- The library's variable that Index reads is a number. -/
def IndexOk (w : World) : Prop := ∃ m : Int, w.cell? ⟨Tryd.lays185_ren.g 1, 0, none⟩ = some (.int .i64 m)
theorem IndexOk.keep {w0 w : World} {R : List Row} {Q : List Rd} (h : IndexOk w0) (hs : St w0 w R Q) : IndexOk w := by
  obtain ⟨m, hm⟩ := h
  exact ⟨m, hs.keep hm⟩
theorem IndexOk.of_shape {w : World} (h : w.ShapedOpen Tryd.prog) : IndexOk w := Tryd.laysM185.s1_3 w h

theorem index_any (w : World) (va vb : Value) (a b : List UInt8) (ha : Sl w 1 va a.length (bs a)) (hb : Sl w 1 vb b.length (bs b)) (hne : a ≠ []) (hne' : b ≠ []) (hs : a.length < 4294967281) (hI : IndexOk w) :
    Calls Tryd.prog 34 #[va, vb] w fun e w' => e = .returned (.int .i64 (Lib.index a b)) ∧ ∃ q, w' = w.drewN q := by
  obtain ⟨m, hm⟩ := hI
  obtain ⟨a1, c1, rfl, h1, h2, h3⟩ := ha.shelf hne
  obtain ⟨a2, c2, rfl, h4, h5, h6⟩ := hb.shelf hne'
  have h := Tryd.bytes_Index_at a1 a2 a.length c1 b.length c2 (a.map fun x => (x.toNat : Int)) (b.map fun x => (x.toNat : Int)) m w (by simp) (by simp) (byteRange a) (byteRange b) h3 h6 h1 hs (by omega) hm
  rw [bytesOf_nat, bytesOf_nat] at h
  exact h
end Go.Proofs.YtlfdnlomlbbicaaDoor

namespace Go.Proofs.YtlfdnlomlbbicaaDoor
open Go.RowKit Go.Mx

theorem index_lcp {base t : List UInt8} {i : Nat} (ht : 8 ≤ t.length) (hi : i ≤ base.length) :
    (Lib.index (base.drop i) (t.take 8) = -1 ∧ ∀ k, i ≤ k → k < base.length → lcp (base.drop k) t < 8) ∨
    ∃ j : Nat, Lib.index (base.drop i) (t.take 8) = (j : Int) ∧ i + j + 8 ≤ base.length ∧ 8 ≤ lcp (base.drop (i + j)) t ∧ ∀ k, i ≤ k → k < i + j → lcp (base.drop k) t < 8 := by
  have hl : (t.take 8).length = 8 := by rw [List.length_take]; omega
  have hne : t.take 8 ≠ [] := by intro h; rw [h] at hl; simp at hl
  have hno : ∀ j, Lib.occAt (base.drop i) (t.take 8) j = false → lcp (base.drop (i + j)) t < 8 := by
    intro j h
    rcases Nat.lt_or_ge (lcp (base.drop (i + j)) t) 8 with h8 | h8
    · exact h8
    · have := (lcp_8 ht).1 h8
      have ho : Lib.occAt (base.drop i) (t.take 8) j = true := occAt_iff.2 (by rw [hl, List.drop_drop, this])
      rw [h] at ho; cases ho
  rcases Lib.index_spec (base.drop i) (t.take 8) with ⟨h1, h2⟩ | ⟨j, h1, h2, h3, h4⟩
  · refine .inl ⟨h1, fun k hk hkb => ?_⟩
    have := hno (k - i) (h2 (k - i) (by rw [List.length_drop]; omega))
    rwa [show i + (k - i) = k by omega] at this
  · have h5 := occAt_iff.1 h3
    rw [hl, List.drop_drop] at h5
    have h8 := (lcp_8 (a := base.drop (i + j)) ht).2 h5
    have hle := lcp_le_left (base.drop (i + j)) t
    rw [List.length_drop] at hle
    refine .inr ⟨j, h1, by omega, h8, fun k hk hkj => ?_⟩
    have := hno (k - i) (h4 (k - i) (by omega))
    rwa [show i + (k - i) = k by omega] at this

theorem mt8_le {base t : List UInt8} {i : Nat} : (mt8 (mtR base t i)).1 ≤ base.length ∧ (mt8 (mtR base t i)).2 ≤ base.length := by
  have := mtR_inv base t i
  unfold mt8
  split
  · exact ⟨this.2.2.1, by omega⟩
  · exact ⟨by simp, by simp⟩

set_option maxHeartbeats 2000000 in
theorem match_any (w : World) (vb vt : Value) (base t : List UInt8) (hb : Sl w 1 vb base.length (bs base)) (ht : Sl w 1 vt t.length (bs t)) (hbl : base.length ≤ 20000) (htl : t.length ≤ 20000) (hI : IndexOk w) :
    Calls Tryd.prog 25 #[vb, vt] w fun e w' => e = .returned (.tuple #[.int .i64 (mcP base t : Int), .int .i64 (mcN base t : Int)]) ∧ St w w' [] [] := by
  by_cases h8 : t.length < 8
  · have hP : mcP base t = 0 := by unfold mcP; rw [mt8_short h8]
    have hN : mcN base t = 0 := by unfold mcN; rw [mt8_short h8]
    rw [hP, hN]
    obtain ⟨to, tc, rfl, _⟩ := ht
    have h8' : (t.length : Int) < 8 := by omega
    generalize htl' : t.length = tl at *
    go_enter Tryd.func25, Tryd.ntmps25
    go_wp2_with fail
    go_ret2
    exact ⟨rfl, St.refl _⟩
  · have h8' : ¬ ((t.length : Int) < 8) := by omega
    have hge : 8 ≤ t.length := by omega
    obtain ⟨yo, yc, p1, q1⟩ := cutT ht hge
    have HY := Mx.hid (q1 w ht)
    have HB := Mx.hid hb
    have HT := Mx.hid ht
    obtain ⟨bo, bc, rfl, _⟩ := id hb
    obtain ⟨to, tc, rfl, _⟩ := id ht
    have HX : Hid ((t.take 8).length = 8) := Mx.hid (by rw [List.length_take]; omega)
    have hHB := fun (i : Nat) (h : i ≤ base.length) => cutD hb h
    have HCB := Mx.hid hHB
    have hix := fun (i : Nat) (h : i ≤ base.length) => index_lcp (base := base) (t := t) hge h
    have HIX := Mx.hid hix
    have p1 : ∀ w', (Instr.sliceAt 25 (.slice to t.length tc) none (some (.int .i64 8)) none).run Tryd.prog w' = .ok (.slice yo 8 yc) w' := p1
    clear q1 hb ht hHB hix
    generalize htl' : t.length = tl at *
    generalize hbl' : base.length = bl at *
    go_enter Tryd.func25, Tryd.ntmps25
    go_wp2_with fail
    go_loopw [6, 7, 8] (fun x y z wr => ∃ (i P N : Nat), i ≤ bl ∧ x = .int .i64 P ∧ y = .int .i64 N ∧ z = .int .i64 i ∧ P ≤ bl ∧ N ≤ bl ∧ Hid (mt8 (mtR base t i) = (P, N)) ∧ St w wr [] []) (fun _ _ z _ => bl - (intOf z).toNat)
    case atStart => exact ⟨0, 0, 0, by omega, rfl, rfl, rfl, by omega, by omega, rfl, St.refl w⟩
    case round =>
      obtain ⟨i, P, N, hi, rfl, rfl, rfl, hP, hN, HM, hs⟩ := hrel
      have hN0 : (0 : Int) ≤ N := by omega
      by_cases hgo : (N : Int) < (bl : Int) - (i : Int)
      · obtain ⟨xo, xc, px, qx⟩ := HCB.out i hi
        have hxl : (base.drop i).length = bl - i := by rw [List.length_drop, hbl']
        have hxn : base.drop i ≠ [] := by intro h; rw [h] at hxl; simp at hxl; omega
        have hyn : t.take 8 ≠ [] := by intro h; have := HX.out; rw [h] at this; simp at this
        have hidx := fun n => index_any (wr.drewN n) _ _ _ _ ((hs.drewN n).old (qx _ HB.out)) ((hs.drewN n).old HY.out) hxn hyn (by omega) (hI.keep (hs.drewN n))
        have HIDX := Mx.hid hidx
        have HQX := Mx.hid qx
        clear hidx qx hxl hxn hyn
        rcases HIX.out i hi with ⟨e1, e2⟩ | ⟨j, e1, e2, e3, e4⟩
        · rw [e1] at HIDX
          have HE := Mx.hid e2
          clear e1 e2
          go_wp2_with fail
          go_quiet ((go_at_call 34; exact Calls.quiet_of (HIDX.out _)))
          go_wp2_with fail
          go_ret2
          have hend : mt8 (mtR base t base.length) = (P, N) := by rw [hbl', mt8_skip hi fun k a b => HE.out k a b, HM.out]
          unfold mcP mcN
          rw [hend]
          exact ⟨rfl, by first | exact hs.drewN _ | exact (hs.drewN _).drew⟩
        · rw [e1] at HIDX
          have HE := Mx.hid (And.intro e3 e4)
          obtain ⟨zo, zc, pz, qz⟩ := HCB.out (i + j) (by omega)
          have hz := Mx.hid (qz _ HB.out)
          have hzl : (base.drop (i + j)).length = bl - (i + j) := by rw [List.length_drop, hbl']
          rw [Int.natCast_add] at pz
          have hzl := Mx.hid hzl
          clear e1 e3 e4 qz
          go_wp2_with fail
          go_quiet ((go_at_call 34; exact Calls.quiet_of (HIDX.out _)))
          have hs2 := hs.drewN nq
          generalize wr.drewN nq = w2 at hs2 ⊢
          go_wp2_with fail
          refine (common_any w2 _ _ (base.drop (i + j)) t (hs2.old hz.out) (hs2.old (by rw [htl']; exact HT.out))).mono ?_
          rintro e w3 ⟨rfl, hk3⟩
          have hs3 := hs2.call0 hk3
          have hst : mt8 (mtR base t (i + j + 1)) = if N < lcp (base.drop (i + j)) t then (i + j, lcp (base.drop (i + j)) t) else (P, N) := by
            rw [mt8_step HE.out.1, mt8_skip (Nat.le_add_right i j) fun k a b => HE.out.2 k a b, HM.out]
          have hlc := lcp_le_left (base.drop (i + j)) t
          rw [hzl.out] at hlc
          have HST := Mx.hid hst
          clear hst
          generalize lcp (base.drop (i + j)) t = n at *
          by_cases hn : N < n
          · have b1 : (N : Int) < (n : Int) := by omega
            go_wp2_with fail
            go_roundw
            case rel => exact ⟨i + j + 1, i + j, n, by omega, by push_cast; rfl, rfl, by push_cast; rfl, by omega, by omega, Mx.hid (by rw [HST.out, if_pos hn]), hs3⟩
            case measure => simp [intOf]; omega
          · have b1 : ¬ ((N : Int) < (n : Int)) := by omega
            go_wp2_with fail
            go_roundw
            case rel => exact ⟨i + j + 1, P, N, by omega, rfl, rfl, by push_cast; rfl, by omega, by omega, Mx.hid (by rw [HST.out, if_neg hn]), hs3⟩
            case measure => simp [intOf]; omega
      · go_wp2_with fail
        go_ret2
        have hend : mt8 (mtR base t base.length) = (P, N) := by rw [mt8_end (i := i) (by omega) (by rw [HM.out]; simp only []; omega), HM.out]
        unfold mcP mcN
        rw [hend]
        exact ⟨rfl, hs⟩
end Go.Proofs.YtlfdnlomlbbicaaDoor
