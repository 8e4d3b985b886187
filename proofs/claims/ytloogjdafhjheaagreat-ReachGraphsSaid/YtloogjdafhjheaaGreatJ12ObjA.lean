/- Walks of slices.Equal over texts and items; obj.Refs, Same. Walks of obj.Refs, Same. A slice of one-cell elements that was cut at its head, over a row that the call owns: its first cell, its rest, appending to it. reach's object, within. -/
import Derived.Test.YtloogjdafhjheaaGreatObjD
import Derived.Test.YtloogjdafhjheaaGreatJ1Lib3
import Derived.Test.YtloogjdafhjheaaGreatJ2ShaW
import Derived.Test.YtloogjdafhjheaaGreatRcT
namespace Go.Proofs.YtloogjdafhjheaaGreat
open Go.RowKit Go.Mx

theorem decode_any (v : Value) (l : List UInt8) (w : World) (hv : Sl w 1 v l.length (bs l)) (hl : l.length ≤ 1000000000) :
    Calls Tryz.prog 46 #[v] w (DecPost w l) := by
  match l, hv, hl with
  | [], hv, _ => exact decode_nil v w hv
  | k :: r, hv, hl => exact decode_cons v k r w hv hl

theorem itm_cells {w : World} {v : Value} {l : List Itm} (hv : Sl w 3 v l.length (itms l)) : ∃ ao cap blk off, v = .slice ao l.length cap ∧ l.length ≤ cap ∧ cap ≤ 9223372036854775807 ∧ ∀ (i : Nat) (hi : i < l.length), ao = some ⟨blk, off, none⟩ ∧ w.cell? ⟨blk, off + i * 3, none⟩ = some (.int .i64 l[i].1) ∧ w.cell? ⟨blk, off + i * 3 + 1, none⟩ = some (.string l[i].2.1) ∧ w.cell? ⟨blk, off + i * 3 + 2, none⟩ = some (.string l[i].2.2) := by
  obtain ⟨ao, cap, blk, off, rfl, hc1, hc2, _, hcell⟩ := hv.anyC
  refine ⟨ao, cap, blk, off, rfl, hc1, hc2, fun i hi => ?_⟩
  have g0 := hcell (i * 3 + 0) _ ((flat_get (k := 3) (fun _ => rfl) l (by omega) hi).trans (show (itmRow l[i])[0]? = some (.int .i64 l[i].1) from rfl))
  have g1 := hcell (i * 3 + 1) _ ((flat_get (k := 3) (fun _ => rfl) l (by omega) hi).trans (show (itmRow l[i])[1]? = some (.string l[i].2.1) from rfl))
  have g2 := hcell (i * 3 + 2) _ ((flat_get (k := 3) (fun _ => rfl) l (by omega) hi).trans (show (itmRow l[i])[2]? = some (.string l[i].2.2) from rfl))
  exact ⟨g0.1, g0.2, g1.2, g2.2⟩

end Go.Proofs.YtloogjdafhjheaaGreat

namespace Go.Mx
open Go Go.RowKit
/-- What an object names. -/
def refsL (o : Ob) : List ByteArray := if o.kind = 2 then o.items.map (fun x => x.2.2) else if o.kind = 3 then o.tree :: o.parents else []
/-- Are two alike? -/
def sameB (a b : Ob) : Bool := (a.kind == b.kind) && (decide (a.data = b.data) && (decide (a.items = b.items) && ((a.tree.toList == b.tree.toList) && (decide (a.parents = b.parents) && ((a.stamp == b.stamp) && ((a.author == b.author) && (a.msg.toList == b.msg.toList)))))))
theorem sameB_iff (a b : Ob) : sameB a b = true ↔ a = b := by
  obtain ⟨k1, d1, i1, t1, p1, s1, a1, m1⟩ := a
  obtain ⟨k2, d2, i2, t2, p2, s2, a2, m2⟩ := b
  unfold sameB
  simp only [Bool.and_eq_true, beq_iff_eq, decide_eq_true_eq, Ob.mk.injEq]
  constructor
  · rintro ⟨h1, h2, h3, h4, h5, h6, h7, h8⟩
    exact ⟨h1, h2, h3, toL_inj h4, h5, h6, h7, toL_inj h8⟩
  · rintro ⟨h1, h2, h3, h4, h5, h6, h7, h8⟩
    exact ⟨h1, h2, h3, by rw [h4], h5, h6, h7, by rw [h8]⟩
end Go.Mx
namespace Go.Proofs.YtloogjdafhjheaaGreat
open Go.RowKit Go.Mx

def RefsPost (w : World) (o : Ob) (e : Ending) (w' : World) : Prop := ∃ v, e = .returned v ∧ St w w' [⟨v, 9, 1, (refsL o).length, ss (refsL o)⟩] []

set_option maxRecDepth 100000 in
set_option maxHeartbeats 2000000 in
theorem refs_any (dv iv pv : Value) (o : Ob) (w : World) (h : OB w dv iv pv o) (hi : o.items.length ≤ 4294967296) (hp : o.parents.length ≤ 4294967296) :
    Calls Tryz.prog 45 #[OV dv iv pv o] w (RefsPost w o) := by
  obtain ⟨d1, d2, rfl, g1, g2, _⟩ := h.d
  obtain ⟨i1, i2, blk, off, hiv, g3, g4, hc⟩ := itm_cells h.i
  subst hiv
  have HP := Mx.hid h.p
  obtain ⟨p1, p2, rfl, g5, g6, _⟩ := h.p
  have HC := Mx.hid hc
  clear hc h
  obtain ⟨kind, data, items, tree, parents, stamp, author, msg⟩ := o
  simp only [OV] at *
  by_cases k2 : kind = 2
  · subst k2
    have HF := Mx.hid (show refsL ⟨2, data, items, tree, parents, stamp, author, msg⟩ = items.map (fun x => x.2.2) by unfold refsL; rw [if_pos rfl])
    go_enter Tryz.func45, Tryz.ntmps45
    go_wp2_with (first | (((with_reducible show wpList _ _ _ _ _ _); refine wpl_box rfl 56 _ rfl (St.refl w) ([.int .i64 2, .slice d1 data.length d2, .slice i1 items.length i2, .string tree, .slice p1 parents.length p2, .int .i64 stamp, .int .i64 author, .string msg]) (by rfl) ?_; intro gx wx hsx); (have x0 := hsx.cell (j := 0) rfl; have x1 := hsx.cell (j := 1) rfl; have x2 := hsx.cell (j := 2) rfl; have x3 := hsx.cell (j := 3) rfl; have x4 := hsx.cell (j := 4) rfl; have x5 := hsx.cell (j := 5) rfl; have x6 := hsx.cell (j := 6) rfl; have x7 := hsx.cell (j := 7) rfl)) | fail)
    go_loopw [3, 13] (fun x y wr => ∃ i : Nat, i ≤ items.length ∧ y = .int .i64 i ∧ St w wr [⟨x, 9, 1, i, ss ((items.take i).map (fun x => x.2.2))⟩, (⟨.slice (some ⟨gx, 0, none⟩) 1 1, 56, 8, 1, [.int .i64 2, .slice d1 data.length d2, .slice i1 items.length i2, .string tree, .slice p1 parents.length p2, .int .i64 stamp, .int .i64 author, .string msg]⟩ : Row)] []) (fun _ y _ => items.length - (intOf y).toNat)
    case atStart => exact ⟨0, by omega, rfl, (hsx.addNil _ _)⟩
    case round =>
      obtain ⟨i, hi, rfl, hs⟩ := hrel
      by_cases hlt : i < items.length
      · obtain ⟨rfl, c0, c1, c2⟩ := HC.out i hlt
        have c0 := hs.keep c0
        have c1 := hs.keep c1
        have c2 := hs.keep c2
        have HT := Mx.hid (show (items.take (i + 1)).map (fun x : Itm => x.2.2) = (items.take i).map (fun x => x.2.2) ++ [items[i].2.2] by rw [List.take_succ_eq_append_getElem hlt, List.map_append]; rfl)
        generalize items[i] = y at *
        obtain ⟨m, nme, hsh⟩ := y
        simp only [] at *
        go_wp2_with (first | ((with_reducible show wpList _ _ _ _ _ _); refine wpl_lit1 rfl 23 _ rfl Tryz.elStr (hs.alloc _) (.string hsh) (by rfl) (by rfl) ?_; intro gl w3 hs3) | (at_builtin; refine wpl_app rfl _ _ 23 rfl Tryz.elStr hs3.swap rfl (by exact hs3.sl0) (by intro u hu; simp at hu; subst hu; rfl) (by omega) ?_; intro v4 w4 hs4 _))
        go_roundw
        case rel => exact ⟨i + 1, by omega, by go_num, by rw [HT.out, ss_app]; exact hs4.swap.tail.cast rfl rfl⟩
        case measure => simp [intOf]; omega
      · go_wp2_with fail
        go_ret
        exact ⟨_, rfl, by rw [HF.out]; have := hs.head; rw [List.take_of_length_le (by omega)] at this; exact this.cast (by simp; omega) rfl⟩
  · by_cases k3 : kind = 3
    · subst k3
      have HF := Mx.hid (show refsL ⟨3, data, items, tree, parents, stamp, author, msg⟩ = tree :: parents by unfold refsL; rw [if_neg (show ¬ (3 : Int) = 2 by decide), if_pos rfl])
      clear k2
      go_enter Tryz.func45, Tryz.ntmps45
      go_wp2_with (first | (((with_reducible show wpList _ _ _ _ _ _); refine wpl_box rfl 56 _ rfl (St.refl w) ([.int .i64 3, .slice d1 data.length d2, .slice i1 items.length i2, .string tree, .slice p1 parents.length p2, .int .i64 stamp, .int .i64 author, .string msg]) (by rfl) ?_; intro gx wx hsx); (have x0 := hsx.cell (j := 0) rfl; have x1 := hsx.cell (j := 1) rfl; have x2 := hsx.cell (j := 2) rfl; have x3 := hsx.cell (j := 3) rfl; have x4 := hsx.cell (j := 4) rfl; have x5 := hsx.cell (j := 5) rfl; have x6 := hsx.cell (j := 6) rfl; have x7 := hsx.cell (j := 7) rfl)) | ((with_reducible show wpList _ _ _ _ _ _); refine wpl_lit1 rfl 23 _ rfl Tryz.elStr hsx (.string tree) (by rfl) (by rfl) ?_; intro gl w3 hs3); have x4 := hs3.rcell (j := 4) (List.mem_cons_of_mem _ (List.mem_cons_self ..)) rfl | (at_builtin; refine wpl_app rfl _ _ 23 rfl Tryz.elStr hs3 rfl (by exact hs3.old HP.out) (ss_one _) (by omega) ?_; intro v4 w4 hs4 _))
      go_ret
      exact ⟨_, rfl, by rw [HF.out]; exact hs4.head.cast (by simp; omega) rfl⟩
    · have HF := Mx.hid (show refsL ⟨kind, data, items, tree, parents, stamp, author, msg⟩ = [] by unfold refsL; rw [if_neg k2, if_neg k3])
      have q2 : (kind == 2) = false := by simpa using k2
      have q3 : (kind == 3) = false := by simpa using k3
      clear k2 k3
      go_enter Tryz.func45, Tryz.ntmps45
      go_wp2_with (first | (((with_reducible show wpList _ _ _ _ _ _); refine wpl_box rfl 56 _ rfl (St.refl w) ([.int .i64 kind, .slice d1 data.length d2, .slice i1 items.length i2, .string tree, .slice p1 parents.length p2, .int .i64 stamp, .int .i64 author, .string msg]) (by rfl) ?_; intro gx wx hsx); (have x0 := hsx.cell (j := 0) rfl; have x1 := hsx.cell (j := 1) rfl; have x2 := hsx.cell (j := 2) rfl; have x3 := hsx.cell (j := 3) rfl; have x4 := hsx.cell (j := 4) rfl; have x5 := hsx.cell (j := 5) rfl; have x6 := hsx.cell (j := 6) rfl; have x7 := hsx.cell (j := 7) rfl)) | fail)
      go_ret
      exact ⟨_, rfl, by rw [HF.out]; exact hsx.bare.addNil _ _⟩

end Go.Proofs.YtloogjdafhjheaaGreat

namespace Go.Mx
open Go Go.RowKit

/-- v shows what the row (block g, N cells, capacity cap) has from place k on. -/
def OffV (v : Value) (g k N cap : Nat) : Prop := ∃ k', v = .slice (some ⟨g, k', none⟩) (N - k) (cap - k) ∧ k ≤ N ∧ N ≤ cap ∧ cap ≤ maxLen ∧ (k < cap → k' = k)

theorem OffV.start {w0 w : World} {R : List Row} {Q : List Rd} {g n cap : Nat} {e : TypeId} {xs : List Value} (h : St w0 w (⟨.slice (some ⟨g, 0, none⟩) n cap, e, 1, n, xs⟩ :: R) Q) : OffV (.slice (some ⟨g, 0, none⟩) n cap) g 0 n cap := by
  obtain ⟨ao, cap', he, h1, h2, _⟩ := h.sl0
  cases he
  exact ⟨0, rfl, Nat.zero_le _, h1, h2, fun _ => rfl⟩

theorem append_off {P : Program} {w0 w : World} {R : List Row} {Q : List Rd} {t ty e : TypeId} {bytes : Nat} (E : El P t e 1 bytes) {g k N cap : Nat} {xs : List Value} {v : Value} (hst : St w0 w (⟨.slice (some ⟨g, 0, none⟩) N cap, e, 1, N, xs⟩ :: R) Q) (hv : OffV v g k N cap)
    {x : Value} {m : Nat} {news : List Value} (hx : Sl w 1 x m news) (h1 : ∀ u ∈ news, u.oneCell' = true) (hbytes : (N + m) * bytes ≤ 140737488355328) :
    ∃ v' w' g2 k2 N2 cap2 xs2, (Builtin.append_ #[t, t] ty #[v, x]).run P w = .ok v' w' ∧ OffV v' g2 k2 N2 cap2 ∧ xs2.drop k2 = xs.drop k ++ news ∧ N2 ≤ N + m ∧
      St w0 w' (⟨.slice (some ⟨g2, 0, none⟩) N2 cap2, e, 1, N2, xs2⟩ :: R) Q := by
  obtain ⟨k', rfl, hkN, hNc, hcm, hk'⟩ := hv
  obtain ⟨i, z, hi, hz, hsz, hby, hzs⟩ := E.hi
  subst hby
  have hl : news.length = m := by have := hx.len; omega
  have hown := hst.own _ (List.mem_cons_self ..)
  have hxl : xs.length = N := by have := hown.1; simp only [Nat.mul_one] at this; exact this
  have hNm : N + m ≤ maxLen := len_of_bytes E.hb hbytes
  have hbytes2 : (N - k + m) * i.bytes ≤ 140737488355328 := Nat.le_trans (Nat.mul_le_mul_right _ (by omega)) hbytes
  have hlen : ∀ w' : World, (Builtin.lenOf x).run P w' = .ok m w' := lenOf_sl hx
  have hf := firstCells_sl (P := P) hx
  rw [← hsz] at hf
  rcases hown.2 with ⟨h2, _⟩ | ⟨g', cap', cur, fr, hv, hbg, hg, hfr, hn, hm, hcs, htake⟩
  · cases h2
  simp only [] at hv hbg hg hfr hn hm hcs htake
  cases hv
  rw [Nat.mul_one] at hcs htake
  by_cases hroom : N + m ≤ cap
  · have hroom2 : N - k + m ≤ cap - k := by omega
    by_cases hkc : k < cap
    · obtain rfl := hk' hkc
      have hst2 := run_storeCells_fr P g k' e fr news (N - k') cur w hg hfr (by omega) h1
      have e1 : k' + (N - k') = N := by omega
      rw [e1] at hst2
      refine ⟨.slice (some ⟨g, k', none⟩) (N - k' + m) (cap - k'), w.setRow g (cur.toList.take N ++ news ++ cur.toList.drop (N + news.length)).toArray, g, k', N + m, cap, xs ++ news, ?_, ⟨k', by rw [show N - k' + m = N + m - k' by omega], by omega, by omega, hcm, fun _ => rfl⟩, by rw [List.drop_append_of_le_length (by omega)], Nat.le_refl _, ?_⟩
      · have hf2 := firstCells_sl (P := P) hx w rfl
        have hst3 : (storeCells ⟨g, k' + (N - k'), none⟩ news).run P w = .ok () (w.setRow g (cur.toList.take N ++ news ++ cur.toList.drop (N + news.length)).toArray) := by
          have := run_storeCells_fr P g N e fr news 0 cur w hg hfr (by omega) h1
          rw [e1]
          simpa using this
        rw [List.append_assoc] at hst3 ⊢
        simp [Builtin.append_, run_underlying E.ht, sizeOf, typeInfo, hi, hlen, hroom2, hf2, Addr.add_lit, hsz, hst3]
      · refine hst.turn (r' := ⟨.slice (some ⟨g, 0, none⟩) (N + m) cap, e, 1, N + m, xs ++ news⟩) ⟨by simp [hxl, hl], .inr ⟨g, cap, _, fr, rfl, hbg, setRow_heap w g cur _ e _ hg, ?_, hroom, hcm, ?_, ?_⟩⟩ ⟨rfl, rfl, rfl, by simp, fun j _ hj => setRow_other w g j _ (fun e => hj (by simp [Value.ownBlock, e]))⟩ (by simp [Value.ownBlock])
        · intro j hj
          refine hfr j ?_
          simp only [List.size_toArray, List.length_append, List.length_take, List.length_drop, Array.length_toList] at hj
          omega
        · simp only [List.size_toArray, List.length_append, List.length_take, List.length_drop, Array.length_toList]
          omega
        · rw [htake, Nat.mul_one]
          exact List.take_left' (by simp [hxl, hl])
    · have hm0 : m = 0 := by omega
      subst hm0
      have hnn : news = [] := List.eq_nil_of_length_eq_zero hl
      subst hnn
      refine ⟨.slice (some ⟨g, k', none⟩) (N - k) (cap - k), w, g, k, N, cap, xs, ?_, ⟨k', rfl, hkN, hNc, hcm, hk'⟩, by simp, by omega, hst⟩
      have hf2 := hf w rfl
      simp only [Nat.add_zero] at hroom2
      simp [Builtin.append_, run_underlying E.ht, sizeOf, typeInfo, hi, hlen, hroom2, hf2, storeCells]
  · have hroom2 : ¬ (N - k + m ≤ cap - k) := by omega
    have hge := grownCap_ge w (N - k + m) (cap - k) e
    have hcm2 : grownCap w (N - k + m) (cap - k) e ≤ maxLen := grownCap_le_maxLen w _ _ e (by omega)
    have h63' : ¬ (9223372036854775807 < (((N - k : Nat) : Int) + (m : Int))) := by unfold maxLen at hNm; omega
    have hfit := growslice_fits (show cap - k < N - k + m by omega) hbytes2
    have h48' : ¬ (281474976710656 < Builtin.nextslicecap (N - k + m) (cap - k) * i.bytes) := by omega
    have hf2 := hf w.drew rfl
    have holds : ∀ j u, (xs.drop k)[j]? = some u → w.cell? ((⟨g, k', none⟩ : Addr).add j) = some u := by
      intro j u hu
      have hj := (List.getElem?_eq_some_iff.1 hu).1
      rw [List.length_drop] at hj
      obtain rfl := hk' (by omega)
      rw [List.getElem?_drop] at hu
      have := hown.cells (g := g) rfl _ u hu
      rw [Addr.add_lit] at this ⊢
      simpa using this
    have hfo := run_firstCells_some (P := P) w.drew i.size (N - k) ⟨g, k', none⟩ (N - k) (cap - k) (xs.drop k) (by rw [List.length_drop, hsz]; omega) (by simpa using holds)
    have hlen2 : (xs.drop k ++ news).length = N - k + m := by rw [List.length_append, List.length_drop]; omega
    refine ⟨.slice (some ⟨w.heap.size, 0, none⟩) (N - k + m) (grownCap w (N - k + m) (cap - k) e), w.drew.alloc (.cells ((xs.drop k ++ news).toArray ++ Builtin.zeroCells z.cells (grownCap w (N - k + m) (cap - k) e - (N - k + m))) e), w.heap.size, 0, N - k + m, grownCap w (N - k + m) (cap - k) e, xs.drop k ++ news, ?_, ⟨0, rfl, Nat.zero_le _, hge, hcm2, fun _ => rfl⟩, rfl, by omega, ?_⟩
    · simp [Builtin.append_, run_underlying E.ht, sizeOf, typeInfo, zeroValue, hi, hz, hlen, hroom2, h63', h48', Question.forced, hf2, hfo, newRow, grownCap]
      try (congr 2; apply Array.ext'; simp)
    · refine hst.turn (r' := ⟨.slice (some ⟨w.heap.size, 0, none⟩) (N - k + m) (grownCap w (N - k + m) (cap - k) e), e, 1, N - k + m, xs.drop k ++ news⟩) ⟨by rw [hlen2, Nat.mul_one], .inr ⟨w.heap.size, _, _, (0, 0), rfl, hst.size, heap_alloc_new w.drew _, by simp, hge, hcm2, ?_, ?_⟩⟩ ⟨rfl, rfl, rfl, by simp, fun j hj _ => Below.heap_alloc w.drew _ j hj⟩ (by intro b hb; simp [Value.ownBlock] at hb; omega)
      · simp only [Array.size_append, List.size_toArray, size_zeroCells, hzs, hlen2]
        omega
      · simp only [Array.toList_append, Nat.mul_one]
        rw [← hlen2]
        exact List.take_left

/-- THE WALK's LAW: append to a slice that was cut at its head. -/
theorem wpl_appOff {P : Program} {w0 w : World} {R : List Row} {Qs : List Rd} {ops : Array Oper} {rest : List Oper} {o : Oper} {a : Act} {Q : Exit → Act → World → Prop} (hgd : o.guard = none) (s x : Operand) (t : TypeId)
    (ho : o.op = .call { callee := .builtin .append, args := #[s, x], argTypes := #[t, t] })
    {e : TypeId} {bytes : Nat} (E : El P t e 1 bytes) {g k N cap : Nat} {xs : List Value} (hst : St w0 w (⟨.slice (some ⟨g, 0, none⟩) N cap, e, 1, N, xs⟩ :: R) Qs) (hv : OffV (a.eval s) g k N cap)
    {m : Nat} {news : List Value} (hx : Sl w 1 (a.eval x) m news) (h1 : ∀ u ∈ news, u.oneCell' = true) (hbytes : (N + m) * bytes ≤ 140737488355328)
    (h : ∀ v' w' g2 k2 N2 cap2 xs2, OffV v' g2 k2 N2 cap2 → xs2.drop k2 = xs.drop k ++ news → N2 ≤ N + m → St w0 w' (⟨.slice (some ⟨g2, 0, none⟩) N2 cap2, e, 1, N2, xs2⟩ :: R) Qs → wpList P ops Q rest (a.put o.dst v') w') : wpList P ops Q (o :: rest) a w := by
  refine wpList_plain hgd fun K hK => ?_
  obtain ⟨v', w', g2, k2, N2, cap2, xs2, hr, h2, h3, h4, h5⟩ := append_off (P := P) (ty := o.type) E hst hv hx h1 hbytes
  unfold Oper.wp execOp
  simp only [ho, resolve, invoke, builtin, Sem.run_bind, Sem.run_pure, Result.andThen_ok, List.map_toArray, List.map_cons, List.map_nil, hr]
  exact hK _ _ (h v' w' g2 k2 N2 cap2 xs2 h2 h3 h4 h5)
/-- The first cell. -/
theorem OffV.cell {w0 w : World} {R : List Row} {Q : List Rd} {e : TypeId} {g k N cap : Nat} {xs : List Value} {v x : Value} {l : List Value} (hst : St w0 w (⟨.slice (some ⟨g, 0, none⟩) N cap, e, 1, N, xs⟩ :: R) Q) (hv : OffV v g k N cap) (hx : xs.drop k = x :: l) :
    v = .slice (some ⟨g, k, none⟩) (N - k) (cap - k) ∧ w.cell? ⟨g, k, none⟩ = some x ∧ N - k = l.length + 1 ∧ OffV (.slice (if cap - k = 1 then some ⟨g, k, none⟩ else some ⟨g, k + 1, none⟩) (N - k - 1) (cap - k - 1)) g (k + 1) N cap ∧ xs.drop (k + 1) = l ∧ k < N := by
  obtain ⟨k', rfl, hkN, hNc, hcm, hk'⟩ := hv
  have hown := hst.own _ (List.mem_cons_self ..)
  have hxl : xs.length = N := by have := hown.1; simp only [Nat.mul_one] at this; exact this
  have hlen := congrArg List.length hx
  rw [List.length_drop, List.length_cons, hxl] at hlen
  have hg : xs[k]? = some x := by have := congrArg (fun l => l[0]?) hx; simpa [List.getElem?_drop] using this
  obtain rfl := hk' (by omega)
  have hc := hown.cells (g := g) rfl _ x hg
  rw [Addr.add_lit, Nat.zero_add] at hc
  refine ⟨rfl, hc, hlen, ?_, ?_, by omega⟩
  · by_cases h1 : cap - k' = 1
    · exact ⟨k', by rw [if_pos h1, Nat.sub_sub, Nat.sub_sub], by omega, hNc, hcm, fun h => by omega⟩
    · exact ⟨k' + 1, by rw [if_neg h1, Nat.sub_sub, Nat.sub_sub], by omega, hNc, hcm, fun _ => rfl⟩
  · rw [← List.drop_drop, hx]
    rfl
/-- x[1:], x a slice that was cut at its head. -/
theorem wpl_cutOff {P : Program} {w : World} {ops : Array Oper} {rest : List Oper} {o : Oper} {a : Act} {Q : Exit → Act → World → Prop} (hgd : o.guard = none) (t : TypeId) (x lo : Operand) (ho : o.op = .slice t x (some lo) none none)
    {e : TypeId} {bytes : Nat} (E : El P t e 1 bytes) {g k N cap : Nat} (hv : OffV (a.eval x) g k N cap) (hk : k < N) {kd : IntKind} (hlo : a.eval lo = .int kd 1)
    (h : ∀ v', OffV v' g (k + 1) N cap → wpList P ops Q rest (a.put o.dst v') w) : wpList P ops Q (o :: rest) a w := by
  obtain ⟨k', he, hkN, hNc, hcm, hk'⟩ := hv
  refine wpl_val hgd (v := .slice (if cap - k = 1 then some ⟨g, k', none⟩ else (some ⟨g, k', none⟩ : Option Addr).map (·.add (1 * 1))) (N - k - 1) (cap - k - 1)) ?_ (h _ ?_)
  · unfold execOp
    have hr := run_slice_sl (P := P) (w := w) E (ao := some ⟨g, k', none⟩) (n := N - k) (cap := cap - k) (by omega) (some (.int kd 1)) none 1 (N - k) (.inr ⟨kd, rfl⟩) (.inl ⟨rfl, rfl⟩) (by omega) (Nat.le_refl _)
    simp only [ho, Sem.run_bind, he, Option.map_none, Option.map_some, hlo, hr, Result.andThen_ok, Sem.run_pure]
  · obtain rfl := hk' (by omega)
    by_cases h1 : cap - k' = 1
    · exact ⟨k', by rw [if_pos h1, Nat.sub_sub, Nat.sub_sub], by omega, hNc, hcm, fun h => by omega⟩
    · exact ⟨k' + 1, by rw [if_neg h1, Nat.sub_sub, Nat.sub_sub]; rfl, by omega, hNc, hcm, fun _ => rfl⟩
theorem OffV.len {v : Value} {g k N cap : Nat} (h : OffV v g k N cap) : ∃ ao, v = .slice ao (N - k) (cap - k) ∧ N - k ≤ cap - k ∧ cap - k ≤ 9223372036854775807 := by
  obtain ⟨k', rfl, h1, h2, h3, _⟩ := h
  unfold maxLen at h3
  exact ⟨_, rfl, by omega, by omega⟩
theorem own_form2 {w : World} {base : Nat} {e : TypeId} {size n : Nat} {v : Value} {xs : List Value} (h : Ow w base e size v n xs) : (v = .slice none 0 0 ∧ n = 0) ∨ ∃ g cap, v = .slice (some ⟨g, 0, none⟩) n cap := by
  rcases h.2 with h | ⟨g, cap, cur, fr, hv, _⟩
  · exact .inl h
  · exact .inr ⟨g, cap, hv⟩
/-- A variable's cells. -/
def VC (g : Nat) (cs : List Value) (w : World) : Prop := ∀ i u, cs[i]? = some u → w.cell? ⟨g, 0 + i, none⟩ = some u
theorem VC.of {w0 w : World} {R : List Row} {Q : List Rd} {g : Nat} {n cap : Nat} {e : TypeId} {cs : List Value} {size : Nat} (h : St w0 w R Q) (hr : (⟨.slice (some ⟨g, 0, none⟩) n cap, e, size, n, cs⟩ : Row) ∈ R) : VC g cs w := fun i u hu => by rw [Nat.zero_add]; exact h.rcell hr hu
end Go.Mx

namespace Go.Mx
open Go Go.RowKit
/-- What an object's name tells. -/
def obO (so : Option (List UInt8)) : Ob × Bool := match so with | some b => ((decO b).1, decide ((decO b).2 = 0)) | none => (noOb, false)
theorem obO_may {so : Option (List UInt8)} (h : (obO so).2 = true) : mayB (obO so).1 = true := by
  unfold obO at *
  match so, h with
  | some b, h =>
    have h2 : (decO b).2 = 0 := of_decide_eq_true h
    exact (dec_ok (b := b) (o := (decO b).1) (Prod.ext rfl h2)).1
theorem refs_len {o : Ob} (h : mayB o = true) : (refsL o).length ≤ 256 := by
  unfold refsL
  unfold mayB at h
  by_cases h1 : o.kind = 1
  · rw [if_neg (by omega), if_neg (by omega)]; simp
  · rw [if_neg h1] at h
    by_cases h2 : o.kind = 2
    · rw [if_pos h2] at h ⊢
      simp only [Bool.and_eq_true, decide_eq_true_eq, itemsB] at h
      rw [List.length_map]
      exact h.1.2.2
    · rw [if_neg h2] at h ⊢
      by_cases h3 : o.kind = 3
      · rw [if_pos h3] at h ⊢
        simp only [Bool.and_eq_true, decide_eq_true_eq, parentsB] at h
        have := h.1.1.1.2.2
        rw [List.length_cons]
        omega
      · rw [if_neg h3]; simp
theorem noOb_refs : refsL noOb = [] := by unfold refsL noOb; rw [if_neg (by decide), if_neg (by decide)]
end Go.Mx
namespace Go.Proofs.YtloogjdafhjheaaGreat
open Go.RowKit Go.Mx

theorem within_any (n : Int) (w : World) :
    Calls Tryz.prog 23 #[.int .i64 n] w fun e w' => e = .returned (.bool (decide (1 ≤ n) && decide (n ≤ 2000))) ∧ w = w' := by
  go_enter Tryz.func23, Tryz.ntmps23
  cases h1 : decide (1 ≤ n) with
  | false =>
    go_wp2_with (first | ((with_reducible show wpList _ _ _ _ _ _); refine wpl_want rfl ?_))
    go_ret
    exact ⟨rfl, rfl⟩
  | true =>
    cases h2 : decide (n ≤ 2000) with
    | false =>
      go_wp2_with (first | ((with_reducible show wpList _ _ _ _ _ _); refine wpl_want rfl ?_))
      go_ret
      exact ⟨rfl, rfl⟩
    | true =>
      go_wp2_with (first | ((with_reducible show wpList _ _ _ _ _ _); refine wpl_want rfl ?_))
      go_ret
      exact ⟨rfl, rfl⟩

def ObjPost (so : Option (List UInt8)) (w : World) (e : Ending) (w' : World) : Prop :=
  ∃ dv iv pv, e = .returned (.tuple #[OV dv iv pv (obO so).1, .bool (obO so).2]) ∧ St w w' (obR dv iv pv (obO so).1) []
set_option maxRecDepth 100000 in
set_option maxHeartbeats 2000000 in
theorem object_any (g2 g3 g5 : Nat) (l : List (List UInt8)) (lie : Bool) (idn : ByteArray) (w : World) (h : SM w g2 g3 g5 l lie) (hz : ∀ x ∈ l, x.length ≤ 1000000000) (hl : l.length ≤ 1000000) :
    Calls Tryz.prog 44 #[.func (Fn.func 21) #[] #[.pointer (some ⟨g2, 0, none⟩), .pointer (some ⟨g3, 0, none⟩), .pointer (some ⟨g5, 0, none⟩)], .string idn] w (ObjPost (srcF l lie idn) w) := by
  have HZ := Mx.hid hz
  have hs0 := (St.refl w).madeAt ([.int .i64 (0), .slice none 0 0, .slice none 0 0, .string (str []), .slice none 0 0, .int .i64 (0), .int .i64 (0), .string (str [])]).toArray 56 8 1 w.heap.size rfl (by simp [maxLen]) rfl
  have HSR := Mx.hid (src_any g2 g3 g5 l lie idn _ (h.keep hs0.bare) (fun x hx => by have := hz x hx; omega) hl)
  have HMEM := Mx.hid (fun b (hb : srcF l lie idn = some b) => hz b (srcI_mem hb))
  clear h hz
  generalize srcF l lie idn = so at *
  go_enter Tryz.func44, Tryz.ntmps44
  go_wp2_with fail
  refine HSR.out.mono ?_
  intro e w1 he
  unfold SourceAns at he
  match so, he with
  | none, he =>
    obtain ⟨rfl, hk⟩ := he
    have hs1 := hs0.call0 hk
    clear hs0 HSR
    go_wp2_with (((with_reducible show wpList _ _ _ _ _ _); refine wpl_storeA rfl 56 _ _ rfl Tryz.aObj hs1 (0) rfl ([.int .i64 (0), .slice none 0 0, .slice none 0 0, .string (str []), .slice none 0 0, .int .i64 (0), .int .i64 (0), .string (str [])]) rfl (by rfl) (by simp) (by intro u hu; simp at hu; rcases hu with rfl | rfl | rfl | rfl | rfl | rfl | rfl | rfl <;> rfl) ?_; intro w9 hs9))
    replace hs9 := hs9.cast rfl (show _ = [.int .i64 (0), .slice none 0 0, .slice none 0 0, .string (str []), .slice none 0 0, .int .i64 (0), .int .i64 (0), .string (str [])] by simp)
    have hcw : ∀ i u, ([.int .i64 (0), .slice none 0 0, .slice none 0 0, .string (str []), .slice none 0 0, .int .i64 (0), .int .i64 (0), .string (str [])])[i]? = some u → w9.cell? ⟨w.heap.size, i, none⟩ = some u := fun i u h => hs9.rcell (List.mem_cons_self ..) h
    refine bodyPost_ret (v := .tuple #[.agg ([.int .i64 (0), .slice none 0 0, .slice none 0 0, .string (str []), .slice none 0 0, .int .i64 (0), .int .i64 (0), .string (str [])]).toArray, .bool false]) (results_cellA2 Tryz.results44 _ Tryz.aObj (g := w.heap.size) ([.int .i64 (0), .slice none 0 0, .slice none 0 0, .string (str []), .slice none 0 0, .int .i64 (0), .int .i64 (0), .string (str [])]) ?_ rfl hcw ?_) ?_ ⟨_, _, _, rfl, ((hs9.bare.addNil _ _).addNil _ _).addNil _ _⟩
    · first | (simp; done) | simp [Act.put]
    · first | (simp; done) | simp [Act.put]
    · first | (simp; done) | simp [Act.put]
  | some b, he =>
    obtain ⟨v, rfl, hk⟩ := he
    have hs1 := hs0.call1 hk
    have hbl := HMEM.out b rfl
    obtain ⟨vo, vc, rfl, _⟩ := id hk.sl0
    have HD := Mx.hid (decode_any _ b w1 hk.sl0 hbl)
    clear hs0 HSR hk HMEM
    obtain ⟨q, er, hD⟩ : ∃ q er, decO b = (q, er) := ⟨_, _, rfl⟩
    have hob : obO (some b) = (q, decide (er = 0)) := by show ((decO b).1, decide ((decO b).2 = 0)) = _; rw [hD]
    have HOB := Mx.hid hob
    unfold DecPost at HD
    rw [hD] at HD
    clear hD hob
    generalize w.heap.size = gz at *
    go_wp2_with fail
    refine HD.out.mono ?_
    rintro e w2 ⟨vd, vi, vp, rfl, hk⟩
    have hs2 := hs1.call hk
    obtain ⟨kq, dq, iq, tq, pq, sq, aq, mq⟩ := q
    obtain ⟨qd1, qd2, rfl, _⟩ := id (show Sl w2 1 vd dq.length (bs dq) from hk.sl0)
    obtain ⟨qi1, qi2, rfl, _⟩ := id (show Sl w2 3 vi iq.length (itms iq) from hk.sl1)
    obtain ⟨qp1, qp2, rfl, _⟩ := id (show Sl w2 1 vp pq.length (ss pq) from hk.sl2)
    simp only [OV, obR, List.cons_append, List.nil_append] at *
    clear hk hs1
    have hbe : ∀ b, decide (er = 0) = b → (er == 0) = b := fun b h => by rw [← h]; rw [Bool.eq_iff_iff]; simp
    obtain ⟨bb, he⟩ : ∃ bb, decide (er = 0) = bb := ⟨_, rfl⟩
    have he2 := hbe _ he
    rw [he] at HOB
    clear hbe he
    go_wp2_with (first | ((with_reducible show wpList _ _ _ _ _ _); refine wpl_storeA rfl 56 _ _ rfl Tryz.aObj (hs2.madeAt ([.int .i64 (0), .slice none 0 0, .slice none 0 0, .string (str []), .slice none 0 0, .int .i64 (0), .int .i64 (0), .string (str [])]).toArray 56 8 1 _ rfl (by simp [maxLen]) rfl) (0) rfl ([.int .i64 kq, .slice qd1 dq.length qd2, .slice qi1 iq.length qi2, .string tq, .slice qp1 pq.length qp2, .int .i64 sq, .int .i64 aq, .string mq]) rfl (by rfl) (by simp) (by intro u hu; simp at hu; rcases hu with rfl | rfl | rfl | rfl | rfl | rfl | rfl | rfl <;> rfl) ?_; intro w3 hs3) | ((with_reducible show wpList _ _ _ _ _ _); refine wpl_loadA rfl 56 _ rfl Tryz.aObj (w2.heap.size) (0) rfl ([.int .i64 kq, .slice qd1 dq.length qd2, .slice qi1 iq.length qi2, .string tq, .slice qp1 pq.length qp2, .int .i64 sq, .int .i64 aq, .string mq]) rfl (VC.of (hs3.cast rfl (show _ = [.int .i64 kq, .slice qd1 dq.length qd2, .slice qi1 iq.length qi2, .string tq, .slice qp1 pq.length qp2, .int .i64 sq, .int .i64 aq, .string mq] by simp)) (List.mem_cons_self ..)) ?_) | ((with_reducible show wpList _ _ _ _ _ _); refine wpl_storeA rfl 56 _ _ rfl Tryz.aObj (hs3.perm (R' := [_, _, _, _, _, _]) (List.perm_middle (l₁ := [_, _, _, _, _]))) (0) rfl ([.int .i64 kq, .slice qd1 dq.length qd2, .slice qi1 iq.length qi2, .string tq, .slice qp1 pq.length qp2, .int .i64 sq, .int .i64 aq, .string mq]) rfl (by rfl) (by simp) (by intro u hu; simp at hu; rcases hu with rfl | rfl | rfl | rfl | rfl | rfl | rfl | rfl <;> rfl) ?_; intro w9 hs9))
    replace hs9 := hs9.cast rfl (show _ = [.int .i64 kq, .slice qd1 dq.length qd2, .slice qi1 iq.length qi2, .string tq, .slice qp1 pq.length qp2, .int .i64 sq, .int .i64 aq, .string mq] by simp)
    have hcw : ∀ i u, ([.int .i64 kq, .slice qd1 dq.length qd2, .slice qi1 iq.length qi2, .string tq, .slice qp1 pq.length qp2, .int .i64 sq, .int .i64 aq, .string mq])[i]? = some u → w9.cell? ⟨gz, i, none⟩ = some u := fun i u h => hs9.rcell (List.mem_cons_self ..) h
    refine bodyPost_ret (v := .tuple #[.agg ([.int .i64 kq, .slice qd1 dq.length qd2, .slice qi1 iq.length qi2, .string tq, .slice qp1 pq.length qp2, .int .i64 sq, .int .i64 aq, .string mq]).toArray, .bool bb]) (results_cellA2 Tryz.results44 _ Tryz.aObj (g := gz) ([.int .i64 kq, .slice qd1 dq.length qd2, .slice qi1 iq.length qi2, .string tq, .slice qp1 pq.length qp2, .int .i64 sq, .int .i64 aq, .string mq]) ?_ rfl hcw ?_) ?_ ?_
    · first | (simp; done) | simp [Act.put]
    · first | (simp; done) | simp [Act.put]
    · first | (simp; done) | simp [Act.put]
    · unfold ObjPost
      rw [HOB.out]
      exact ⟨.slice qd1 dq.length qd2, .slice qi1 iq.length qi2, .slice qp1 pq.length qp2, rfl, hs9.sub (.cons _ (.cons _ (.cons_cons _ (.cons_cons _ (.cons_cons _ (.cons _ .slnil)))))) (by simp)⟩
end Go.Proofs.YtloogjdafhjheaaGreat
