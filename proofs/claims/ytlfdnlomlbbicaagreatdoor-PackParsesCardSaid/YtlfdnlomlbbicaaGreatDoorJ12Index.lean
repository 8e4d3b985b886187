/- bytes.Index, as the shelf tells it, at slices that read as bytes. bytes.Index over the symbolic heap. The walk of match. The walk of Make's closure. -/
import Derived.Test.YtlfdnlomlbbicaaGreatDoorJ4Lib3
import Derived.Lib.IndexMore
import Derived.Lib.Bytes
import Derived.Test.YtlfdnlomlbbicaaGreatDoorShelf
import Derived.Test.YtlfdnlomlbbicaaGreatDoorJ8WireK
import Derived.Test.YtlfdnlomlbbicaaGreatDoorJ11DelU
import Derived.Test.YtlfdnlomlbbicaaGreatDoorJ6Held
namespace Go.Mx
open Go Go.RowKit

theorem occAt_iff {s sub : List UInt8} {i : Nat} : Lib.occAt s sub i = true ↔ (s.drop i).take sub.length = sub := by
  unfold Lib.occAt
  rw [List.isPrefixOf_iff_prefix, List.prefix_iff_eq_take]
  exact eq_comm

/-- The cells of a slice of bytes that is not empty, as the shelf asks for them. -/
theorem Sl.shelf {w : World} {v : Value} {n : Nat} {l : List UInt8} (h : Sl w 1 v n (bs l)) (hne : l ≠ []) :
    ∃ a cap, v = .slice (some a) l.length cap ∧ l.length ≤ cap ∧ cap ≤ 9223372036854775807 ∧ (∀ i, i < l.length → w.cell? (a.add i) = some (.int .u8 ((l.map fun x => (x.toNat : Int)).getD i 0))) := by
  obtain ⟨ao, cap, blk, off, rfl, h1, h2, h3, hc⟩ := h.byt
  obtain ⟨rfl, _⟩ := hc 0 (List.length_pos_iff.2 hne)
  subst h3
  refine ⟨_, cap, rfl, h1, h2, fun i hi => ?_⟩
  rw [Addr.add_lit, (hc i hi).2]
  simp [hi]
theorem bytesOf_nat (l : List UInt8) : Lib.bytesOf (l.map fun x => (x.toNat : Int)) = l := by
  unfold Lib.bytesOf
  simp [List.map_map, Function.comp_def]
theorem byteRange (l : List UInt8) : ∀ x ∈ (l.map fun x => (x.toNat : Int)), 0 ≤ x ∧ x < 256 := by
  intro x hx
  obtain ⟨y, _, rfl⟩ := List.mem_map.1 hx
  have := u8_lt y
  omega
end Go.Mx

namespace Go.Proofs.YtlfdnlomlbbicaaGreatDoor
open Go.RowKit Go.Mx

/-- The library's variable that Index reads is a number. -/
def IndexOk (w : World) : Prop := ∃ m : Int, w.cell? ⟨Tryz.lays185_ren.g 1, 0, none⟩ = some (.int .i64 m)
theorem IndexOk.keep {w0 w : World} {R : List Row} {Q : List Rd} (h : IndexOk w0) (hs : St w0 w R Q) : IndexOk w := by
  obtain ⟨m, hm⟩ := h
  exact ⟨m, hs.keep hm⟩
theorem IndexOk.of_shape {w : World} (h : w.ShapedOpen Tryz.prog) : IndexOk w := Tryz.laysM185.s1_3 w h

theorem index_any (w : World) (va vb : Value) (a b : List UInt8) (ha : Sl w 1 va a.length (bs a)) (hb : Sl w 1 vb b.length (bs b)) (hne : a ≠ []) (hne' : b ≠ []) (hs : a.length < 4294967281) (hI : IndexOk w) :
    Calls Tryz.prog 55 #[va, vb] w fun e w' => e = .returned (.int .i64 (Lib.index a b)) ∧ ∃ q, w' = w.drewN q := by
  obtain ⟨m, hm⟩ := hI
  obtain ⟨a1, c1, rfl, h1, h2, h3⟩ := ha.shelf hne
  obtain ⟨a2, c2, rfl, h4, h5, h6⟩ := hb.shelf hne'
  have h := Tryz.bytes_Index_at a1 a2 a.length c1 b.length c2 (a.map fun x => (x.toNat : Int)) (b.map fun x => (x.toNat : Int)) m w (by simp) (by simp) (byteRange a) (byteRange b) h3 h6 h1 hs (by omega) hm
  rw [bytesOf_nat, bytesOf_nat] at h
  exact h
end Go.Proofs.YtlfdnlomlbbicaaGreatDoor

namespace Go.Proofs.YtlfdnlomlbbicaaGreatDoor
open Go.RowKit Go.Mx

theorem index_lcp {base t : List UInt8} {i : Nat} (ht : 8 ≤ t.length) (hi : i ≤ base.length) :
    (Lib.index (base.drop i) (t.take 8) = -1 ∧ ∀ k, i ≤ k → k < base.length → lcp (base.drop k) t < 8) ∨
    ∃ j : Nat, Lib.index (base.drop i) (t.take 8) = (j : Int) ∧ i + j + 8 ≤ base.length ∧ 8 ≤ lcp (base.drop (i + j)) t ∧ ∀ k, i ≤ k → k < i + j → lcp (base.drop k) t < 8 := by
  have hl : (t.take 8).length = 8 := by rw [List.length_take]; omega
  have hne : t.take 8 ≠ [] := by intro h; rw [h] at hl; simp at hl
  have hno : ∀ j, Lib.occAt (base.drop i) (t.take 8) j = false → lcp (base.drop (i + j)) t < 8 := by
    intro j h
    rcases Nat.lt_or_ge (lcp (base.drop (i + j)) t) 8 with h8 | h8
    · exact h8
    · have := (lcp_8 ht).1 h8
      have ho : Lib.occAt (base.drop i) (t.take 8) j = true := occAt_iff.2 (by rw [hl, List.drop_drop, this])
      rw [h] at ho; cases ho
  rcases Lib.index_spec (base.drop i) (t.take 8) with ⟨h1, h2⟩ | ⟨j, h1, h2, h3, h4⟩
  · refine .inl ⟨h1, fun k hk hkb => ?_⟩
    have := hno (k - i) (h2 (k - i) (by rw [List.length_drop]; omega))
    rwa [show i + (k - i) = k by omega] at this
  · have h5 := occAt_iff.1 h3
    rw [hl, List.drop_drop] at h5
    have h8 := (lcp_8 (a := base.drop (i + j)) ht).2 h5
    have hle := lcp_le_left (base.drop (i + j)) t
    rw [List.length_drop] at hle
    refine .inr ⟨j, h1, by omega, h8, fun k hk hkj => ?_⟩
    have := hno (k - i) (h4 (k - i) (by omega))
    rwa [show i + (k - i) = k by omega] at this

theorem mt8_le {base t : List UInt8} {i : Nat} : (mt8 (mtR base t i)).1 ≤ base.length ∧ (mt8 (mtR base t i)).2 ≤ base.length := by
  have := mtR_inv base t i
  unfold mt8
  split
  · exact ⟨this.2.2.1, by omega⟩
  · exact ⟨by simp, by simp⟩

set_option maxHeartbeats 2000000 in
theorem match_any (w : World) (vb vt : Value) (base t : List UInt8) (hb : Sl w 1 vb base.length (bs base)) (ht : Sl w 1 vt t.length (bs t)) (hbl : base.length ≤ 20000) (htl : t.length ≤ 20000) (hI : IndexOk w) :
    Calls Tryz.prog 35 #[vb, vt] w fun e w' => e = .returned (.tuple #[.int .i64 (mcP base t : Int), .int .i64 (mcN base t : Int)]) ∧ St w w' [] [] := by
  by_cases h8 : t.length < 8
  · have hP : mcP base t = 0 := by unfold mcP; rw [mt8_short h8]
    have hN : mcN base t = 0 := by unfold mcN; rw [mt8_short h8]
    rw [hP, hN]
    obtain ⟨to, tc, rfl, _⟩ := ht
    have h8' : (t.length : Int) < 8 := by omega
    generalize htl' : t.length = tl at *
    go_enter Tryz.func35, Tryz.ntmps35
    go_wp2_with fail
    go_ret2
    exact ⟨rfl, St.refl _⟩
  · have h8' : ¬ ((t.length : Int) < 8) := by omega
    have hge : 8 ≤ t.length := by omega
    obtain ⟨yo, yc, p1, q1⟩ := cutT ht hge
    have HY := Mx.hid (q1 w ht)
    have HB := Mx.hid hb
    have HT := Mx.hid ht
    obtain ⟨bo, bc, rfl, _⟩ := id hb
    obtain ⟨to, tc, rfl, _⟩ := id ht
    have HX : Hid ((t.take 8).length = 8) := Mx.hid (by rw [List.length_take]; omega)
    have hHB := fun (i : Nat) (h : i ≤ base.length) => cutD hb h
    have HCB := Mx.hid hHB
    have hix := fun (i : Nat) (h : i ≤ base.length) => index_lcp (base := base) (t := t) hge h
    have HIX := Mx.hid hix
    have p1 : ∀ w', (Instr.sliceAt 25 (.slice to t.length tc) none (some (.int .i64 8)) none).run Tryz.prog w' = .ok (.slice yo 8 yc) w' := p1
    clear q1 hb ht hHB hix
    generalize htl' : t.length = tl at *
    generalize hbl' : base.length = bl at *
    go_enter Tryz.func35, Tryz.ntmps35
    go_wp2_with fail
    go_loopw [6, 7, 8] (fun x y z wr => ∃ (i P N : Nat), i ≤ bl ∧ x = .int .i64 P ∧ y = .int .i64 N ∧ z = .int .i64 i ∧ P ≤ bl ∧ N ≤ bl ∧ Hid (mt8 (mtR base t i) = (P, N)) ∧ St w wr [] []) (fun _ _ z _ => bl - (intOf z).toNat)
    case atStart => exact ⟨0, 0, 0, by omega, rfl, rfl, rfl, by omega, by omega, rfl, St.refl w⟩
    case round =>
      obtain ⟨i, P, N, hi, rfl, rfl, rfl, hP, hN, HM, hs⟩ := hrel
      have hN0 : (0 : Int) ≤ N := by omega
      by_cases hgo : (N : Int) < (bl : Int) - (i : Int)
      · obtain ⟨xo, xc, px, qx⟩ := HCB.out i hi
        have hxl : (base.drop i).length = bl - i := by rw [List.length_drop, hbl']
        have hxn : base.drop i ≠ [] := by intro h; rw [h] at hxl; simp at hxl; omega
        have hyn : t.take 8 ≠ [] := by intro h; have := HX.out; rw [h] at this; simp at this
        have hidx := fun n => index_any (wr.drewN n) _ _ _ _ ((hs.drewN n).old (qx _ HB.out)) ((hs.drewN n).old HY.out) hxn hyn (by omega) (hI.keep (hs.drewN n))
        have HIDX := Mx.hid hidx
        have HQX := Mx.hid qx
        clear hidx qx hxl hxn hyn
        rcases HIX.out i hi with ⟨e1, e2⟩ | ⟨j, e1, e2, e3, e4⟩
        · rw [e1] at HIDX
          have HE := Mx.hid e2
          clear e1 e2
          go_wp2_with fail
          go_quiet ((go_at_call 55; exact Calls.quiet_of (HIDX.out _)))
          go_wp2_with fail
          go_ret2
          have hend : mt8 (mtR base t base.length) = (P, N) := by rw [hbl', mt8_skip hi fun k a b => HE.out k a b, HM.out]
          unfold mcP mcN
          rw [hend]
          exact ⟨rfl, by first | exact hs.drewN _ | exact (hs.drewN _).drew⟩
        · rw [e1] at HIDX
          have HE := Mx.hid (And.intro e3 e4)
          obtain ⟨zo, zc, pz, qz⟩ := HCB.out (i + j) (by omega)
          have hz := Mx.hid (qz _ HB.out)
          have hzl : (base.drop (i + j)).length = bl - (i + j) := by rw [List.length_drop, hbl']
          rw [Int.natCast_add] at pz
          have hzl := Mx.hid hzl
          clear e1 e3 e4 qz
          go_wp2_with fail
          go_quiet ((go_at_call 55; exact Calls.quiet_of (HIDX.out _)))
          have hs2 := hs.drewN nq
          generalize wr.drewN nq = w2 at hs2 ⊢
          go_wp2_with fail
          refine (common_any w2 _ _ (base.drop (i + j)) t (hs2.old hz.out) (hs2.old (by rw [htl']; exact HT.out))).mono ?_
          rintro e w3 ⟨rfl, hk3⟩
          have hs3 := hs2.call0 hk3
          have hst : mt8 (mtR base t (i + j + 1)) = if N < lcp (base.drop (i + j)) t then (i + j, lcp (base.drop (i + j)) t) else (P, N) := by
            rw [mt8_step HE.out.1, mt8_skip (Nat.le_add_right i j) fun k a b => HE.out.2 k a b, HM.out]
          have hlc := lcp_le_left (base.drop (i + j)) t
          rw [hzl.out] at hlc
          have HST := Mx.hid hst
          clear hst
          generalize lcp (base.drop (i + j)) t = n at *
          by_cases hn : N < n
          · have b1 : (N : Int) < (n : Int) := by omega
            go_wp2_with fail
            go_roundw
            case rel => exact ⟨i + j + 1, i + j, n, by omega, by push_cast; rfl, rfl, by push_cast; rfl, by omega, by omega, Mx.hid (by rw [HST.out, if_pos hn]), hs3⟩
            case measure => simp [intOf]; omega
          · have b1 : ¬ ((N : Int) < (n : Int)) := by omega
            go_wp2_with fail
            go_roundw
            case rel => exact ⟨i + j + 1, P, N, by omega, rfl, rfl, by push_cast; rfl, by omega, by omega, Mx.hid (by rw [HST.out, if_neg hn]), hs3⟩
            case measure => simp [intOf]; omega
      · go_wp2_with fail
        go_ret2
        have hend : mt8 (mtR base t base.length) = (P, N) := by rw [mt8_end (i := i) (by omega) (by rw [HM.out]; simp only []; omega), HM.out]
        unfold mcP mcN
        rw [hend]
        exact ⟨rfl, hs⟩
end Go.Proofs.YtlfdnlomlbbicaaGreatDoor

namespace Go.Proofs.YtlfdnlomlbbicaaGreatDoor
open Go.RowKit Go.Mx

/-- A variable of the call's own that holds a slice of bytes. -/
abbrev cel (g : Nat) (v : Value) : Row := ⟨.slice (some ⟨g, 0, none⟩) 1 1, 25, 1, 1, [v]⟩
abbrev dbyr (v : Value) (l : List UInt8) : Row := ⟨v, 5, 1, l.length, bs l⟩

def FlPost (w0 : World) (gd gf : Nat) (O : List UInt8) (e : Ending) (w' : World) : Prop :=
  ∃ v, e = .returned (.tuple #[]) ∧ St w0 w' [dbyr v O, cel gd v, cel gf (.slice none 0 0)] []

set_option maxHeartbeats 4000000 in
theorem flush_any (w0 w : World) (gd gf : Nat) (vd vf : Value) (O I : List UInt8) (hs : St w0 w [dbyr vd O, cel gd vd, cel gf vf, dbyr vf I] []) (hO : O.length ≤ 200000) (hI : I.length ≤ 20000) :
    Calls Tryz.prog 34 #[.pointer (some ⟨gf, 0, none⟩), .pointer (some ⟨gd, 0, none⟩)] w (FlPost w0 gd gf (O ++ flR I)) := by
  have c0 : w.cell? ⟨gd, 0, none⟩ = some vd := hs.rcell (List.mem_cons_of_mem _ (List.mem_cons_self ..)) rfl
  have c1 : w.cell? ⟨gf, 0, none⟩ = some vf := hs.rcell (List.mem_cons_of_mem _ (List.mem_cons_of_mem _ (List.mem_cons_self ..))) rfl
  obtain ⟨oo, oc, rfl, _⟩ := id hs.sl0
  have hsf : Sl w 1 vf I.length (bs I) := hs.sl (r := dbyr vf I) (by simp)
  obtain ⟨io, ic, rfl, _⟩ := hsf
  by_cases hne : I = []
  · subst hne
    change w.cell? ⟨gf, 0, none⟩ = some (.slice io 0 ic) at c1
    have hs1 : St w0 w [cel gf (.slice io 0 ic), dbyr (.slice oo O.length oc) O, cel gd (.slice oo O.length oc)] [] :=
      (hs.sub (R' := [dbyr (.slice oo O.length oc) O, cel gd (.slice oo O.length oc), cel gf (.slice io 0 ic)]) (by simp) (fun _ h => h)).perm (List.perm_append_comm (l₁ := [_, _]) (l₂ := [_]))
    go_enter Tryz.func34, Tryz.ntmps34
    go_wp2_with ((with_reducible show wpList _ _ _ _ _ _); refine wpl_store1 rfl 25 _ _ rfl hs1 (0) rfl (.slice none 0 0) rfl rfl (by kernel_rfl) (by simp) rfl ?_; intro w1 hs2)
    go_end0
    unfold FlPost
    rw [flR_nil, List.append_nil]
    exact ⟨_, rfl, hs2.perm (List.perm_append_comm (l₁ := [_]) (l₂ := [_, _]))⟩
  · have hpos : 0 < I.length := List.length_pos_iff.2 hne
    have hpos' : (0 : Int) < (I.length : Int) := by omega
    have HNE := Mx.hid hne
    clear hne
    go_enter Tryz.func34, Tryz.ntmps34
    go_wp2_with fail
    (refine wp_region_S (8) (fun W' => W'.cell? ⟨gd, 0, none⟩ = some (.slice oo O.length oc) ∧ W'.cell? ⟨gf, 0, none⟩ = some (.slice io I.length ic)) (by kernel_rfl) ?_ (fun hHeld => ?_); (focus ((try dsimp only); go_keep)))
    (refine wpAnyS_takeL (i := 0) (v := ?_) rfl (by kernel_rfl) (by kernel_rfl) (by kernel_rfl) (by kernel_rfl) (by kernel_rfl) (by kernel_rfl) (fun _ _ _ h => h) (Or.inl ⟨by rfl, ?_⟩) hHeld ?_; rotate_left 1; (focus (intro w' hSw; (try dsimp only at hSw); go_simp; (try with_reducible rfl))); (try simp only [Act.put, List.setIfInBounds_toArray, List.set_cons_zero, List.set_cons_succ]))
    (refine wpAnyS_takeL (i := 3) (v := ?_) rfl (by kernel_rfl) (by kernel_rfl) (by kernel_rfl) (by kernel_rfl) (by kernel_rfl) (by kernel_rfl) (fun _ _ _ h => h) (Or.inl ⟨by rfl, ?_⟩) hHeld ?_; rotate_left 1; (focus (intro w' hSw; (try dsimp only at hSw); go_simp; (try with_reducible rfl))); (try simp only [Act.put, List.setIfInBounds_toArray, List.set_cons_zero, List.set_cons_succ]))
    (refine wpAnyS_takeL (i := 6) (v := ?_) rfl (by kernel_rfl) (by kernel_rfl) (by kernel_rfl) (by kernel_rfl) (by kernel_rfl) (by kernel_rfl) (fun _ _ _ h => h) (Or.inl ⟨by rfl, ?_⟩) hHeld ?_; rotate_left 1; (focus (intro w' hSw; (try dsimp only at hSw); go_simp; (try with_reducible rfl))); (try simp only [Act.put, List.setIfInBounds_toArray, List.set_cons_zero, List.set_cons_succ]))
    (refine wpAnyS_takeL (i := 4) (v := ?_) rfl (by kernel_rfl) (by kernel_rfl) (by kernel_rfl) (by kernel_rfl) (by kernel_rfl) (by kernel_rfl) (fun _ _ _ h => h) (Or.inl ⟨by rfl, ?_⟩) hHeld ?_; rotate_left 1; (focus (intro w' hSw; (try dsimp only at hSw); go_simp; (try with_reducible rfl))); (try simp only [Act.put, List.setIfInBounds_toArray, List.set_cons_zero, List.set_cons_succ]))
    have hs0 := hs.drew.alloc (.cells #[.int .u8 2] 5)
    (refine wpAnyS_ready (rs := [1]) (by kernel_rfl) (by simp) ?_; refine AllS.consL rfl (fun K hK => ?_) AllS.nil)
    go_simp
    (refine hK.out _ _ ?_ (fun hHeld => ?_); (focus ((try dsimp only); exact ⟨hs0.rcell (List.mem_cons_of_mem _ (List.mem_cons_self ..)) rfl, hs0.rcell (List.mem_cons_of_mem _ (List.mem_cons_of_mem _ (List.mem_cons_self ..))) rfl⟩)); clear hK K; (try simp only [Act.put, List.setIfInBounds_toArray, List.set_cons_zero, List.set_cons_succ]))
    (refine wpAnyS_ready (rs := [2]) (by kernel_rfl) (by simp) ?_; refine AllS.consL rfl (fun K hK => ?_) AllS.nil)
    (refine step_app rfl _ _ 25 rfl Tryz.elU8 (by exact hs0) rfl (by exact Sl.one _ _ _) (by intro u hu; simp at hu; subst hu; rfl) (by omega) ?_; intro v9 w9 hs9 _)
    obtain ⟨dd, dc, rfl, _⟩ := id hs9.sl0
    (refine hK.out _ _ ?_ (fun hHeld => ?_); (focus ((try dsimp only); exact ⟨hs9.rcell (List.mem_cons_of_mem _ (List.mem_cons_self ..)) rfl, hs9.rcell (List.mem_cons_of_mem _ (List.mem_cons_of_mem _ (List.mem_cons_self ..))) rfl⟩)); clear hK K; (try simp only [Act.put, List.setIfInBounds_toArray, List.set_cons_zero, List.set_cons_succ]))
    (refine wpAnyS_ready (rs := [5]) (by kernel_rfl) (by simp) ?_; refine AllS.consL rfl (fun K hK => ?_) AllS.nil)
    (go_simp; go_at_call 33; refine (number_app w0 w9 _ _ _ _ _ I.length hs9 (by omega) (by omega)).mono ?_; rintro e w' ⟨v10, rfl, hs10⟩; go_wp2_with fail)
    obtain ⟨ed, ec, rfl, _⟩ := id hs10.sl0
    (refine hK.out _ _ ?_ (fun hHeld => ?_); (focus ((try dsimp only); exact ⟨hs10.rcell (List.mem_cons_of_mem _ (List.mem_cons_self ..)) rfl, hs10.rcell (List.mem_cons_of_mem _ (List.mem_cons_of_mem _ (List.mem_cons_self ..))) rfl⟩)); clear hK K; (try simp only [Act.put, List.setIfInBounds_toArray, List.set_cons_zero, List.set_cons_succ]))
    have l6 := putL_small (n := I.length) (by omega)
    have hsrc : Sl _ 1 (.slice io I.length ic) I.length (bs I) := hs10.sl (r := dbyr (.slice io I.length ic) I) (by simp)
    generalize hl6 : (putL I.length).length = p6 at *
    (refine wpAnyS_ready (rs := [7]) (by kernel_rfl) (by simp) ?_; refine AllS.consL rfl (fun K hK => ?_) AllS.nil)
    (refine step_app rfl _ _ 25 rfl Tryz.elU8 (by exact hs10) rfl (by exact hsrc) (bs_one _) (by omega) ?_; intro v11 w11 hs11 _)
    obtain ⟨fd, fc, rfl, _⟩ := id hs11.sl0
    (refine hK.out _ _ ?_ (fun hHeld => ?_); (focus ((try dsimp only); exact ⟨hs11.rcell (List.mem_cons_of_mem _ (List.mem_cons_self ..)) rfl, hs11.rcell (List.mem_cons_of_mem _ (List.mem_cons_of_mem _ (List.mem_cons_self ..))) rfl⟩)); clear hK K; (try simp only [Act.put, List.setIfInBounds_toArray, List.set_cons_zero, List.set_cons_succ]))
    (refine wpAnyS_seq (by rfl) (by kernel_rfl) ?_; simp only [List.drop_succ_cons, List.drop_zero])
    have hs12 := hs11.swap
    go_wp2_with (first | ((with_reducible show wpList _ _ _ _ _ _); refine wpl_store1 rfl 25 _ _ rfl hs12 (0) rfl (.slice fd (O.length + 1 + p6 + I.length) fc) rfl rfl (by kernel_rfl) (by simp) rfl ?_; intro wA hsA); have hsB := hsA.perm (List.perm_append_comm (l₁ := [_, _]) (l₂ := [_, _])) | ((with_reducible show wpList _ _ _ _ _ _); refine wpl_store1 rfl 25 _ _ rfl hsB (0) rfl (.slice none 0 0) rfl rfl (by kernel_rfl) (by simp) rfl ?_; intro wC hsC))
    go_end0
    unfold FlPost
    have hsD : St w0 wC [cel gf (.slice none 0 0), dbyr (.slice io I.length ic) I, cel gd (.slice fd (O.length + 1 + p6 + I.length) fc), ⟨.slice fd (O.length + 1 + p6 + I.length) fc, 5, 1, O.length + 1 + p6 + I.length, bs O ++ [Value.int IntKind.u8 2] ++ bs (putL I.length) ++ bs I⟩] [] := hsC
    have hsE := (St.drop1 hsD).perm (List.reverse_perm _).symm
    exact ⟨_, rfl, hsE.cast (by rw [flR_ne HNE.out]; simp only [List.length_append, List.length_cons, hl6]; omega) (by rw [flR_ne HNE.out]; simp only [bs_app, bs_cons]; simp)⟩
end Go.Proofs.YtlfdnlomlbbicaaGreatDoor
