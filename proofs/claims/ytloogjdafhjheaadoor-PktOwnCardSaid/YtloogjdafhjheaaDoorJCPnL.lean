/- Walk of pkt.Lines: what it tells is the caller's own. Walk of pkt.read: what it tells is the caller's own. Walk of pkt.Decode: what it tells is the caller's own. -/
import Derived.Test.YtloogjdafhjheaaDoorPkt
import Derived.Test.YtloogjdafhjheaaDoorPmR
import Derived.Test.YtloogjdafhjheaaDoorPmD
namespace Go.Mx
open Go Go.RowKit
/-- Each of these lists of bytes has a row of its own. -/
def HasR (R : List Row) (vs : List Value) (ls : List (List UInt8)) : Prop := ∀ (i : Nat) (h : i < ls.length), ∃ u, vs[i]? = some u ∧ (⟨u, 5, 1, ls[i].length, bs ls[i]⟩ : Row) ∈ R
theorem HasR.push {R : List Row} {vs : List Value} {ls : List (List UInt8)} {u : Value} {l : List UInt8} (h : HasR R vs ls) (hl : vs.length = ls.length) : HasR (⟨u, 5, 1, l.length, bs l⟩ :: R) (vs ++ [u]) (ls ++ [l]) := by
  intro i hi
  by_cases hlt : i < ls.length
  · obtain ⟨u', h1, h2⟩ := h i hlt
    refine ⟨u', by rw [List.getElem?_append_left (by omega)]; exact h1, ?_⟩
    rw [List.getElem_append_left hlt]
    exact List.mem_cons_of_mem _ h2
  · obtain rfl : i = ls.length := by rw [List.length_append, List.length_singleton] at hi; omega
    refine ⟨u, by rw [List.getElem?_append_right (by omega), hl, Nat.sub_self]; rfl, ?_⟩
    simp
/-- Each is owned. -/
def HasO (w : World) (base : Nat) (vs : List Value) (ls : List (List UInt8)) : Prop := ∀ (i : Nat) (h : i < ls.length), ∃ u, vs[i]? = some u ∧ Ow w base 5 1 u ls[i].length (bs ls[i])
theorem Ow.old {w0 w : World} {base : Nat} {e : TypeId} {size n : Nat} {v : Value} {xs : List Value} (h : Ow w0 base e size v n xs) (hs : St w0 w [] []) : Ow w base e size v n xs := by
  refine ⟨h.1, ?_⟩
  rcases h.2 with hn | ⟨g, cap, cur, fr, rfl, hb, hgg, rest⟩
  · exact .inl hn
  · refine .inr ⟨g, cap, cur, fr, rfl, hb, ?_, rest⟩
    rw [hs.below.block g (Array.getElem?_eq_some_iff.1 hgg).1]
    exact hgg
theorem HasO.ll {w : World} {base : Nat} {v : Value} {vs : List Value} {ls : List (List UInt8)} (h : HasO w base vs ls) (hl : vs.length = ls.length) (hv : Sl w 1 v ls.length vs) : LL w v ls := by
  refine ⟨vs, hl, hv, fun q hq => ?_⟩
  unfold rds at hq
  obtain ⟨i, hi, rfl⟩ := List.mem_iff_getElem.1 hq
  simp only [List.length_zipWith] at hi
  obtain ⟨u, h1, h2⟩ := h i (by omega)
  have e : vs[i]'(by omega) = u := by rw [List.getElem?_eq_getElem (by omega)] at h1; exact Option.some.inj h1
  simp only [List.getElem_zipWith]
  rw [e]
  exact h2.sl
end Go.Mx
namespace Go.Proofs.YtloogjdafhjheaaDoor
open Go.RowKit Go.Mx
def LinesO (b : List UInt8) (w : World) (e : Ending) (w' : World) : Prop :=
  ∃ v vs, e = .returned (.tuple #[v, .int .i64 ((linesS b 0 []).2.1 : Nat), .int .i64 (linesS b 0 []).2.2]) ∧ St w w' [] [] ∧ vs.length = (linesS b 0 []).1.length ∧ Sl w' 1 v (linesS b 0 []).1.length vs ∧ HasO w' w.heap.size vs (linesS b 0 []).1
theorem LinesO.bad {b : List UInt8} {k : Nat} {acc : List (List UInt8)} {err : Int} {w w' : World} (h : Hid (linesS b k acc = linesS b 0 [])) (he : linesS b k acc = ([], k, err)) (hs : St w w' [] []) :
    LinesO b w (.returned (.tuple #[.slice none 0 0, .int .i64 k, .int .i64 err])) w' := by
  unfold LinesO
  rw [← h.out, he]
  exact ⟨_, [], rfl, hs, rfl, Sl.nil _ _, fun i h => absurd h (by simp)⟩
theorem LinesO.good {b : List UInt8} {k j : Nat} {acc : List (List UInt8)} {vs : List Value} {R' : List Row} {x : Value} {w w' : World} (h : Hid (linesS b k acc = linesS b 0 [])) (he : linesS b k acc = (acc, j, 0)) (hl : Hid (vs.length = acc.length)) (hR : Hid (HasR R' vs acc))
    (hs : St w w' (⟨x, 23, 1, acc.length, vs⟩ :: R') []) {i : Int} (hi : i = j) :
    LinesO b w (.returned (.tuple #[x, .int .i64 i, .int .i64 0])) w' := by
  subst hi
  unfold LinesO
  rw [← h.out, he]
  refine ⟨x, vs, rfl, hs.bare, hl.out, hs.sl0, fun i h => ?_⟩
  obtain ⟨u, h1, h2⟩ := hR.out i h
  exact ⟨u, h1, hs.own _ (List.mem_cons_of_mem _ h2)⟩
set_option maxRecDepth 100000 in
set_option maxHeartbeats 1000000 in
theorem linesO_any (v : Value) (b : List UInt8) (w : World) (hv : Sl w 1 v b.length (bs b)) (hl : b.length ≤ 140737488355) :
    Calls Tryd.prog 20 #[v] w (LinesO b w) := by
  have HV := Mx.hid hv
  clear hv
  go_enter Tryd.func20, Tryd.ntmps20
  go_wp2_with fail
  go_loopw [5, 6] (fun x y wr => ∃ (k : Nat) (acc : List (List UInt8)) (vs : List Value), k ≤ b.length ∧ 4 * acc.length ≤ k ∧ y = .int .i64 k ∧ Hid (linesS b k acc = linesS b 0 []) ∧ Hid (vs.length = acc.length) ∧ ∃ R', Hid (HasR R' vs acc) ∧ St w wr (⟨x, 23, 1, acc.length, vs⟩ :: R') []) (fun _ y _ => b.length - (intOf y).toNat)
  case atStart => exact ⟨0, [], [], by omega, by simp, rfl, rfl, rfl, [], fun i h => absurd h (by simp), St.nil _ _ _⟩
  case round =>
    obtain ⟨k, acc, vs, hk, ha, rfl, He, Hvs, R', HR, hs⟩ := hrel
    have hbv := hs.old HV.out
    by_cases hlt : k < b.length
    · by_cases h4 : b.length - k < 4
      · have HP := Mx.hid (LinesO.bad (err := 2) He (by rw [linesS, dif_pos hlt, if_pos h4]) hs.bare)
        go_wp2_with ((with_reducible show wpList _ _ _ _ _ _); refine wpl_len rfl 23 5 _ rfl Tryd.underlying23 (by exact hbv) ?_)
        go_ret3
        exact HP.out
      · obtain ⟨r, hr, hr1, hr2⟩ : ∃ r : Int, Hid (lenI ((b.take (k + 4)).drop k) 0 = r) ∧ -1 ≤ r ∧ r < 65536 := ⟨_, rfl, lenI_lo _ _, by
          have := lenI_hi ((b.take (k + 4)).drop k) 0 0 (by omega)
          rw [List.length_drop, List.length_take, show min (k + 4) b.length - k = 4 by omega] at this
          exact this⟩
        have hstep := linesS.eq_def b k acc
        rw [dif_pos hlt, if_neg h4] at hstep
        simp only [hr.out] at hstep
        by_cases hr0 : r = 0
        · rw [if_pos hr0] at hstep
          have HP := Mx.hid (LinesO.good He hstep Hvs HR hs (i := (k : Int) + 4) (by omega))
          have Hr0 := Mx.hid hr0
          clear hstep hr0
          go_wp2_with (first | ((with_reducible show wpList _ _ _ _ _ _); refine wpl_len rfl 23 5 _ rfl Tryd.underlying23 (by exact hbv) ?_) | ((with_reducible show wpList _ _ _ _ _ _); refine wpl_cut rfl 23 _ _ _ rfl Tryd.elU8 (by exact hbv) k (k + 4) (.inr ⟨.i64, rfl⟩) (.inr ⟨.i64, rfl⟩) (by omega) (by omega) ?_; intro vc hvc; replace hvc := Sl.cutB (hvc _ (by exact hbv)) (by omega) (by omega)) | (go_at_call 39; refine (length_any _ _ _ hvc (by simp; omega)).mono ?_; rintro e w' ⟨rfl, rfl⟩; rw [hr.out, Hr0.out]))
          go_ret3
          exact HP.out
        · rw [if_neg hr0] at hstep
          by_cases hr4 : r < 4
          · rw [if_pos hr4] at hstep
            have HP := Mx.hid (LinesO.bad He hstep hs.bare)
            have b1 : (r == 0) = false := by simp [hr0]
            clear hstep
            go_wp2_with (first | ((with_reducible show wpList _ _ _ _ _ _); refine wpl_len rfl 23 5 _ rfl Tryd.underlying23 (by exact hbv) ?_) | ((with_reducible show wpList _ _ _ _ _ _); refine wpl_cut rfl 23 _ _ _ rfl Tryd.elU8 (by exact hbv) k (k + 4) (.inr ⟨.i64, rfl⟩) (.inr ⟨.i64, rfl⟩) (by omega) (by omega) ?_; intro vc hvc; replace hvc := Sl.cutB (hvc _ (by exact hbv)) (by omega) (by omega)) | (go_at_call 39; refine (length_any _ _ _ hvc (by simp; omega)).mono ?_; rintro e w' ⟨rfl, rfl⟩; rw [hr.out]))
            go_ret3
            exact HP.out
          · rw [if_neg hr4] at hstep
            have b1 : (r == 0) = false := by simp [hr0]
            obtain ⟨m, hm⟩ := Int.eq_ofNat_of_zero_le (show 0 ≤ r by omega)
            have hm4 : (4 : Int) ≤ r := by omega
            clear hr0 hr4 hr1
            rw [show r.toNat = m by omega] at hstep
            by_cases hlong : (b.length - k : Nat) < m
            · rw [if_pos (show ((b.length - k : Nat) : Int) < r by omega)] at hstep
              have HP := Mx.hid (LinesO.bad He hstep hs.bare)
              have b2 : decide ((b.length : Int) - (k : Int) < r) = true := decide_eq_true (by omega)
              have Hm := Mx.hid hm
              clear hstep hlong hm
              go_wp2_with (first | ((with_reducible show wpList _ _ _ _ _ _); refine wpl_len rfl 23 5 _ rfl Tryd.underlying23 (by exact hbv) ?_) | ((with_reducible show wpList _ _ _ _ _ _); refine wpl_cut rfl 23 _ _ _ rfl Tryd.elU8 (by exact hbv) k (k + 4) (.inr ⟨.i64, rfl⟩) (.inr ⟨.i64, rfl⟩) (by omega) (by omega) ?_; intro vc hvc; replace hvc := Sl.cutB (hvc _ (by exact hbv)) (by omega) (by omega)) | (go_at_call 39; refine (length_any _ _ _ hvc (by simp; omega)).mono ?_; rintro e w' ⟨rfl, rfl⟩; rw [hr.out]))
              go_ret3
              exact HP.out
            · rw [if_neg (show ¬ ((b.length - k : Nat) : Int) < r by omega)] at hstep
              have HE := Mx.hid (hstep.symm.trans He.out)
              have b2 : decide ((b.length : Int) - (k : Int) < r) = false := decide_eq_false (by omega)
              have hml : k + m ≤ b.length := by omega
              have hbv' := Mx.hid hbv
              have Hm := Mx.hid hm
              have hcl : ((b.take (k + m)).drop (k + 4)).length ≤ 140737488355328 := by rw [List.length_drop, List.length_take]; omega
              have hcm : k + 4 ≤ k + m := by omega
              have hki : some (Value.int .i64 ((k : Int) + r)) = some (Value.int .i64 ((k + m : Nat) : Int)) := by rw [hm]; rfl
              have HKI := Mx.hid hki
              clear hstep hbv hlong hm hki
              go_wp2_with (first | ((with_reducible show wpList _ _ _ _ _ _); refine wpl_len rfl 23 5 _ rfl Tryd.underlying23 (by exact hbv'.out) ?_) | ((with_reducible show wpList _ _ _ _ _ _); refine wpl_cut rfl 23 _ _ _ rfl Tryd.elU8 (by exact hbv'.out) k (k + 4) (.inr ⟨.i64, rfl⟩) (.inr ⟨.i64, rfl⟩) (by omega) (by omega) ?_; intro vc hvc; replace hvc := Sl.cutB (hvc _ (by exact hbv'.out)) (by omega) (by omega)) | (go_at_call 39; refine (length_any _ _ _ hvc (by simp; omega)).mono ?_; rintro e w' ⟨rfl, rfl⟩; rw [hr.out]; clear hvc) | ((with_reducible show wpList _ _ _ _ _ _); refine wpl_cut rfl 23 _ _ _ rfl Tryd.elU8 (by exact hbv'.out) (k + 4) (k + m) (.inr ⟨.i64, rfl⟩) (.inr ⟨.i64, HKI.out⟩) (by omega) (by omega) ?_; intro vd hvd; replace hvd := Sl.cutB (hvd _ (by exact hbv'.out)) (by omega) (by omega)) | (go_at_call 40; refine (bclone_any _ _ _ hvd hcl).mono ?_; rintro e w' ⟨ve, rfl, hve⟩; obtain ⟨ca, cc, rfl, _⟩ := hve.sl0; replace hve := (hs.call1 hve).swap; clear hvd) | (at_builtin; refine wpl_app rfl _ _ 43 rfl Tryd.elBs (hve.alloc _) rfl (by exact Sl.one _ _ _) (by intro u hu; simp at hu; subst hu; rfl) (by omega) ?_; intro vf wf hvf _))
              go_roundw
              case rel =>
                rw [show k + m - (k + 4) = ((b.take (k + m)).drop (k + 4)).length by rw [List.length_drop, List.length_take]; omega] at hvf
                exact ⟨k + m, acc ++ [(b.take (k + m)).drop (k + 4)], _, by omega, by simp; omega, by rw [Hm.out]; rfl, HE, by show _ = _; rw [List.length_append, List.length_append, Hvs.out]; rfl, _, HR.out.push Hvs.out, hvf.cast (by simp) rfl⟩
              case measure => have := Hm.out; simp [intOf]; omega
    · have HP := Mx.hid (LinesO.good He (by rw [linesS, dif_neg hlt]) Hvs HR hs (i := (k : Int)) rfl)
      go_wp2_with ((with_reducible show wpList _ _ _ _ _ _); refine wpl_len rfl 23 5 _ rfl Tryd.underlying23 (by exact hbv) ?_)
      go_ret3
      exact HP.out
end Go.Proofs.YtloogjdafhjheaaDoor

namespace Go.Proofs.YtloogjdafhjheaaDoor
open Go.RowKit Go.Mx
def ReadO (l : List (List UInt8)) (base : Nat) (w : World) (e : Ending) (w' : World) : Prop :=
  ∃ iv dv, e = .returned (MV iv dv (readM l)) ∧ St w w' [] [] ∧ MB w' iv dv (readM l) ∧ Ow w' base 9 1 iv (readM l).ids.length (ss (readM l).ids) ∧ Ow w' base 5 1 dv (readM l).data.length (bs (readM l).data)
set_option maxRecDepth 200000 in
set_option maxHeartbeats 4000000 in
theorem readO_any (v : Value) (l : List (List UInt8)) (base : Nat) (vs : List Value) (w : World) (hvl : vs.length = l.length) (hsv : Sl w 1 v l.length vs) (ho : HasO w base vs l) (hbase : base ≤ w.heap.size) (hz : ∀ p ∈ l, p.length ≤ 1000000) (hl : l.length ≤ 1000000) (hL : LdP w) :
    Calls Tryd.prog 30 #[v] w (ReadO l base w) := by
  have HL := Mx.hid (fun wx (hs : St w wx [] []) => hL.keep hs)
  have hpv : ∀ (k : Nat) (hk : k < l.length), ∃ a c, vs[k]? = some (.slice a l[k].length c) ∧ Sl w 1 (.slice a l[k].length c) l[k].length (bs l[k]) := fun k hk => by
    obtain ⟨u, h1, h2⟩ := ho k hk
    obtain ⟨a, c, rfl, -⟩ := h2.sl.form
    exact ⟨a, c, h1, h2.sl⟩
  have HO := Mx.hid ho
  obtain ⟨ao, cap, rfl, c1, c2, -⟩ := hsv.form
  unfold maxLen at c2
  have HSV := Mx.hid hsv
  have HPV := Mx.hid hpv
  have HZ := Mx.hid hz
  have HVL := Mx.hid hvl
  have hs0 := (St.refl w).madeAt ([.int .i64 0, .int .i64 0, .int .i64 0, .int .i64 0, .slice none 0 0, .slice none 0 0]).toArray 25 6 1 w.heap.size rfl (by simp [maxLen]) rfl
  clear ho hz hL hvl hsv hpv
  go_enter Tryd.func30, Tryd.ntmps30
  by_cases h3 : l.length < 3
  · have HR : Hid (readM l = noMs) := by show _ = _; unfold readM; rw [if_pos h3]
    have q1 : decide ((l.length : Int) < 3) = true := decide_eq_true (by omega)
    go_wp2_with ((with_reducible show wpList _ _ _ _ _ _); refine wpl_storeA rfl 25 _ _ rfl Tryd.aMsg hs0 (0) rfl ([.int .i64 0, .int .i64 0, .int .i64 0, .int .i64 0, .slice none 0 0, .slice none 0 0]) rfl (by rfl) (by simp) (by intro u hu; simp at hu; rcases hu with rfl | rfl | rfl | rfl | rfl | rfl <;> rfl) ?_; intro w9 hs9)
    replace hs9 := hs9.cast rfl (show _ = [.int .i64 0, .int .i64 0, .int .i64 0, .int .i64 0, .slice none 0 0, .slice none 0 0] by simp)
    have hcw : ∀ i u, ([.int .i64 0, .int .i64 0, .int .i64 0, .int .i64 0, .slice none 0 0, .slice none 0 0])[i]? = some u → w9.cell? ⟨w.heap.size, i, none⟩ = some u := fun i u h => hs9.rcell (List.mem_cons_self ..) h
    refine bodyPost_ret (v := .agg ([.int .i64 0, .int .i64 0, .int .i64 0, .int .i64 0, .slice none 0 0, .slice none 0 0]).toArray) (results_cellA Tryd.results30 _ Tryd.aMsg (g := w.heap.size) ([.int .i64 0, .int .i64 0, .int .i64 0, .int .i64 0, .slice none 0 0, .slice none 0 0]) ?_ rfl hcw) ?_ ?_
    · first | (simp; done) | simp [Act.put]
    · first | (simp; done) | simp [Act.put]
    · unfold ReadO
      rw [HR.out]
      exact ⟨.slice none 0 0, .slice none 0 0, rfl, hs9.bare, ⟨Sl.nil _ _, Sl.nil _ _⟩, Ow.nil _ _ _ _, Ow.nil _ _ _ _⟩
  have q1 : decide ((l.length : Int) < 3) = false := decide_eq_false (by omega)
  obtain ⟨a0, e0, hv0, hsl0⟩ := HPV.out 0 (by omega)
  obtain ⟨b0, o0, rfl, k0⟩ := Sl.cellAny HSV.out hv0
  obtain ⟨ua, uc, hvd, hsld⟩ := HPV.out (l.length - 1) (by omega)
  obtain ⟨b9, o9, he9, c9⟩ := Sl.cellAny HSV.out hvd
  cases he9
  rw [Nat.add_zero] at k0
  have hz0 := HZ.out l[0] (List.getElem_mem (by omega))
  have hnd := HZ.out l[l.length - 1] (List.getElem_mem (by omega))
  have HRM : Hid (readM l = ⟨numA (pcs 32 0 l[0]) 0, numA (pcs 32 0 l[0]) 1, numA (pcs 32 0 l[0]) 2, numA (pcs 32 0 l[0]) 3, ((l.take (l.length - 2)).drop 1).map str, l[l.length - 1]⟩) := by
    show _ = _
    unfold readM
    rw [if_neg h3, List.getD_eq_getElem?_getD, List.getElem?_eq_getElem (by omega), List.getD_eq_getElem?_getD, List.getElem?_eq_getElem (by omega)]
    rfl
  have HPZ := Mx.hid (fun p (hp : p ∈ pcs 32 0 l[0]) => (show p.length ≤ 140737488355328 by have := pcs_size hp; omega))
  have HSL0 := Mx.hid hsl0
  have HSLD := Mx.hid hsld
  have HOD := Mx.hid (show Ow w base 5 1 (.slice ua l[l.length - 1].length uc) l[l.length - 1].length (bs l[l.length - 1]) by
    obtain ⟨u, h1, h2⟩ := HO.out (l.length - 1) (by omega)
    rw [hvd] at h1
    cases h1
    exact h2)
  clear HO
  have HVM := Mx.hid (fun (k : Nat) (hk : k < l.length) => HPV.out k hk)
  have hb0 := bL_str l[0]
  have HS0 := Mx.hid (psplit_any (str l[0]) (by rw [str_size]; omega))
  rw [hb0] at HS0
  clear hb0 hvd hv0 hsl0 hsld
  generalize hP : pcs 32 0 l[0] = P at *
  generalize l[l.length - 1] = D at *
  generalize l[0] = L0 at *
  clear hP
  go_upto_region 1 with fail
  change Code.wp _ _ _ _ (w.alloc (.cells #[.int .i64 0, .int .i64 0, .int .i64 0, .int .i64 0, .slice none 0 0, .slice none 0 0] 25))
  change St w (w.alloc (.cells #[.int .i64 0, .int .i64 0, .int .i64 0, .int .i64 0, .slice none 0 0, .slice none 0 0] 25)) _ _ at hs0
  generalize w.alloc (.cells #[.int .i64 0, .int .i64 0, .int .i64 0, .int .i64 0, .slice none 0 0, .slice none 0 0] 25) = w1 at hs0 ⊢
  generalize w.heap.size = gR at hs0 ⊢
  replace k0 := hs0.keep k0
  have hb1 := hs0.old HSL0.out
  go_wp2_with ((with_reducible show wpList _ _ _ _ _ _); refine wpl_b2s rfl 23 9 5 _ rfl Tryd.underlying23 Tryd.underlying5 Tryd.underlying9 (by exact hb1) ?_)
  refine (HS0.out _).mono ?_
  rintro e w2 ⟨v2, rfl, hk2⟩
  have hs2 := (hs0.call1 hk2).freeze
  obtain ⟨sa, sc, rfl, _⟩ := id hk2.sl0
  dsimp only at hs2
  have HSP := Mx.hid (fun (wx : World) (R : List Row) (h : St w wx R [⟨.slice sa P.length sc, 1, P.length, ss (tx P)⟩]) => (show Sl wx 1 (.slice sa P.length sc) P.length (ss (tx P)) from h.q0))
  clear hs0 hk2 k0 hb1 HS0
  generalize hND : D.length = nd at *
  have HND := Mx.hid hND
  clear hND
  go_upto_region 4 with fail
  go_cut [4] (fun s4 wx => ∃ gO, s4 = .pointer (some ⟨gO, 0, none⟩) ∧ St w wx [⟨.slice (some ⟨gO, 0, none⟩) 1 1, 25, 6, 1, [.int .i64 (numA P 0), .int .i64 (numA P 1), .int .i64 (numA P 2), .int .i64 (numA P 3), .slice none 0 0, .slice ua nd uc]⟩, ⟨.slice (some ⟨gR, 0, none⟩) 1 1, 25, 6, 1, [.int .i64 0, .int .i64 0, .int .i64 0, .int .i64 0, .slice none 0 0, .slice none 0 0]⟩] [⟨.slice sa P.length sc, 1, P.length, ss (tx P)⟩])
  case first =>
    have hc := hs2.drew
    have n1 : (0 : Int) ≤ (l.length : Int) - 1 := by omega
    have n2 : (l.length : Int) - 1 < (l.length : Int) := by omega
    have n3 : ((l.length : Int) - 1).toNat = l.length - 1 := by omega
    have n4 : (1 : Int) ≤ (l.length : Int) := by omega
    have n5 : IntKind.i64.wrap ((l.length : Int) - 1) = (l.length : Int) - 1 := IntWalk.i64_in _ (by omega)
    (refine wp_region_S (16) (fun W' => W'.cell? ⟨b0, o0 + (l.length - 1), none⟩ = some (.slice ua nd uc)) (by kernel_rfl) ?_ (fun hHeld => ?_); (focus ((try dsimp only); exact hc.keep c9)))
    (refine wpAnyS_takeW (i := 0) (v := ?_) rfl (by kernel_rfl) (by kernel_rfl) (by kernel_rfl) (by kernel_rfl) (fun _ _ _ h => h) (Or.inl ⟨by rfl, ?_⟩) hHeld ?_; rotate_left 1; (focus (intro w' hSw; go_simp; (try with_reducible rfl))); (try simp only [Act.put, List.setIfInBounds_toArray, List.set_cons_zero, List.set_cons_succ]))
    (refine wpAnyS_takeW (i := 2) (v := ?_) rfl (by kernel_rfl) (by kernel_rfl) (by kernel_rfl) (by kernel_rfl) (fun _ _ _ h => h) (Or.inl ⟨by rfl, ?_⟩) hHeld ?_; rotate_left 1; (focus (intro w' hSw; go_simp; (try with_reducible rfl))); (try simp only [Act.put, List.setIfInBounds_toArray, List.set_cons_zero, List.set_cons_succ]))
    (refine wpAnyS_takeW (i := 4) (v := ?_) rfl (by kernel_rfl) (by kernel_rfl) (by kernel_rfl) (by kernel_rfl) (fun _ _ _ h => h) (Or.inl ⟨by rfl, ?_⟩) hHeld ?_; rotate_left 1; (focus (intro w' hSw; go_simp; (try with_reducible rfl))); (try simp only [Act.put, List.setIfInBounds_toArray, List.set_cons_zero, List.set_cons_succ]))
    (refine wpAnyS_takeW (i := 6) (v := ?_) rfl (by kernel_rfl) (by kernel_rfl) (by kernel_rfl) (by kernel_rfl) (fun _ _ _ h => h) (Or.inl ⟨by rfl, ?_⟩) hHeld ?_; rotate_left 1; (focus (intro w' hSw; go_simp; (try with_reducible rfl))); (try simp only [Act.put, List.setIfInBounds_toArray, List.set_cons_zero, List.set_cons_succ]))
    (refine wpAnyS_takeW (i := 8) (v := ?_) rfl (by kernel_rfl) (by kernel_rfl) (by kernel_rfl) (by kernel_rfl) (fun _ _ _ h => h) (Or.inl ⟨by rfl, ?_⟩) hHeld ?_; rotate_left 1; (focus (intro w' hSw; go_simp; (try with_reducible rfl))); (try simp only [Act.put, List.setIfInBounds_toArray, List.set_cons_zero, List.set_cons_succ]))
    (refine wpAnyS_takeW (i := 9) (v := ?_) rfl (by kernel_rfl) (by kernel_rfl) (by kernel_rfl) (by kernel_rfl) (fun _ _ _ h => h) (Or.inl ⟨by rfl, ?_⟩) hHeld ?_; rotate_left 1; (focus (intro w' hSw; go_simp; (try with_reducible rfl))); (try simp only [Act.put, List.setIfInBounds_toArray, List.set_cons_zero, List.set_cons_succ]))
    (refine wpAnyS_takeW (i := 10) (v := ?_) rfl (by kernel_rfl) (by kernel_rfl) (by kernel_rfl) (by kernel_rfl) (fun _ _ _ h => h) (Or.inl ⟨by rfl, ?_⟩) hHeld ?_; rotate_left 1; (focus (intro w' hSw; go_simp; (try with_reducible rfl))); (try simp only [Act.put, List.setIfInBounds_toArray, List.set_cons_zero, List.set_cons_succ]))
    (refine wpAnyS_takeW (i := 11) (v := ?_) rfl (by kernel_rfl) (by kernel_rfl) (by kernel_rfl) (by kernel_rfl) (fun _ _ _ h => h) (Or.inl ⟨by rfl, ?_⟩) hHeld ?_; rotate_left 1; (focus (intro w' hSw; go_simp; (try with_reducible rfl))); (try simp only [Act.put, List.setIfInBounds_toArray, List.set_cons_zero, List.set_cons_succ]))
    (refine wpAnyS_takeW (i := 12) (v := ?_) rfl (by kernel_rfl) (by kernel_rfl) (by kernel_rfl) (by kernel_rfl) (fun _ _ _ h => h) (Or.inl ⟨by rfl, ?_⟩) hHeld ?_; rotate_left 1; (focus (intro w' hSw; go_simp; (try with_reducible rfl))); (try simp only [Act.put, List.setIfInBounds_toArray, List.set_cons_zero, List.set_cons_succ]))
    (refine wpAnyS_takeL (i := 13) (v := ?_) rfl (by kernel_rfl) (by kernel_rfl) (by kernel_rfl) (by kernel_rfl) (by kernel_rfl) (by kernel_rfl) (fun _ _ _ h => h) (Or.inl ⟨by rfl, ?_⟩) hHeld ?_; rotate_left 1; (focus (intro w' hSw; (try dsimp only at hSw); go_simp; (try with_reducible rfl))); (try simp only [Act.put, List.setIfInBounds_toArray, List.set_cons_zero, List.set_cons_succ]))
    clear n1 n2 n3 n4 n5
    generalize w2.drew = W at hc hHeld ⊢
    refine wpAnyS_ready (rs := [1, 15]) (by kernel_rfl) (by simp) ?_
    refine AllS.consL rfl (fun K hK => ?_) ?_
    · (go_simp; go_at_call 48; refine (number_any _ P 0 W (HL.out _ hc.bare) (by exact HSP.out _ _ hc) HPZ.out (by omega)).mono ?_; rintro e w' ⟨rfl, hk⟩; go_wp2_with fail)
      replace hc := hc.call0 hk
      (refine hK.out _ _ ?_ (fun hHeld => ?_); (focus ((try dsimp only); exact hc.keep c9)); clear hK K; (try simp only [Act.put, List.setIfInBounds_toArray, List.set_cons_zero, List.set_cons_succ]))
      obtain ⟨W, rfl⟩ : ∃ W : World, W = w' := ⟨_, rfl⟩
      clear hk
      refine wpAnyS_ready (rs := [3, 15]) (by kernel_rfl) (by simp) ?_
      refine AllS.consL rfl (fun K hK => ?_) ?_
      · (go_simp; go_at_call 48; refine (number_any _ P 1 W (HL.out _ hc.bare) (by exact HSP.out _ _ hc) HPZ.out (by omega)).mono ?_; rintro e w' ⟨rfl, hk⟩; go_wp2_with fail)
        replace hc := hc.call0 hk
        (refine hK.out _ _ ?_ (fun hHeld => ?_); (focus ((try dsimp only); exact hc.keep c9)); clear hK K; (try simp only [Act.put, List.setIfInBounds_toArray, List.set_cons_zero, List.set_cons_succ]))
        obtain ⟨W, rfl⟩ : ∃ W : World, W = w' := ⟨_, rfl⟩
        clear hk
        refine wpAnyS_ready (rs := [5, 15]) (by kernel_rfl) (by simp) ?_
        refine AllS.consL rfl (fun K hK => ?_) ?_
        · (go_simp; go_at_call 48; refine (number_any _ P 2 W (HL.out _ hc.bare) (by exact HSP.out _ _ hc) HPZ.out (by omega)).mono ?_; rintro e w' ⟨rfl, hk⟩; go_wp2_with fail)
          replace hc := hc.call0 hk
          (refine hK.out _ _ ?_ (fun hHeld => ?_); (focus ((try dsimp only); exact hc.keep c9)); clear hK K; (try simp only [Act.put, List.setIfInBounds_toArray, List.set_cons_zero, List.set_cons_succ]))
          obtain ⟨W, rfl⟩ : ∃ W : World, W = w' := ⟨_, rfl⟩
          clear hk
          refine wpAnyS_ready (rs := [7, 15]) (by kernel_rfl) (by simp) ?_
          refine AllS.consL rfl (fun K hK => ?_) ?_
          · (go_simp; go_at_call 48; refine (number_any _ P 3 W (HL.out _ hc.bare) (by exact HSP.out _ _ hc) HPZ.out (by omega)).mono ?_; rintro e w' ⟨rfl, hk⟩; go_wp2_with fail)
            replace hc := hc.call0 hk
            (refine hK.out _ _ ?_ (fun hHeld => ?_); (focus ((try dsimp only); exact hc.keep c9)); clear hK K; (try simp only [Act.put, List.setIfInBounds_toArray, List.set_cons_zero, List.set_cons_succ]))
            obtain ⟨W, rfl⟩ : ∃ W : World, W = w' := ⟨_, rfl⟩
            clear hk
            (refine wpAnyS_takeW (i := 14) (v := ?_) rfl (by kernel_rfl) (by kernel_rfl) (by kernel_rfl) (by kernel_rfl) (fun _ _ _ h => h) (Or.inl ⟨by rfl, ?_⟩) hHeld ?_; rotate_left 1; (focus (intro w' hSw; go_simp; (try with_reducible rfl))); (try simp only [Act.put, List.setIfInBounds_toArray, List.set_cons_zero, List.set_cons_succ]))
            (refine wpAnyS_ready (rs := [15]) (by kernel_rfl) (by simp) ?_; refine AllS.consL rfl (fun K hK => ?_) AllS.nil)
            go_simp
            replace hc := hc.madeAt ([.int .i64 0, .int .i64 0, .int .i64 0, .int .i64 0, .slice none 0 0, .slice none 0 0]).toArray 25 6 1 W.heap.size rfl (by simp [maxLen]) rfl
            change St w (W.alloc (Obj.cells #[.int .i64 0, .int .i64 0, .int .i64 0, .int .i64 0, .slice none 0 0, .slice none 0 0] 25)) _ _ at hc
            generalize W.alloc (Obj.cells #[.int .i64 0, .int .i64 0, .int .i64 0, .int .i64 0, .slice none 0 0, .slice none 0 0] 25) = W1 at hc ⊢
            generalize W.heap.size = gO at hc ⊢
            (refine hK.out _ _ ?_ (fun hHeld => ?_); (focus ((try dsimp only); exact hc.keep c9)); clear hK K; (try simp only [Act.put, List.setIfInBounds_toArray, List.set_cons_zero, List.set_cons_succ]))
            obtain ⟨W, rfl⟩ : ∃ W : World, W = W1 := ⟨_, rfl⟩
            (refine wpAnyS_seq (by rfl) (by kernel_rfl) ?_; simp only [List.drop_succ_cons, List.drop_zero])
            clear hHeld
            go_wp2_with ((with_reducible show wpList _ _ _ _ _ _); refine wpl_storeA rfl 25 _ _ rfl Tryd.aMsg hc (0) rfl ([.int .i64 (numA P 0), .int .i64 (numA P 1), .int .i64 (numA P 2), .int .i64 (numA P 3), .slice none 0 0, .slice ua nd uc]) rfl (by rfl) (by simp) (by intro u hu; simp at hu; rcases hu with rfl | rfl | rfl | rfl | rfl | rfl <;> rfl) ?_; intro w9 hs9)
            go_meet
            exact ⟨gO, rfl, hs9.cast rfl (by simp)⟩
          refine AllS.consL rfl (fun K hK => ?_) ?_
          · go_simp
            replace hc := hc.madeAt ([.int .i64 0, .int .i64 0, .int .i64 0, .int .i64 0, .slice none 0 0, .slice none 0 0]).toArray 25 6 1 W.heap.size rfl (by simp [maxLen]) rfl
            change St w (W.alloc (Obj.cells #[.int .i64 0, .int .i64 0, .int .i64 0, .int .i64 0, .slice none 0 0, .slice none 0 0] 25)) _ _ at hc
            generalize W.alloc (Obj.cells #[.int .i64 0, .int .i64 0, .int .i64 0, .int .i64 0, .slice none 0 0, .slice none 0 0] 25) = W1 at hc ⊢
            generalize W.heap.size = gO at hc ⊢
            (refine hK.out _ _ ?_ (fun hHeld => ?_); (focus ((try dsimp only); exact hc.keep c9)); clear hK K; (try simp only [Act.put, List.setIfInBounds_toArray, List.set_cons_zero, List.set_cons_succ]))
            obtain ⟨W, rfl⟩ : ∃ W : World, W = W1 := ⟨_, rfl⟩
            (refine wpAnyS_ready (rs := [7]) (by kernel_rfl) (by simp) ?_; refine AllS.consL rfl (fun K hK => ?_) AllS.nil)
            (go_simp; go_at_call 48; refine (number_any _ P 3 W (HL.out _ hc.bare) (by exact HSP.out _ _ hc) HPZ.out (by omega)).mono ?_; rintro e w' ⟨rfl, hk⟩; go_wp2_with fail)
            replace hc := hc.call0 hk
            (refine hK.out _ _ ?_ (fun hHeld => ?_); (focus ((try dsimp only); exact hc.keep c9)); clear hK K; (try simp only [Act.put, List.setIfInBounds_toArray, List.set_cons_zero, List.set_cons_succ]))
            obtain ⟨W, rfl⟩ : ∃ W : World, W = w' := ⟨_, rfl⟩
            clear hk
            (refine wpAnyS_takeW (i := 14) (v := ?_) rfl (by kernel_rfl) (by kernel_rfl) (by kernel_rfl) (by kernel_rfl) (fun _ _ _ h => h) (Or.inl ⟨by rfl, ?_⟩) hHeld ?_; rotate_left 1; (focus (intro w' hSw; go_simp; (try with_reducible rfl))); (try simp only [Act.put, List.setIfInBounds_toArray, List.set_cons_zero, List.set_cons_succ]))
            (refine wpAnyS_seq (by rfl) (by kernel_rfl) ?_; simp only [List.drop_succ_cons, List.drop_zero])
            clear hHeld
            go_wp2_with ((with_reducible show wpList _ _ _ _ _ _); refine wpl_storeA rfl 25 _ _ rfl Tryd.aMsg hc (0) rfl ([.int .i64 (numA P 0), .int .i64 (numA P 1), .int .i64 (numA P 2), .int .i64 (numA P 3), .slice none 0 0, .slice ua nd uc]) rfl (by rfl) (by simp) (by intro u hu; simp at hu; rcases hu with rfl | rfl | rfl | rfl | rfl | rfl <;> rfl) ?_; intro w9 hs9)
            go_meet
            exact ⟨gO, rfl, hs9.cast rfl (by simp)⟩
          exact AllS.nil
        refine AllS.consL rfl (fun K hK => ?_) ?_
        · go_simp
          replace hc := hc.madeAt ([.int .i64 0, .int .i64 0, .int .i64 0, .int .i64 0, .slice none 0 0, .slice none 0 0]).toArray 25 6 1 W.heap.size rfl (by simp [maxLen]) rfl
          change St w (W.alloc (Obj.cells #[.int .i64 0, .int .i64 0, .int .i64 0, .int .i64 0, .slice none 0 0, .slice none 0 0] 25)) _ _ at hc
          generalize W.alloc (Obj.cells #[.int .i64 0, .int .i64 0, .int .i64 0, .int .i64 0, .slice none 0 0, .slice none 0 0] 25) = W1 at hc ⊢
          generalize W.heap.size = gO at hc ⊢
          (refine hK.out _ _ ?_ (fun hHeld => ?_); (focus ((try dsimp only); exact hc.keep c9)); clear hK K; (try simp only [Act.put, List.setIfInBounds_toArray, List.set_cons_zero, List.set_cons_succ]))
          obtain ⟨W, rfl⟩ : ∃ W : World, W = W1 := ⟨_, rfl⟩
          (refine wpAnyS_ready (rs := [5]) (by kernel_rfl) (by simp) ?_; refine AllS.consL rfl (fun K hK => ?_) AllS.nil)
          (go_simp; go_at_call 48; refine (number_any _ P 2 W (HL.out _ hc.bare) (by exact HSP.out _ _ hc) HPZ.out (by omega)).mono ?_; rintro e w' ⟨rfl, hk⟩; go_wp2_with fail)
          replace hc := hc.call0 hk
          (refine hK.out _ _ ?_ (fun hHeld => ?_); (focus ((try dsimp only); exact hc.keep c9)); clear hK K; (try simp only [Act.put, List.setIfInBounds_toArray, List.set_cons_zero, List.set_cons_succ]))
          obtain ⟨W, rfl⟩ : ∃ W : World, W = w' := ⟨_, rfl⟩
          clear hk
          (refine wpAnyS_ready (rs := [7]) (by kernel_rfl) (by simp) ?_; refine AllS.consL rfl (fun K hK => ?_) AllS.nil)
          (go_simp; go_at_call 48; refine (number_any _ P 3 W (HL.out _ hc.bare) (by exact HSP.out _ _ hc) HPZ.out (by omega)).mono ?_; rintro e w' ⟨rfl, hk⟩; go_wp2_with fail)
          replace hc := hc.call0 hk
          (refine hK.out _ _ ?_ (fun hHeld => ?_); (focus ((try dsimp only); exact hc.keep c9)); clear hK K; (try simp only [Act.put, List.setIfInBounds_toArray, List.set_cons_zero, List.set_cons_succ]))
          obtain ⟨W, rfl⟩ : ∃ W : World, W = w' := ⟨_, rfl⟩
          clear hk
          (refine wpAnyS_takeW (i := 14) (v := ?_) rfl (by kernel_rfl) (by kernel_rfl) (by kernel_rfl) (by kernel_rfl) (fun _ _ _ h => h) (Or.inl ⟨by rfl, ?_⟩) hHeld ?_; rotate_left 1; (focus (intro w' hSw; go_simp; (try with_reducible rfl))); (try simp only [Act.put, List.setIfInBounds_toArray, List.set_cons_zero, List.set_cons_succ]))
          (refine wpAnyS_seq (by rfl) (by kernel_rfl) ?_; simp only [List.drop_succ_cons, List.drop_zero])
          clear hHeld
          go_wp2_with ((with_reducible show wpList _ _ _ _ _ _); refine wpl_storeA rfl 25 _ _ rfl Tryd.aMsg hc (0) rfl ([.int .i64 (numA P 0), .int .i64 (numA P 1), .int .i64 (numA P 2), .int .i64 (numA P 3), .slice none 0 0, .slice ua nd uc]) rfl (by rfl) (by simp) (by intro u hu; simp at hu; rcases hu with rfl | rfl | rfl | rfl | rfl | rfl <;> rfl) ?_; intro w9 hs9)
          go_meet
          exact ⟨gO, rfl, hs9.cast rfl (by simp)⟩
        exact AllS.nil
      refine AllS.consL rfl (fun K hK => ?_) ?_
      · go_simp
        replace hc := hc.madeAt ([.int .i64 0, .int .i64 0, .int .i64 0, .int .i64 0, .slice none 0 0, .slice none 0 0]).toArray 25 6 1 W.heap.size rfl (by simp [maxLen]) rfl
        change St w (W.alloc (Obj.cells #[.int .i64 0, .int .i64 0, .int .i64 0, .int .i64 0, .slice none 0 0, .slice none 0 0] 25)) _ _ at hc
        generalize W.alloc (Obj.cells #[.int .i64 0, .int .i64 0, .int .i64 0, .int .i64 0, .slice none 0 0, .slice none 0 0] 25) = W1 at hc ⊢
        generalize W.heap.size = gO at hc ⊢
        (refine hK.out _ _ ?_ (fun hHeld => ?_); (focus ((try dsimp only); exact hc.keep c9)); clear hK K; (try simp only [Act.put, List.setIfInBounds_toArray, List.set_cons_zero, List.set_cons_succ]))
        obtain ⟨W, rfl⟩ : ∃ W : World, W = W1 := ⟨_, rfl⟩
        (refine wpAnyS_ready (rs := [3]) (by kernel_rfl) (by simp) ?_; refine AllS.consL rfl (fun K hK => ?_) AllS.nil)
        (go_simp; go_at_call 48; refine (number_any _ P 1 W (HL.out _ hc.bare) (by exact HSP.out _ _ hc) HPZ.out (by omega)).mono ?_; rintro e w' ⟨rfl, hk⟩; go_wp2_with fail)
        replace hc := hc.call0 hk
        (refine hK.out _ _ ?_ (fun hHeld => ?_); (focus ((try dsimp only); exact hc.keep c9)); clear hK K; (try simp only [Act.put, List.setIfInBounds_toArray, List.set_cons_zero, List.set_cons_succ]))
        obtain ⟨W, rfl⟩ : ∃ W : World, W = w' := ⟨_, rfl⟩
        clear hk
        (refine wpAnyS_ready (rs := [5]) (by kernel_rfl) (by simp) ?_; refine AllS.consL rfl (fun K hK => ?_) AllS.nil)
        (go_simp; go_at_call 48; refine (number_any _ P 2 W (HL.out _ hc.bare) (by exact HSP.out _ _ hc) HPZ.out (by omega)).mono ?_; rintro e w' ⟨rfl, hk⟩; go_wp2_with fail)
        replace hc := hc.call0 hk
        (refine hK.out _ _ ?_ (fun hHeld => ?_); (focus ((try dsimp only); exact hc.keep c9)); clear hK K; (try simp only [Act.put, List.setIfInBounds_toArray, List.set_cons_zero, List.set_cons_succ]))
        obtain ⟨W, rfl⟩ : ∃ W : World, W = w' := ⟨_, rfl⟩
        clear hk
        (refine wpAnyS_ready (rs := [7]) (by kernel_rfl) (by simp) ?_; refine AllS.consL rfl (fun K hK => ?_) AllS.nil)
        (go_simp; go_at_call 48; refine (number_any _ P 3 W (HL.out _ hc.bare) (by exact HSP.out _ _ hc) HPZ.out (by omega)).mono ?_; rintro e w' ⟨rfl, hk⟩; go_wp2_with fail)
        replace hc := hc.call0 hk
        (refine hK.out _ _ ?_ (fun hHeld => ?_); (focus ((try dsimp only); exact hc.keep c9)); clear hK K; (try simp only [Act.put, List.setIfInBounds_toArray, List.set_cons_zero, List.set_cons_succ]))
        obtain ⟨W, rfl⟩ : ∃ W : World, W = w' := ⟨_, rfl⟩
        clear hk
        (refine wpAnyS_takeW (i := 14) (v := ?_) rfl (by kernel_rfl) (by kernel_rfl) (by kernel_rfl) (by kernel_rfl) (fun _ _ _ h => h) (Or.inl ⟨by rfl, ?_⟩) hHeld ?_; rotate_left 1; (focus (intro w' hSw; go_simp; (try with_reducible rfl))); (try simp only [Act.put, List.setIfInBounds_toArray, List.set_cons_zero, List.set_cons_succ]))
        (refine wpAnyS_seq (by rfl) (by kernel_rfl) ?_; simp only [List.drop_succ_cons, List.drop_zero])
        clear hHeld
        go_wp2_with ((with_reducible show wpList _ _ _ _ _ _); refine wpl_storeA rfl 25 _ _ rfl Tryd.aMsg hc (0) rfl ([.int .i64 (numA P 0), .int .i64 (numA P 1), .int .i64 (numA P 2), .int .i64 (numA P 3), .slice none 0 0, .slice ua nd uc]) rfl (by rfl) (by simp) (by intro u hu; simp at hu; rcases hu with rfl | rfl | rfl | rfl | rfl | rfl <;> rfl) ?_; intro w9 hs9)
        go_meet
        exact ⟨gO, rfl, hs9.cast rfl (by simp)⟩
      exact AllS.nil
    refine AllS.consL rfl (fun K hK => ?_) ?_
    · go_simp
      replace hc := hc.madeAt ([.int .i64 0, .int .i64 0, .int .i64 0, .int .i64 0, .slice none 0 0, .slice none 0 0]).toArray 25 6 1 W.heap.size rfl (by simp [maxLen]) rfl
      change St w (W.alloc (Obj.cells #[.int .i64 0, .int .i64 0, .int .i64 0, .int .i64 0, .slice none 0 0, .slice none 0 0] 25)) _ _ at hc
      generalize W.alloc (Obj.cells #[.int .i64 0, .int .i64 0, .int .i64 0, .int .i64 0, .slice none 0 0, .slice none 0 0] 25) = W1 at hc ⊢
      generalize W.heap.size = gO at hc ⊢
      (refine hK.out _ _ ?_ (fun hHeld => ?_); (focus ((try dsimp only); exact hc.keep c9)); clear hK K; (try simp only [Act.put, List.setIfInBounds_toArray, List.set_cons_zero, List.set_cons_succ]))
      obtain ⟨W, rfl⟩ : ∃ W : World, W = W1 := ⟨_, rfl⟩
      (refine wpAnyS_ready (rs := [1]) (by kernel_rfl) (by simp) ?_; refine AllS.consL rfl (fun K hK => ?_) AllS.nil)
      (go_simp; go_at_call 48; refine (number_any _ P 0 W (HL.out _ hc.bare) (by exact HSP.out _ _ hc) HPZ.out (by omega)).mono ?_; rintro e w' ⟨rfl, hk⟩; go_wp2_with fail)
      replace hc := hc.call0 hk
      (refine hK.out _ _ ?_ (fun hHeld => ?_); (focus ((try dsimp only); exact hc.keep c9)); clear hK K; (try simp only [Act.put, List.setIfInBounds_toArray, List.set_cons_zero, List.set_cons_succ]))
      obtain ⟨W, rfl⟩ : ∃ W : World, W = w' := ⟨_, rfl⟩
      clear hk
      (refine wpAnyS_ready (rs := [3]) (by kernel_rfl) (by simp) ?_; refine AllS.consL rfl (fun K hK => ?_) AllS.nil)
      (go_simp; go_at_call 48; refine (number_any _ P 1 W (HL.out _ hc.bare) (by exact HSP.out _ _ hc) HPZ.out (by omega)).mono ?_; rintro e w' ⟨rfl, hk⟩; go_wp2_with fail)
      replace hc := hc.call0 hk
      (refine hK.out _ _ ?_ (fun hHeld => ?_); (focus ((try dsimp only); exact hc.keep c9)); clear hK K; (try simp only [Act.put, List.setIfInBounds_toArray, List.set_cons_zero, List.set_cons_succ]))
      obtain ⟨W, rfl⟩ : ∃ W : World, W = w' := ⟨_, rfl⟩
      clear hk
      (refine wpAnyS_ready (rs := [5]) (by kernel_rfl) (by simp) ?_; refine AllS.consL rfl (fun K hK => ?_) AllS.nil)
      (go_simp; go_at_call 48; refine (number_any _ P 2 W (HL.out _ hc.bare) (by exact HSP.out _ _ hc) HPZ.out (by omega)).mono ?_; rintro e w' ⟨rfl, hk⟩; go_wp2_with fail)
      replace hc := hc.call0 hk
      (refine hK.out _ _ ?_ (fun hHeld => ?_); (focus ((try dsimp only); exact hc.keep c9)); clear hK K; (try simp only [Act.put, List.setIfInBounds_toArray, List.set_cons_zero, List.set_cons_succ]))
      obtain ⟨W, rfl⟩ : ∃ W : World, W = w' := ⟨_, rfl⟩
      clear hk
      (refine wpAnyS_ready (rs := [7]) (by kernel_rfl) (by simp) ?_; refine AllS.consL rfl (fun K hK => ?_) AllS.nil)
      (go_simp; go_at_call 48; refine (number_any _ P 3 W (HL.out _ hc.bare) (by exact HSP.out _ _ hc) HPZ.out (by omega)).mono ?_; rintro e w' ⟨rfl, hk⟩; go_wp2_with fail)
      replace hc := hc.call0 hk
      (refine hK.out _ _ ?_ (fun hHeld => ?_); (focus ((try dsimp only); exact hc.keep c9)); clear hK K; (try simp only [Act.put, List.setIfInBounds_toArray, List.set_cons_zero, List.set_cons_succ]))
      obtain ⟨W, rfl⟩ : ∃ W : World, W = w' := ⟨_, rfl⟩
      clear hk
      (refine wpAnyS_takeW (i := 14) (v := ?_) rfl (by kernel_rfl) (by kernel_rfl) (by kernel_rfl) (by kernel_rfl) (fun _ _ _ h => h) (Or.inl ⟨by rfl, ?_⟩) hHeld ?_; rotate_left 1; (focus (intro w' hSw; go_simp; (try with_reducible rfl))); (try simp only [Act.put, List.setIfInBounds_toArray, List.set_cons_zero, List.set_cons_succ]))
      (refine wpAnyS_seq (by rfl) (by kernel_rfl) ?_; simp only [List.drop_succ_cons, List.drop_zero])
      clear hHeld
      go_wp2_with ((with_reducible show wpList _ _ _ _ _ _); refine wpl_storeA rfl 25 _ _ rfl Tryd.aMsg hc (0) rfl ([.int .i64 (numA P 0), .int .i64 (numA P 1), .int .i64 (numA P 2), .int .i64 (numA P 3), .slice none 0 0, .slice ua nd uc]) rfl (by rfl) (by simp) (by intro u hu; simp at hu; rcases hu with rfl | rfl | rfl | rfl | rfl | rfl <;> rfl) ?_; intro w9 hs9)
      go_meet
      exact ⟨gO, rfl, hs9.cast rfl (by simp)⟩
    exact AllS.nil
  case rest =>
    obtain ⟨gO, rfl, hs⟩ := hcut
    clear hs2
    have hmidl : ((l.take (l.length - 2)).drop 1).length = l.length - 2 - 1 := by rw [List.length_drop, List.length_take]; omega
    have HMG := Mx.hid (fun (k : Nat) (hk : k < l.length - 2 - 1) => (show ((l.take (l.length - 2)).drop 1)[k]? = some (l[k + 1]'(by omega)) by
      rw [List.getElem?_drop, List.getElem?_take, if_pos (by omega), Nat.add_comm 1 k, List.getElem?_eq_getElem (by omega)]))
    have HML := Mx.hid hmidl
    clear hmidl
    generalize (l.take (l.length - 2)).drop 1 = mid at *
    have n5 : IntKind.i64.wrap ((l.length : Int) - 2) = (l.length : Int) - 2 := IntWalk.i64_in _ (by omega)
    go_wp2_with ((with_reducible show wpList _ _ _ _ _ _); refine wpl_cut rfl 43 _ _ _ rfl Tryd.elBs (by exact HSV.out) 1 (l.length - 2) (.inr ⟨.i64, rfl⟩) (.inr ⟨.i64, congrArg some (congrArg (Value.int .i64) (show (l.length : Int) - 2 = ((l.length - 2 : Nat) : Int) by omega))⟩) (by omega) (by omega) ?_; intro v5 hc5; have hv5 := hc5 w HSV.out; obtain ⟨a5, c5, rfl, -⟩ := id hv5)
    have HV5 := Mx.hid hv5
    clear hv5 n5
    go_loopw [37] (fun y wr => ∃ (i : Nat) (iv : Value), y = .int .i64 i ∧ i ≤ l.length - 2 - 1 ∧ St w wr [⟨iv, 9, 1, i, ss ((mid.take i).map str)⟩, ⟨.slice (some ⟨gO, 0, none⟩) 1 1, 25, 6, 1, [.int .i64 (numA P 0), .int .i64 (numA P 1), .int .i64 (numA P 2), .int .i64 (numA P 3), iv, .slice ua nd uc]⟩, ⟨.slice (some ⟨gR, 0, none⟩) 1 1, 25, 6, 1, [.int .i64 0, .int .i64 0, .int .i64 0, .int .i64 0, .slice none 0 0, .slice none 0 0]⟩] []) (fun y _ => (l.length - 2 - 1) - (intOf y).toNat)
    case atStart => exact ⟨0, _, rfl, by omega, hs.noQ.addNil _ _⟩
    case round =>
      clear hs
      obtain ⟨i, iv, rfl, hi, hs⟩ := hrel
      obtain ⟨ia, ic, rfl, -⟩ := id hs.sl0
      have x4 : wr.cell? ⟨gO, 4, none⟩ = some (.slice ia i ic) := hs.rcell (List.mem_cons_of_mem _ (List.mem_cons_self ..)) (j := 4) rfl
      by_cases hlt : i < l.length - 2 - 1
      · obtain ⟨la, lc, hvi, hsi⟩ := HVM.out (i + 1) (by omega)
        obtain ⟨b5, o5, rfl, cc⟩ := Sl.cellAny HV5.out (j := i) (u := .slice la l[i + 1].length lc) (by
          rw [Nat.mul_one, Nat.mul_one, List.getElem?_drop, List.getElem?_take, if_pos (by omega), Nat.add_comm 1 i]
          exact hvi)
        replace cc := hs.keep cc
        have hzi := HZ.out l[i + 1] (List.getElem_mem (by omega))
        have HTK := Mx.hid (show ss ((mid.take (i + 1)).map str) = ss ((mid.take i).map str) ++ [.string (str l[i + 1])] by
          rw [List.take_add_one, HMG.out i hlt, List.map_append, ss_app]
          rfl)
        have hlp := hs.old hsi
        have hii : (i : Int) < ((l.length - 2 - 1 : Nat) : Int) := by omega
        clear hvi hsi
        generalize l[i + 1] = p at *
        go_wp2_with (first | ((with_reducible show wpList _ _ _ _ _ _); refine wpl_b2s rfl 23 9 5 _ rfl Tryd.underlying23 Tryd.underlying5 Tryd.underlying9 (by exact hlp) ?_) | (at_builtin; refine wpl_app rfl _ _ 22 rfl Tryd.elStr (hs.alloc _) rfl (by exact Sl.one _ _ _) (by intro u hu; simp at hu; subst hu; rfl) (by omega) ?_; intro v6 w6 hs6 _; obtain ⟨va6, vc6, rfl, _⟩ := id hs6.sl0) | ((with_reducible show wpList _ _ _ _ _ _); refine wpl_store1 rfl 22 _ _ rfl hs6.swap (4) rfl (.slice va6 (i + 1) vc6) rfl rfl (by kernel_rfl) (by simp) rfl ?_; intro w7 hs7))
        exact ⟨⟨i + 1, .slice va6 (i + 1) vc6, by go_num, by omega, (hs7.cast rfl (show _ = [.int .i64 (numA P 0), .int .i64 (numA P 1), .int .i64 (numA P 2), .int .i64 (numA P 3), .slice va6 (i + 1) vc6, .slice ua nd uc] by simp)).swap.cast rfl HTK.out.symm⟩, by simp [intOf]; omega⟩
      · obtain rfl : i = l.length - 2 - 1 := by omega
        have hmt : mid.take (l.length - 2 - 1) = mid := List.take_of_length_le (by rw [HML.out]; exact Nat.le_refl _)
        rw [hmt] at hs
        have hge : decide (((l.length - 2 - 1 : Nat) : Int) < ((l.length - 2 - 1 : Nat) : Int)) = false := decide_eq_false (by omega)
        clear hmt x4 HMG HV5 hc5
        generalize hN3 : l.length - 2 - 1 = n3 at *
        have hrot := hs.rot.rot
        go_wp2_with (first | ((with_reducible show wpList _ _ _ _ _ _); refine wpl_loadA rfl 25 _ rfl Tryd.aMsg (gO) (0) rfl ([.int .i64 (numA P 0), .int .i64 (numA P 1), .int .i64 (numA P 2), .int .i64 (numA P 3), .slice ia n3 ic, .slice ua nd uc]) rfl (VCof hs (List.mem_cons_of_mem _ (List.mem_cons_self ..))) ?_) | ((with_reducible show wpList _ _ _ _ _ _); refine wpl_storeA rfl 25 _ _ rfl Tryd.aMsg hrot (0) rfl ([.int .i64 (numA P 0), .int .i64 (numA P 1), .int .i64 (numA P 2), .int .i64 (numA P 3), .slice ia n3 ic, .slice ua nd uc]) rfl (by rfl) (by simp) (by intro u hu; simp at hu; rcases hu with rfl | rfl | rfl | rfl | rfl | rfl <;> rfl) ?_; intro w9 hs9))
        replace hs9 := hs9.cast rfl (show _ = [.int .i64 (numA P 0), .int .i64 (numA P 1), .int .i64 (numA P 2), .int .i64 (numA P 3), .slice ia n3 ic, .slice ua nd uc] by simp)
        have hcw : ∀ i u, ([.int .i64 (numA P 0), .int .i64 (numA P 1), .int .i64 (numA P 2), .int .i64 (numA P 3), .slice ia n3 ic, .slice ua nd uc] : List Value)[i]? = some u → w9.cell? ⟨gR, i, none⟩ = some u := fun i u h => hs9.rcell (List.mem_cons_self ..) h
        refine bodyPost_ret (v := .agg ([.int .i64 (numA P 0), .int .i64 (numA P 1), .int .i64 (numA P 2), .int .i64 (numA P 3), .slice ia n3 ic, .slice ua nd uc] : List Value).toArray) (results_cellA Tryd.results30 _ Tryd.aMsg (g := gR) [.int .i64 (numA P 0), .int .i64 (numA P 1), .int .i64 (numA P 2), .int .i64 (numA P 3), .slice ia n3 ic, .slice ua nd uc] ?_ rfl hcw) ?_ ?_
        · first | (simp; done) | simp [Act.put]
        · first | (simp; done) | simp [Act.put]
        · unfold ReadO
          rw [HRM.out]
          have hml : (mid.map str).length = n3 := by rw [List.length_map, HML.out]
          refine ⟨.slice ia n3 ic, .slice ua nd uc, rfl, hs9.bare, ⟨?_, ?_⟩, ?_, ?_⟩
          · show Sl w9 1 _ (mid.map str).length _
            rw [hml]
            exact hs9.sl1
          · show Sl w9 1 _ D.length (bs D)
            rw [HND.out]
            exact hs9.old HSLD.out
          · show Ow w9 base _ 1 _ (mid.map str).length _
            rw [hml]
            exact (hs9.own _ (List.mem_cons_of_mem _ (List.mem_cons_self ..))).mono hbase
          · show Ow w9 base _ 1 _ D.length (bs D)
            rw [HND.out]
            exact HOD.out.old hs9.bare
end Go.Proofs.YtloogjdafhjheaaDoor

namespace Go.Mx
open Go Go.RowKit
theorem St.addEnd {w0 w : World} {R : List Row} (h : St w0 w R []) {r : Row} (ho : Ow w w0.heap.size r.e r.size r.v r.n r.xs) (hs : ∀ s ∈ R, ∀ b, s.v.ownBlock = some b → r.v.ownBlock ≠ some b) : St w0 w (R ++ [r]) [] where
  below := h.below
  own s hr := by
    rcases List.mem_append.1 hr with hr | hr
    · exact h.own s hr
    · rw [List.mem_singleton.1 hr]; exact ho
  sep := List.pairwise_append.2 ⟨h.sep, List.pairwise_singleton .., fun a ha b hb => by rw [List.mem_singleton.1 hb]; exact hs a ha⟩
  rd := by simp
  apart := by simp
theorem Ow.typeApart {w : World} {base base' : Nat} {e e' : TypeId} {size size' n n' : Nat} {v v' : Value} {xs xs' : List Value} (h : Ow w base e size v n xs) (h' : Ow w base' e' size' v' n' xs') (hne : e ≠ e') : ∀ b, v.ownBlock = some b → v'.ownBlock ≠ some b := by
  intro b hb hb'
  rcases h.2 with ⟨rfl, _⟩ | ⟨g, cap, cur, fr, rfl, _, hg, _⟩
  · cases hb
  rcases h'.2 with ⟨rfl, _⟩ | ⟨g', cap', cur', fr', rfl, _, hg', _⟩
  · cases hb'
  simp only [Value.ownBlock] at hb hb'
  obtain rfl : g = b := by simpa using hb
  obtain rfl : g' = g := by simpa using hb'
  rw [hg] at hg'
  cases hg'
  exact hne rfl
end Go.Mx
namespace Go.Proofs.YtloogjdafhjheaaDoor
open Go.RowKit Go.Mx
def DecO (b : List UInt8) (w : World) (e : Ending) (w' : World) : Prop :=
  ∃ iv dv M er, e = .returned (.tuple #[MV iv dv M, .int .i64 er]) ∧ St w w' [] [] ∧ MB w' iv dv M ∧ DecM b M er ∧ Ow w' w.heap.size 9 1 iv M.ids.length (ss M.ids) ∧ Ow w' w.heap.size 5 1 dv M.data.length (bs M.data)
set_option maxRecDepth 200000 in
set_option maxHeartbeats 4000000 in
theorem decO_any (v : Value) (b : List UInt8) (w : World) (hv : Sl w 1 v b.length (bs b)) (hb : b.length ≤ 1000000) (hL : LdP w) :
    Calls Tryd.prog 12 #[v] w (DecO b w) := by
  have HL := Mx.hid (fun wx (hs : St w wx [] []) => hL.keep hs)
  have HV := Mx.hid hv
  obtain ⟨ao, cap, rfl, c1, c2, -⟩ := hv.form
  unfold maxLen at c2
  have hs0 := (St.refl w).madeAt ([.int .i64 0, .int .i64 0, .int .i64 0, .int .i64 0, .slice none 0 0, .slice none 0 0]).toArray 25 6 1 w.heap.size rfl (by simp [maxLen]) rfl
  clear hv hL
  go_enter Tryd.func12, Tryd.ntmps12
  go_upto_region 1 with fail
  change Code.wp _ _ _ _ (w.alloc (.cells #[.int .i64 0, .int .i64 0, .int .i64 0, .int .i64 0, .slice none 0 0, .slice none 0 0] 25))
  change St w (w.alloc (.cells #[.int .i64 0, .int .i64 0, .int .i64 0, .int .i64 0, .slice none 0 0, .slice none 0 0] 25)) _ _ at hs0
  generalize w.alloc (.cells #[.int .i64 0, .int .i64 0, .int .i64 0, .int .i64 0, .slice none 0 0, .slice none 0 0] 25) = w1 at hs0 ⊢
  generalize w.heap.size = gR at hs0 ⊢
  by_cases h8 : b.length < 8
  · have q1 : decide ((b.length : Int) < 8) = true := decide_eq_true (by omega)
    have HD := Mx.hid (dec_short h8)
    go_wp2_with ((with_reducible show wpList _ _ _ _ _ _); refine wpl_storeA rfl 25 _ _ rfl Tryd.aMsg hs0 (0) rfl ([.int .i64 0, .int .i64 0, .int .i64 0, .int .i64 0, .slice none 0 0, .slice none 0 0]) rfl (by rfl) (by simp) (by intro u hu; simp at hu; rcases hu with rfl | rfl | rfl | rfl | rfl | rfl <;> rfl) ?_; intro w9 hs9)
    replace hs9 := hs9.cast rfl (show _ = [.int .i64 0, .int .i64 0, .int .i64 0, .int .i64 0, .slice none 0 0, .slice none 0 0] by simp)
    have hcw : ∀ i u, ([.int .i64 0, .int .i64 0, .int .i64 0, .int .i64 0, .slice none 0 0, .slice none 0 0])[i]? = some u → w9.cell? ⟨gR, i, none⟩ = some u := fun i u h => hs9.rcell (List.mem_cons_self ..) h
    refine bodyPost_ret (v := .tuple #[.agg ([.int .i64 0, .int .i64 0, .int .i64 0, .int .i64 0, .slice none 0 0, .slice none 0 0]).toArray, .int .i64 2]) (results_cellA2 Tryd.results12 _ Tryd.aMsg (g := gR) ([.int .i64 0, .int .i64 0, .int .i64 0, .int .i64 0, .slice none 0 0, .slice none 0 0]) ?_ rfl hcw ?_) ?_ ?_
    · first | (simp; done) | simp [Act.put]
    · first | (simp; done) | simp [Act.put]
    · first | (simp; done) | simp [Act.put]
    · exact ⟨.slice none 0 0, .slice none 0 0, noMs, 2, rfl, hs9.bare, ⟨Sl.nil _ _, Sl.nil _ _⟩, HD.out, Ow.nil _ _ _ _, Ow.nil _ _ _ _⟩
  have H8 := Mx.hid h8
  have q1 : decide ((b.length : Int) < 8) = false := decide_eq_false (by omega)
  obtain ⟨nb, hnb⟩ : ∃ nb, nb = b.length - 4 := ⟨_, rfl⟩
  have hnb4 : 4 ≤ nb := by omega
  have HNB := Mx.hid hnb
  have HNI := Mx.hid (show (b.length : Int) - 4 = (nb : Int) by omega)
  have hnle : nb ≤ b.length := by omega
  have hnbl : nb ≤ 1000000 := by omega
  clear hnb
  have n5 : IntKind.i64.wrap ((b.length : Int) - 4) = (b.length : Int) - 4 := IntWalk.i64_in _ (by omega)
  have hv1 := hs0.old HV.out
  go_upto_region 4 with ((with_reducible show wpList _ _ _ _ _ _); refine wpl_cut rfl 23 _ _ _ rfl Tryd.elU8 (by exact hv1) 0 nb (.inl ⟨rfl, rfl⟩) (.inr ⟨.i64, congrArg some (congrArg (Value.int .i64) HNI.out)⟩) (by omega) (by omega) ?_; intro v4 hc4; have hv4 := hc4 w HV.out; rw [Nat.sub_zero] at hv4; obtain ⟨a4, c4, rfl, -⟩ := id hv4)
  have hbt : (b.take nb).length = nb := by rw [List.length_take]; omega
  have e4 : ((bs b).take (nb * 1)).drop (0 * 1) = bs (b.take nb) := by rw [bs_cut]; simp
  rw [e4] at hv4
  have HBT := Mx.hid hbt
  have HV4 := Mx.hid hv4
  obtain ⟨x9, p9, q9⟩ := HV.out.cutRun (P := Tryd.prog) Tryd.elU8 (some (.int .i64 (nb : Int))) none nb b.length (.inr ⟨.i64, rfl⟩) (.inl ⟨rfl, rfl⟩) (by omega) (Nat.le_refl _)
  have hx9 := q9 w HV.out
  have e9 : ((bs b).take (b.length * 1)).drop (nb * 1) = bs (b.drop nb) := by rw [bs_cut, List.take_length]
  rw [e9] at hx9
  have HDL := Mx.hid (show (b.drop nb).length = b.length - nb from List.length_drop)
  have HX9 := Mx.hid hx9
  obtain ⟨xa, xc, rfl, -⟩ := id hx9
  have HERR := Mx.hid (show b.length - 4 = nb from HNB.out.symm)
  clear hbt e4 hv4 hc4 q9 hx9 e9 n5 hv1
  have hc := hs0.drew
  have HSUM := Mx.hid (fun wx (R : List Row) (Q : List Rd) (h : St w wx R Q) => sum_any (.slice a4 nb c4) (b.take nb) wx (by rw [HBT.out]; exact h.old HV4.out) (by rw [HBT.out]; omega))
  have HFL := Mx.hid (fourL_len (crcS (b.take nb)))
  have HBTK : Hid (∃ F, F = fourL (crcS (b.take nb))) := ⟨_, rfl⟩
  obtain ⟨F, hF⟩ := HBTK.out
  rw [← hF] at HSUM HFL
  have HF := Mx.hid hF
  clear hF HBTK
  (refine wp_region_S (7) (fun _ => True) (by kernel_rfl) ?_ (fun hHeld => ?_); (focus ((try dsimp only); (first | done | trivial))))
  (refine wpAnyS_takeW (i := 0) (v := ?_) rfl (by kernel_rfl) (by kernel_rfl) (by kernel_rfl) (by kernel_rfl) (fun _ _ _ h => h) (Or.inl ⟨by rfl, ?_⟩) hHeld ?_; rotate_left 1; (focus (intro w' hSw; go_simp; (try with_reducible rfl))); (try simp only [Act.put, List.setIfInBounds_toArray, List.set_cons_zero, List.set_cons_succ]))
  (refine wpAnyS_takeW (i := 2) (v := ?_) rfl (by kernel_rfl) (by kernel_rfl) (by kernel_rfl) (by kernel_rfl) (fun _ _ _ h => h) (Or.inl ⟨by rfl, ?_⟩) hHeld ?_; rotate_left 1; (focus (intro w' hSw; go_simp; (try with_reducible rfl))); (try simp only [Act.put, List.setIfInBounds_toArray, List.set_cons_zero, List.set_cons_succ]))
  (refine wpAnyS_takeW (i := 3) (v := ?_) rfl (by kernel_rfl) (by kernel_rfl) (by kernel_rfl) (by kernel_rfl) (fun _ _ _ h => h) (Or.inl ⟨by rfl, ?_⟩) hHeld ?_; rotate_left 1; (focus (intro w' hSw; go_simp; (try with_reducible rfl))); (try simp only [Act.put, List.setIfInBounds_toArray, List.set_cons_zero, List.set_cons_succ]))
  (refine wpAnyS_takeW (i := 4) (v := ?_) rfl (by kernel_rfl) (by kernel_rfl) (by kernel_rfl) (by kernel_rfl) (fun _ _ _ h => h) (Or.inl ⟨by rfl, ?_⟩) hHeld ?_; rotate_left 1; (focus (intro w' hSw; go_simp; (try with_reducible rfl))); (try simp only [Act.put, List.setIfInBounds_toArray, List.set_cons_zero, List.set_cons_succ]))
  (refine wpAnyS_takeW (i := 5) (v := ?_) rfl (by kernel_rfl) (by kernel_rfl) (by kernel_rfl) (by kernel_rfl) (fun _ _ _ h => h) (Or.inl ⟨by rfl, ?_⟩) hHeld ?_; rotate_left 1; (focus (intro w' hSw; go_simp; (try with_reducible rfl))); (try simp only [Act.put, List.setIfInBounds_toArray, List.set_cons_zero, List.set_cons_succ]))
  (refine wpAnyS_ready (rs := [1]) (by kernel_rfl) (by simp) ?_; refine AllS.consL rfl (fun K hK => ?_) AllS.nil)
  (go_simp; go_at_call 24; refine (HSUM.out _ _ _ hc).mono ?_; rintro e w' ⟨vS, rfl, hkS⟩; go_wp2_with fail)
  have hc2 := hc.call1 hkS
  obtain ⟨sA, sC, rfl, -⟩ := id hkS.sl0
  have hkF := hkS.sl0
  rw [show (4 : Nat) = F.length from HFL.out.symm] at hkF
  (refine hK.out _ _ ?_ (fun hHeld => ?_); (focus ((try dsimp only); (first | done | trivial))); clear hK K; (try simp only [Act.put, List.setIfInBounds_toArray, List.set_cons_zero, List.set_cons_succ]))
  obtain ⟨w3, rfl⟩ : ∃ W : World, W = w' := ⟨_, rfl⟩
  have HEQ := Mx.hid (beq_any _ _ F (b.drop nb) w3 hkF (by rw [HDL.out]; exact hc2.old HX9.out))
  rw [HFL.out] at HEQ
  (refine wpAnyS_ready (rs := [6]) (by kernel_rfl) (by simp) ?_; refine AllS.consL rfl (fun K hK => ?_) AllS.nil)
  (go_simp; go_at_call 29; refine (HEQ.out).mono ?_; rintro e w' ⟨rfl, rfl⟩; go_wp2_with fail)
  (refine hK.out _ _ ?_ (fun hHeld => ?_); (focus ((try dsimp only); (first | done | trivial))); clear hK K; (try simp only [Act.put, List.setIfInBounds_toArray, List.set_cons_zero, List.set_cons_succ]))
  (refine wpAnyS_seq (by rfl) (by kernel_rfl) ?_; simp only [List.drop_succ_cons, List.drop_zero])
  clear hHeld HEQ hkF hkS hc hs0 p9
  have hs2 := hc2.tail
  clear hc2
  by_cases hsum : F = b.drop nb
  case neg =>
    have HD := Mx.hid (show DecM b noMs 5 from dec_sum H8.out (by rw [HERR.out, ← HF.out]; exact hsum))
    rw [decide_eq_false hsum]
    clear hsum
    go_wp2_with ((with_reducible show wpList _ _ _ _ _ _); refine wpl_storeA rfl 25 _ _ rfl Tryd.aMsg hs2 (0) rfl ([.int .i64 0, .int .i64 0, .int .i64 0, .int .i64 0, .slice none 0 0, .slice none 0 0]) rfl (by rfl) (by simp) (by intro u hu; simp at hu; rcases hu with rfl | rfl | rfl | rfl | rfl | rfl <;> rfl) ?_; intro w9 hs9)
    replace hs9 := hs9.cast rfl (show _ = [.int .i64 0, .int .i64 0, .int .i64 0, .int .i64 0, .slice none 0 0, .slice none 0 0] by simp)
    have hcw : ∀ i u, ([.int .i64 0, .int .i64 0, .int .i64 0, .int .i64 0, .slice none 0 0, .slice none 0 0])[i]? = some u → w9.cell? ⟨gR, i, none⟩ = some u := fun i u h => hs9.rcell (List.mem_cons_self ..) h
    refine bodyPost_ret (v := .tuple #[.agg ([.int .i64 0, .int .i64 0, .int .i64 0, .int .i64 0, .slice none 0 0, .slice none 0 0]).toArray, .int .i64 5]) (results_cellA2 Tryd.results12 _ Tryd.aMsg (g := gR) ([.int .i64 0, .int .i64 0, .int .i64 0, .int .i64 0, .slice none 0 0, .slice none 0 0]) ?_ rfl hcw ?_) ?_ ?_
    · first | (simp; done) | simp [Act.put]
    · first | (simp; done) | simp [Act.put]
    · first | (simp; done) | simp [Act.put]
    · exact ⟨.slice none 0 0, .slice none 0 0, noMs, 5, rfl, hs9.bare, ⟨Sl.nil _ _, Sl.nil _ _⟩, HD.out, Ow.nil _ _ _ _, Ow.nil _ _ _ _⟩
  case pos =>
  have HFORM := Mx.hid (fun (h : ∀ m, mayM m = true → encM m ≠ b) => (show DecM b noMs 4 from dec_form H8.out (by rw [HERR.out, ← HF.out]; exact hsum) h))
  rw [decide_eq_true hsum]
  clear hsum HF HX9
  have hlin := linesO_any (.slice a4 nb c4) (b.take nb) w3 (by rw [HBT.out]; exact hs2.old HV4.out) (by rw [HBT.out]; omega)
  have hle := linesS_le (b.take nb).length (b.take nb) 0 [] (by omega) (by simp)
  obtain ⟨ls, pl, el, hls⟩ : ∃ ls pl el, linesS (b.take nb) 0 [] = (ls, pl, el) := ⟨_, _, _, rfl⟩
  unfold LinesO at hlin
  rw [hls] at hlin hle
  simp only [] at hlin hle
  rw [HBT.out] at hle
  have HLN := Mx.hid hlin
  have HRD := Mx.hid (fun (m : Ms) (h : mayM m = true) (he : encM m = b) => dec_read (show linesS (b.take (b.length - 4)) 0 [] = (ls, pl, el) by rw [HERR.out]; exact hls) h he)
  have HZ := Mx.hid hle.1
  have hll : ls.length ≤ 1000000 := by have := hle.2; simp at this; omega
  clear hlin hls hle
  go_wp2_with fail
  refine HLN.out.mono ?_
  rintro e w5 ⟨vl, vs, rfl, hk5, hvs, hslv, hHO⟩
  have hs5 := hs2.call0 hk5
  have hLL := hHO.ll hvs hslv
  have hsz2 := hs2.size
  have hHO' : HasO w5 w.heap.size vs ls := fun i h => by
    obtain ⟨u, h1, h2⟩ := hHO i h
    exact ⟨u, h1, h2.mono hsz2⟩
  clear hHO hsz2
  clear hs2 hk5 HLN
  obtain ⟨_, _, _, _, _, hvl, _⟩ := hLL.at
  subst hvl
  by_cases hel : el = 0
  case neg =>
    have HD := Mx.hid (HFORM.out (fun m h he => hel (HRD.out m h he).1))
    have q3 : decide (el = 0) = false := decide_eq_false hel
    have q4 : (el == 0) = false := by simpa using hel
    clear hel
    go_wp2_with ((with_reducible show wpList _ _ _ _ _ _); refine wpl_storeA rfl 25 _ _ rfl Tryd.aMsg hs5 (0) rfl ([.int .i64 0, .int .i64 0, .int .i64 0, .int .i64 0, .slice none 0 0, .slice none 0 0]) rfl (by rfl) (by simp) (by intro u hu; simp at hu; rcases hu with rfl | rfl | rfl | rfl | rfl | rfl <;> rfl) ?_; intro w9 hs9)
    replace hs9 := hs9.cast rfl (show _ = [.int .i64 0, .int .i64 0, .int .i64 0, .int .i64 0, .slice none 0 0, .slice none 0 0] by simp)
    have hcw : ∀ i u, ([.int .i64 0, .int .i64 0, .int .i64 0, .int .i64 0, .slice none 0 0, .slice none 0 0])[i]? = some u → w9.cell? ⟨gR, i, none⟩ = some u := fun i u h => hs9.rcell (List.mem_cons_self ..) h
    refine bodyPost_ret (v := .tuple #[.agg ([.int .i64 0, .int .i64 0, .int .i64 0, .int .i64 0, .slice none 0 0, .slice none 0 0]).toArray, .int .i64 4]) (results_cellA2 Tryd.results12 _ Tryd.aMsg (g := gR) ([.int .i64 0, .int .i64 0, .int .i64 0, .int .i64 0, .slice none 0 0, .slice none 0 0]) ?_ rfl hcw ?_) ?_ ?_
    · first | (simp; done) | simp [Act.put]
    · first | (simp; done) | simp [Act.put]
    · first | (simp; done) | simp [Act.put]
    · exact ⟨.slice none 0 0, .slice none 0 0, noMs, 4, rfl, hs9.bare, ⟨Sl.nil _ _, Sl.nil _ _⟩, HD.out, Ow.nil _ _ _ _, Ow.nil _ _ _ _⟩
  case pos =>
  subst hel
  have HRP := Mx.hid (readO_any _ ls w.heap.size vs w5 hvs hslv hHO' hs5.size (fun p hp => by have := HZ.out p hp; omega) hll (HL.out _ hs5.bare))
  have HSZ := Mx.hid (read_sizes HZ.out)
  have HRM := Mx.hid (fun (m : Ms) (h : mayM m = true) (he : encM m = b) => (HRD.out m h he).2.2)
  clear hLL HRD hvs hslv hHO'
  unfold ReadO at HRP
  generalize readM ls = r at *
  go_wp2_with fail
  refine HRP.out.mono ?_
  rintro e w6 ⟨iv, dv, rfl, hk6, hMB, hOI, hOD⟩
  have hs6 := hs5.call0 hk6
  have HEN := Mx.hid (fun wx (h : St w6 wx [] []) => encP_any iv dv r wx (hMB.old h) (fun x hx => by have := HSZ.out x hx; omega) (HL.out _ (hs6.bare.call0 h)))
  have HMB := Mx.hid hMB
  have HDF := Mx.hid (fun (h : ¬ (mayM r = true ∧ encM r = b)) => HFORM.out (fun m hm he => h (by rw [HRM.out m hm he]; exact ⟨hm, he⟩)))
  have hi0 := hMB.i
  have hd0 := hMB.d
  obtain ⟨R, hR⟩ : ∃ R, R = r := ⟨_, rfl⟩
  have HRR := Mx.hid hR
  obtain ⟨kind, seq, n, mm, ids, data⟩ := r
  simp only [] at hi0 hd0 hOI hOD
  obtain ⟨io, ic, rfl, -⟩ := hi0.form
  obtain ⟨dq, dc, rfl, -⟩ := hd0.form
  rw [← hR] at HEN HMB HDF ⊢
  have hE : MV (.slice io ids.length ic) (.slice dq data.length dc) R = .agg #[.int .i64 kind, .int .i64 seq, .int .i64 n, .int .i64 mm, .slice io ids.length ic, .slice dq data.length dc] := by
    rw [hR]
    rfl
  have HE := Mx.hid hE
  rw [hE] at HEN ⊢
  have hs6r := hs6.own _ (List.mem_singleton.2 rfl)
  have hsQ : St w w6 [⟨.slice (some ⟨gR, 0, none⟩) 1 1, 25, 6, 1, [.int .i64 0, .int .i64 0, .int .i64 0, .int .i64 0, .slice none 0 0, .slice none 0 0]⟩, ⟨.slice dq data.length dc, 5, 1, data.length, bs data⟩, ⟨.slice io ids.length ic, 9, 1, ids.length, ss ids⟩] [] :=
    (hs6.addEnd (r := ⟨.slice dq data.length dc, 5, 1, data.length, bs data⟩) hOD (fun s hs b hb => by
      obtain rfl := List.mem_singleton.1 hs
      exact Ow.typeApart hs6r hOD (by show (25 : Nat) ≠ 5; decide) b hb)).addEnd (r := ⟨.slice io ids.length ic, 9, 1, ids.length, ss ids⟩) hOI (fun s hs b hb => by
      rcases List.mem_append.1 hs with hs | hs
      · obtain rfl := List.mem_singleton.1 hs
        exact Ow.typeApart hs6r hOI (by show (25 : Nat) ≠ 9; decide) b hb
      · obtain rfl := List.mem_singleton.1 hs
        exact Ow.typeApart hOD hOI (by decide) b hb)
  have HID : Hid (R.ids = ids ∧ R.data = data) := by
    show _ ∧ _
    rw [hR]
    exact ⟨rfl, rfl⟩
  clear hE hR hi0 hd0 hMB HRP HRM HSZ HFORM hs5 hk6 hs6 hs6r hOI hOD
  go_upto_region 10 with (((with_reducible show wpList _ _ _ _ _ _); refine wpl_storeA rfl 25 _ _ rfl Tryd.aMsg ((St.refl w6).madeAt ([.int .i64 0, .int .i64 0, .int .i64 0, .int .i64 0, .slice none 0 0, .slice none 0 0]).toArray 25 6 1 _ rfl (by simp [maxLen]) rfl) (0) rfl ([.int .i64 kind, .int .i64 seq, .int .i64 n, .int .i64 mm, .slice io ids.length ic, .slice dq data.length dc]) rfl (by rfl) (by simp) (by intro u hu; simp at hu; rcases hu with rfl | rfl | rfl | rfl | rfl | rfl <;> rfl) ?_; intro w7 hs7))
  replace hs7 := hs7.cast rfl (show _ = [.int .i64 kind, .int .i64 seq, .int .i64 n, .int .i64 mm, .slice io ids.length ic, .slice dq data.length dc] by simp)
  generalize w6.heap.size = gM at *
  have hsA := hsQ.call hs7
  have hcM := VCof hs7 (List.mem_cons_self ..)
  go_wp2_with ((with_reducible show wpList _ _ _ _ _ _); refine wpl_loadA rfl 25 _ rfl Tryd.aMsg (gM) (0) rfl ([.int .i64 kind, .int .i64 seq, .int .i64 n, .int .i64 mm, .slice io ids.length ic, .slice dq data.length dc]) rfl hcM ?_)
  refine (HEN.out _ hs7.bare).mono ?_
  rintro e w8 (⟨hmay, vx, rfl, hk8⟩ | ⟨hmay, rfl, hk8⟩)
  case inr =>
    have HD := Mx.hid (HDF.out (fun h => by rw [hmay] at h; cases h.1))
    have hs8 := (hsA.call0 hk8).swap
    clear hmay hk8 hsA hsQ hs7 hcM
    go_wp2_with (first | ((with_reducible show wpList _ _ _ _ _ _); refine wpl_want rfl ?_) | ((with_reducible show wpList _ _ _ _ _ _); refine wpl_storeA rfl 25 _ _ rfl Tryd.aMsg hs8 (0) rfl ([.int .i64 0, .int .i64 0, .int .i64 0, .int .i64 0, .slice none 0 0, .slice none 0 0]) rfl (by rfl) (by simp) (by intro u hu; simp at hu; rcases hu with rfl | rfl | rfl | rfl | rfl | rfl <;> rfl) ?_; intro w9 hs9))
    replace hs9 := hs9.cast rfl (show _ = [.int .i64 0, .int .i64 0, .int .i64 0, .int .i64 0, .slice none 0 0, .slice none 0 0] by simp)
    have hcw : ∀ i u, ([.int .i64 0, .int .i64 0, .int .i64 0, .int .i64 0, .slice none 0 0, .slice none 0 0])[i]? = some u → w9.cell? ⟨gR, i, none⟩ = some u := fun i u h => hs9.rcell (List.mem_cons_self ..) h
    refine bodyPost_ret (v := .tuple #[.agg ([.int .i64 0, .int .i64 0, .int .i64 0, .int .i64 0, .slice none 0 0, .slice none 0 0]).toArray, .int .i64 4]) (results_cellA2 Tryd.results12 _ Tryd.aMsg (g := gR) ([.int .i64 0, .int .i64 0, .int .i64 0, .int .i64 0, .slice none 0 0, .slice none 0 0]) ?_ rfl hcw ?_) ?_ ?_
    · first | (simp; done) | simp [Act.put]
    · first | (simp; done) | simp [Act.put]
    · first | (simp; done) | simp [Act.put]
    · exact ⟨.slice none 0 0, .slice none 0 0, noMs, 4, rfl, hs9.bare, ⟨Sl.nil _ _, Sl.nil _ _⟩, HD.out, Ow.nil _ _ _ _, Ow.nil _ _ _ _⟩
  case inl =>
  have hs8 := (hsA.call0 hk8.bare).swap
  obtain ⟨xA, xC, rfl, -⟩ := id hk8.sl0
  have HEQ := Mx.hid (beq_any _ _ (encM R) b w8 hk8.sl0 (hs8.old HV.out))
  have HMAY := Mx.hid hmay
  clear hmay hk8 hsA hsQ hs7 hcM
  by_cases henc : encM R = b
  case neg =>
    have HD := Mx.hid (HDF.out (fun h => henc h.2))
    rw [decide_eq_false henc] at HEQ
    clear henc
    go_wp2_with (first | ((with_reducible show wpList _ _ _ _ _ _); refine wpl_want rfl ?_) | (go_at_call 29; refine HEQ.out.mono ?_; rintro e w' ⟨rfl, rfl⟩) | ((with_reducible show wpList _ _ _ _ _ _); refine wpl_storeA rfl 25 _ _ rfl Tryd.aMsg hs8 (0) rfl ([.int .i64 0, .int .i64 0, .int .i64 0, .int .i64 0, .slice none 0 0, .slice none 0 0]) rfl (by rfl) (by simp) (by intro u hu; simp at hu; rcases hu with rfl | rfl | rfl | rfl | rfl | rfl <;> rfl) ?_; intro w9 hs9))
    replace hs9 := hs9.cast rfl (show _ = [.int .i64 0, .int .i64 0, .int .i64 0, .int .i64 0, .slice none 0 0, .slice none 0 0] by simp)
    have hcw : ∀ i u, ([.int .i64 0, .int .i64 0, .int .i64 0, .int .i64 0, .slice none 0 0, .slice none 0 0])[i]? = some u → w9.cell? ⟨gR, i, none⟩ = some u := fun i u h => hs9.rcell (List.mem_cons_self ..) h
    refine bodyPost_ret (v := .tuple #[.agg ([.int .i64 0, .int .i64 0, .int .i64 0, .int .i64 0, .slice none 0 0, .slice none 0 0]).toArray, .int .i64 4]) (results_cellA2 Tryd.results12 _ Tryd.aMsg (g := gR) ([.int .i64 0, .int .i64 0, .int .i64 0, .int .i64 0, .slice none 0 0, .slice none 0 0]) ?_ rfl hcw ?_) ?_ ?_
    · first | (simp; done) | simp [Act.put]
    · first | (simp; done) | simp [Act.put]
    · first | (simp; done) | simp [Act.put]
    · exact ⟨.slice none 0 0, .slice none 0 0, noMs, 4, rfl, hs9.bare, ⟨Sl.nil _ _, Sl.nil _ _⟩, HD.out, Ow.nil _ _ _ _, Ow.nil _ _ _ _⟩
  case pos =>
  have HENC := Mx.hid henc
  rw [decide_eq_true henc] at HEQ
  clear henc
  have hcM8 := VCof hs8 (List.mem_cons_of_mem _ (List.mem_cons_self ..))
  go_wp2_with (first | ((with_reducible show wpList _ _ _ _ _ _); refine wpl_want rfl ?_) | (go_at_call 29; refine HEQ.out.mono ?_; rintro e w' ⟨rfl, rfl⟩) | ((with_reducible show wpList _ _ _ _ _ _); refine wpl_loadA rfl 25 _ rfl Tryd.aMsg (gM) (0) rfl ([.int .i64 kind, .int .i64 seq, .int .i64 n, .int .i64 mm, .slice io ids.length ic, .slice dq data.length dc]) rfl hcM8 ?_) | ((with_reducible show wpList _ _ _ _ _ _); refine wpl_storeA rfl 25 _ _ rfl Tryd.aMsg hs8 (0) rfl ([.int .i64 kind, .int .i64 seq, .int .i64 n, .int .i64 mm, .slice io ids.length ic, .slice dq data.length dc]) rfl (by rfl) (by simp) (by intro u hu; simp at hu; rcases hu with rfl | rfl | rfl | rfl | rfl | rfl <;> rfl) ?_; intro w9 hs9))
  replace hs9 := hs9.cast rfl (show _ = [.int .i64 kind, .int .i64 seq, .int .i64 n, .int .i64 mm, .slice io ids.length ic, .slice dq data.length dc] by simp)
  have hcw : ∀ i u, ([.int .i64 kind, .int .i64 seq, .int .i64 n, .int .i64 mm, .slice io ids.length ic, .slice dq data.length dc] : List Value)[i]? = some u → w9.cell? ⟨gR, i, none⟩ = some u := fun i u h => hs9.rcell (List.mem_cons_self ..) h
  refine bodyPost_ret (v := .tuple #[.agg ([.int .i64 kind, .int .i64 seq, .int .i64 n, .int .i64 mm, .slice io ids.length ic, .slice dq data.length dc] : List Value).toArray, .int .i64 0]) (results_cellA2 Tryd.results12 _ Tryd.aMsg (g := gR) [.int .i64 kind, .int .i64 seq, .int .i64 n, .int .i64 mm, .slice io ids.length ic, .slice dq data.length dc] ?_ rfl hcw ?_) ?_ ?_
  · first | (simp; done) | simp [Act.put]
  · first | (simp; done) | simp [Act.put]
  · first | (simp; done) | simp [Act.put]
  · have ho1 := hs9.own _ (List.mem_cons_of_mem _ (List.mem_cons_of_mem _ (List.mem_cons_self ..)))
    have ho2 := hs9.own _ (List.mem_cons_of_mem _ (List.mem_cons_of_mem _ (List.mem_cons_of_mem _ (List.mem_cons_self ..))))
    refine ⟨.slice io ids.length ic, .slice dq data.length dc, R, 0, ?_, hs9.bare, ⟨?_, ?_⟩, .inl ⟨rfl, HMAY.out, HENC.out⟩, ?_, ?_⟩
    · rw [HE.out]
    · rw [HID.out.1]; exact ho2.sl
    · rw [HID.out.2]; exact ho1.sl
    · rw [HID.out.1]; exact ho2
    · rw [HID.out.2]; exact ho1
end Go.Proofs.YtloogjdafhjheaaDoor
