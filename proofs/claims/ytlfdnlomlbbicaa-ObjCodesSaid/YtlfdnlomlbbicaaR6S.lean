/- The walk of the document's Same. -/
import Derived.Test.YtlfdnlomlbbicaaR6D
import Derived.Test.YtlfdnlomlbbicaaObjW
import Derived.Deep.DeepCutAuto
namespace Go.Proofs.Ytlfdnlomlbbicaa
open Go.RowKit Go.Mx

theorem bnot_of {α : Type} [BEq α] {a b : α} {c : Bool} (h : (a == b) = c) : (a != b) = !c := by rw [bne, h]
set_option maxRecDepth 200000 in
set_option maxHeartbeats 20000000 in
theorem rsame_any (dv iv pv dv' iv' pv' : Value) (o o' : Ob) (w : World) (h : OB w dv iv pv o) (h' : OB w dv' iv' pv' o') :
    Calls Try.prog 18 #[OV dv iv pv o, OV dv' iv' pv' o'] w fun e w' => e = .returned (.bool (sameB o o')) ∧ St w w' [] [] := by
  have HD := Mx.hid (fun wx (hs : St w wx [] []) => bytes_any dv dv' o.data o'.data wx (hs.old h.d) (hs.old h'.d))
  have HP := Mx.hid (fun wx (hs : St w wx [] []) => texts_any pv pv' o.parents o'.parents wx (hs.old h.p) (hs.old h'.p))
  obtain ⟨d1, d2, rfl, g1, g2, _⟩ := h.d
  obtain ⟨i1, i2, blk, off, hiv, g3, g4, hc⟩ := itm_cells h.i
  obtain ⟨p1, p2, rfl, g5, g6, _⟩ := h.p
  obtain ⟨e1, e2, rfl, g1', g2', _⟩ := h'.d
  obtain ⟨j1, j2, blk', off', hiv', g3', g4', hc'⟩ := itm_cells h'.i
  obtain ⟨q1, q2, rfl, g5', g6', _⟩ := h'.p
  subst hiv hiv'
  have HC := Mx.hid hc
  have HC' := Mx.hid hc'
  clear h h' hc hc'
  obtain ⟨ka, da, ia, ta, pa, sa, aa, ma⟩ := o
  obtain ⟨kb, db, ib, tb, pb, sb, ab, mb⟩ := o'
  simp only [OV] at *
  have HM : Hid (sameB ⟨ka, da, ia, ta, pa, sa, aa, ma⟩ ⟨kb, db, ib, tb, pb, sb, ab, mb⟩ = ((ka == kb) && (decide (da = db) && (decide (ia = ib) && ((ta.toList == tb.toList) && (decide (pa = pb) && ((sa == sb) && ((aa == ab) && (ma.toList == mb.toList)))))))) ) := Mx.hid (by unfold sameB; rfl)
  generalize sameB ⟨ka, da, ia, ta, pa, sa, aa, ma⟩ ⟨kb, db, ib, tb, pb, sb, ab, mb⟩ = sm at *
  generalize decide (da = db) = bd at *
  generalize decide (pa = pb) = bp at *
  have HE : Hid (∃ E, E = ((ka == kb) && (bd && (((ia.length : Int) == (ib.length : Int)) && ((ta.toList == tb.toList) && (bp && ((sa == sb) && ((aa == ab) && (ma.toList == mb.toList))))))))) := ⟨_, rfl⟩
  obtain ⟨E, hE⟩ := HE.out
  have HE := Mx.hid hE
  clear hE
  go_enter Try.func18, Try.ntmps18
  go_upto_region 1 with (first | ((with_reducible show wpList _ _ _ _ _ _); refine wpl_box rfl 35 _ rfl hsx ([.int .i64 kb, .slice e1 db.length e2, .slice j1 ib.length j2, .string tb, .slice q1 pb.length q2, .int .i64 sb, .int .i64 ab, .string mb]) (by rfl) ?_; intro gy wy hsy; (have x0 := hsy.rcell (j := 0) (List.mem_cons_of_mem _ (List.mem_cons_self ..)) rfl; have x1 := hsy.rcell (j := 1) (List.mem_cons_of_mem _ (List.mem_cons_self ..)) rfl; have x2 := hsy.rcell (j := 2) (List.mem_cons_of_mem _ (List.mem_cons_self ..)) rfl; have x3 := hsy.rcell (j := 3) (List.mem_cons_of_mem _ (List.mem_cons_self ..)) rfl; have x4 := hsy.rcell (j := 4) (List.mem_cons_of_mem _ (List.mem_cons_self ..)) rfl; have x5 := hsy.rcell (j := 5) (List.mem_cons_of_mem _ (List.mem_cons_self ..)) rfl; have x6 := hsy.rcell (j := 6) (List.mem_cons_of_mem _ (List.mem_cons_self ..)) rfl; have x7 := hsy.rcell (j := 7) (List.mem_cons_of_mem _ (List.mem_cons_self ..)) rfl; have y0 := hsy.cell (j := 0) rfl; have y1 := hsy.cell (j := 1) rfl; have y2 := hsy.cell (j := 2) rfl; have y3 := hsy.cell (j := 3) rfl; have y4 := hsy.cell (j := 4) rfl; have y5 := hsy.cell (j := 5) rfl; have y6 := hsy.cell (j := 6) rfl; have y7 := hsy.cell (j := 7) rfl)) | ((with_reducible show wpList _ _ _ _ _ _); refine wpl_box rfl 35 _ rfl (St.refl w) ([.int .i64 ka, .slice d1 da.length d2, .slice i1 ia.length i2, .string ta, .slice p1 pa.length p2, .int .i64 sa, .int .i64 aa, .string ma]) (by rfl) ?_; intro gx wx hsx))
  have hsy : St w wy [⟨.slice (some ⟨gy, 0, none⟩) 1 1, 35, 8, 1, [.int .i64 kb, .slice e1 db.length e2, .slice j1 ib.length j2, .string tb, .slice q1 pb.length q2, .int .i64 sb, .int .i64 ab, .string mb]⟩, ⟨.slice (some ⟨gx, 0, none⟩) 1 1, 35, 8, 1, [.int .i64 ka, .slice d1 da.length d2, .slice i1 ia.length i2, .string ta, .slice p1 pa.length p2, .int .i64 sa, .int .i64 aa, .string ma]⟩] [] := hsy
  clear hsx
  go_cut [0, 1, 63] (fun _ _ c wz => c = .bool (!E) ∧ St w wz [⟨.slice (some ⟨gy, 0, none⟩) 1 1, 35, 8, 1, [.int .i64 kb, .slice e1 db.length e2, .slice j1 ib.length j2, .string tb, .slice q1 pb.length q2, .int .i64 sb, .int .i64 ab, .string mb]⟩, ⟨.slice (some ⟨gx, 0, none⟩) 1 1, 35, 8, 1, [.int .i64 ka, .slice d1 da.length d2, .slice i1 ia.length i2, .string ta, .slice p1 pa.length p2, .int .i64 sa, .int .i64 aa, .string ma]⟩] [])
  case first =>
    clear HM HC HC'
    cases b1 : (ka == kb) with
    | false => as_aux_lemma =>
      have nb1 := bnot_of b1
      have B1 := Mx.hid b1
      simp only [Bool.not_false] at nb1
      clear b1
      (go_wp2_with (first | ((with_reducible show wpList _ _ _ _ _ _); refine wpl_want rfl ?_) | (go_at_call 15; refine (HD.out _ hsy.bare).mono ?_; rintro e w2 ⟨rfl, rfl⟩) | (go_at_call 20; refine (HP.out _ hsy.bare).mono ?_; rintro e w2 ⟨rfl, hk⟩; replace hsy := hsy.call0 hk; (have x0 := hsy.rcell (j := 0) (List.mem_cons_of_mem _ (List.mem_cons_self ..)) rfl; have x1 := hsy.rcell (j := 1) (List.mem_cons_of_mem _ (List.mem_cons_self ..)) rfl; have x2 := hsy.rcell (j := 2) (List.mem_cons_of_mem _ (List.mem_cons_self ..)) rfl; have x3 := hsy.rcell (j := 3) (List.mem_cons_of_mem _ (List.mem_cons_self ..)) rfl; have x4 := hsy.rcell (j := 4) (List.mem_cons_of_mem _ (List.mem_cons_self ..)) rfl; have x5 := hsy.rcell (j := 5) (List.mem_cons_of_mem _ (List.mem_cons_self ..)) rfl; have x6 := hsy.rcell (j := 6) (List.mem_cons_of_mem _ (List.mem_cons_self ..)) rfl; have x7 := hsy.rcell (j := 7) (List.mem_cons_of_mem _ (List.mem_cons_self ..)) rfl; have y0 := hsy.cell (j := 0) rfl; have y1 := hsy.cell (j := 1) rfl; have y2 := hsy.cell (j := 2) rfl; have y3 := hsy.cell (j := 3) rfl; have y4 := hsy.cell (j := 4) rfl; have y5 := hsy.cell (j := 5) rfl; have y6 := hsy.cell (j := 6) rfl; have y7 := hsy.cell (j := 7) rfl))))
      go_meet
      exact ⟨by rw [HE.out, B1.out]; rfl, hsy⟩
    | true =>
    have nb1 := bnot_of b1
    have B1 := Mx.hid b1
    simp only [Bool.not_true] at nb1
    clear b1
    cases bd with
    | false => as_aux_lemma =>
      (go_wp2_with (first | ((with_reducible show wpList _ _ _ _ _ _); refine wpl_want rfl ?_) | (go_at_call 15; refine (HD.out _ hsy.bare).mono ?_; rintro e w2 ⟨rfl, rfl⟩) | (go_at_call 20; refine (HP.out _ hsy.bare).mono ?_; rintro e w2 ⟨rfl, hk⟩; replace hsy := hsy.call0 hk; (have x0 := hsy.rcell (j := 0) (List.mem_cons_of_mem _ (List.mem_cons_self ..)) rfl; have x1 := hsy.rcell (j := 1) (List.mem_cons_of_mem _ (List.mem_cons_self ..)) rfl; have x2 := hsy.rcell (j := 2) (List.mem_cons_of_mem _ (List.mem_cons_self ..)) rfl; have x3 := hsy.rcell (j := 3) (List.mem_cons_of_mem _ (List.mem_cons_self ..)) rfl; have x4 := hsy.rcell (j := 4) (List.mem_cons_of_mem _ (List.mem_cons_self ..)) rfl; have x5 := hsy.rcell (j := 5) (List.mem_cons_of_mem _ (List.mem_cons_self ..)) rfl; have x6 := hsy.rcell (j := 6) (List.mem_cons_of_mem _ (List.mem_cons_self ..)) rfl; have x7 := hsy.rcell (j := 7) (List.mem_cons_of_mem _ (List.mem_cons_self ..)) rfl; have y0 := hsy.cell (j := 0) rfl; have y1 := hsy.cell (j := 1) rfl; have y2 := hsy.cell (j := 2) rfl; have y3 := hsy.cell (j := 3) rfl; have y4 := hsy.cell (j := 4) rfl; have y5 := hsy.cell (j := 5) rfl; have y6 := hsy.cell (j := 6) rfl; have y7 := hsy.cell (j := 7) rfl))))
      go_meet
      exact ⟨by rw [HE.out, B1.out]; rfl, hsy⟩
    | true =>
    cases b9 : ((ia.length : Int) == (ib.length : Int)) with
    | false => as_aux_lemma =>
      have nb9 := bnot_of b9
      have B9 := Mx.hid b9
      simp only [Bool.not_false] at nb9
      clear b9
      (go_wp2_with (first | ((with_reducible show wpList _ _ _ _ _ _); refine wpl_want rfl ?_) | (go_at_call 15; refine (HD.out _ hsy.bare).mono ?_; rintro e w2 ⟨rfl, rfl⟩) | (go_at_call 20; refine (HP.out _ hsy.bare).mono ?_; rintro e w2 ⟨rfl, hk⟩; replace hsy := hsy.call0 hk; (have x0 := hsy.rcell (j := 0) (List.mem_cons_of_mem _ (List.mem_cons_self ..)) rfl; have x1 := hsy.rcell (j := 1) (List.mem_cons_of_mem _ (List.mem_cons_self ..)) rfl; have x2 := hsy.rcell (j := 2) (List.mem_cons_of_mem _ (List.mem_cons_self ..)) rfl; have x3 := hsy.rcell (j := 3) (List.mem_cons_of_mem _ (List.mem_cons_self ..)) rfl; have x4 := hsy.rcell (j := 4) (List.mem_cons_of_mem _ (List.mem_cons_self ..)) rfl; have x5 := hsy.rcell (j := 5) (List.mem_cons_of_mem _ (List.mem_cons_self ..)) rfl; have x6 := hsy.rcell (j := 6) (List.mem_cons_of_mem _ (List.mem_cons_self ..)) rfl; have x7 := hsy.rcell (j := 7) (List.mem_cons_of_mem _ (List.mem_cons_self ..)) rfl; have y0 := hsy.cell (j := 0) rfl; have y1 := hsy.cell (j := 1) rfl; have y2 := hsy.cell (j := 2) rfl; have y3 := hsy.cell (j := 3) rfl; have y4 := hsy.cell (j := 4) rfl; have y5 := hsy.cell (j := 5) rfl; have y6 := hsy.cell (j := 6) rfl; have y7 := hsy.cell (j := 7) rfl))))
      go_meet
      exact ⟨by rw [HE.out, B1.out, B9.out]; rfl, hsy⟩
    | true =>
    have nb9 := bnot_of b9
    have B9 := Mx.hid b9
    simp only [Bool.not_true] at nb9
    clear b9
    cases b2 : (ta.toList == tb.toList) with
    | false => as_aux_lemma =>
      have nb2 := bnot_of b2
      have B2 := Mx.hid b2
      simp only [Bool.not_false] at nb2
      (go_wp2_with (first | ((with_reducible show wpList _ _ _ _ _ _); refine wpl_want rfl ?_) | (go_at_call 15; refine (HD.out _ hsy.bare).mono ?_; rintro e w2 ⟨rfl, rfl⟩) | (go_at_call 20; refine (HP.out _ hsy.bare).mono ?_; rintro e w2 ⟨rfl, hk⟩; replace hsy := hsy.call0 hk; (have x0 := hsy.rcell (j := 0) (List.mem_cons_of_mem _ (List.mem_cons_self ..)) rfl; have x1 := hsy.rcell (j := 1) (List.mem_cons_of_mem _ (List.mem_cons_self ..)) rfl; have x2 := hsy.rcell (j := 2) (List.mem_cons_of_mem _ (List.mem_cons_self ..)) rfl; have x3 := hsy.rcell (j := 3) (List.mem_cons_of_mem _ (List.mem_cons_self ..)) rfl; have x4 := hsy.rcell (j := 4) (List.mem_cons_of_mem _ (List.mem_cons_self ..)) rfl; have x5 := hsy.rcell (j := 5) (List.mem_cons_of_mem _ (List.mem_cons_self ..)) rfl; have x6 := hsy.rcell (j := 6) (List.mem_cons_of_mem _ (List.mem_cons_self ..)) rfl; have x7 := hsy.rcell (j := 7) (List.mem_cons_of_mem _ (List.mem_cons_self ..)) rfl; have y0 := hsy.cell (j := 0) rfl; have y1 := hsy.cell (j := 1) rfl; have y2 := hsy.cell (j := 2) rfl; have y3 := hsy.cell (j := 3) rfl; have y4 := hsy.cell (j := 4) rfl; have y5 := hsy.cell (j := 5) rfl; have y6 := hsy.cell (j := 6) rfl; have y7 := hsy.cell (j := 7) rfl))))
      go_meet
      exact ⟨by rw [HE.out, B1.out, B9.out, B2.out]; rfl, hsy⟩
    | true =>
    have nb2 := bnot_of b2
    have B2 := Mx.hid b2
    simp only [Bool.not_true] at nb2
    cases bp with
    | false => as_aux_lemma =>
      (go_wp2_with (first | ((with_reducible show wpList _ _ _ _ _ _); refine wpl_want rfl ?_) | (go_at_call 15; refine (HD.out _ hsy.bare).mono ?_; rintro e w2 ⟨rfl, rfl⟩) | (go_at_call 20; refine (HP.out _ hsy.bare).mono ?_; rintro e w2 ⟨rfl, hk⟩; replace hsy := hsy.call0 hk; (have x0 := hsy.rcell (j := 0) (List.mem_cons_of_mem _ (List.mem_cons_self ..)) rfl; have x1 := hsy.rcell (j := 1) (List.mem_cons_of_mem _ (List.mem_cons_self ..)) rfl; have x2 := hsy.rcell (j := 2) (List.mem_cons_of_mem _ (List.mem_cons_self ..)) rfl; have x3 := hsy.rcell (j := 3) (List.mem_cons_of_mem _ (List.mem_cons_self ..)) rfl; have x4 := hsy.rcell (j := 4) (List.mem_cons_of_mem _ (List.mem_cons_self ..)) rfl; have x5 := hsy.rcell (j := 5) (List.mem_cons_of_mem _ (List.mem_cons_self ..)) rfl; have x6 := hsy.rcell (j := 6) (List.mem_cons_of_mem _ (List.mem_cons_self ..)) rfl; have x7 := hsy.rcell (j := 7) (List.mem_cons_of_mem _ (List.mem_cons_self ..)) rfl; have y0 := hsy.cell (j := 0) rfl; have y1 := hsy.cell (j := 1) rfl; have y2 := hsy.cell (j := 2) rfl; have y3 := hsy.cell (j := 3) rfl; have y4 := hsy.cell (j := 4) rfl; have y5 := hsy.cell (j := 5) rfl; have y6 := hsy.cell (j := 6) rfl; have y7 := hsy.cell (j := 7) rfl))))
      go_meet
      exact ⟨by rw [HE.out, B1.out, B9.out, B2.out]; rfl, hsy⟩
    | true =>
    cases b3 : (sa == sb) with
    | false => as_aux_lemma =>
      have nb3 := bnot_of b3
      have B3 := Mx.hid b3
      simp only [Bool.not_false] at nb3
      clear b3
      (go_wp2_with (first | ((with_reducible show wpList _ _ _ _ _ _); refine wpl_want rfl ?_) | (go_at_call 15; refine (HD.out _ hsy.bare).mono ?_; rintro e w2 ⟨rfl, rfl⟩) | (go_at_call 20; refine (HP.out _ hsy.bare).mono ?_; rintro e w2 ⟨rfl, hk⟩; replace hsy := hsy.call0 hk; (have x0 := hsy.rcell (j := 0) (List.mem_cons_of_mem _ (List.mem_cons_self ..)) rfl; have x1 := hsy.rcell (j := 1) (List.mem_cons_of_mem _ (List.mem_cons_self ..)) rfl; have x2 := hsy.rcell (j := 2) (List.mem_cons_of_mem _ (List.mem_cons_self ..)) rfl; have x3 := hsy.rcell (j := 3) (List.mem_cons_of_mem _ (List.mem_cons_self ..)) rfl; have x4 := hsy.rcell (j := 4) (List.mem_cons_of_mem _ (List.mem_cons_self ..)) rfl; have x5 := hsy.rcell (j := 5) (List.mem_cons_of_mem _ (List.mem_cons_self ..)) rfl; have x6 := hsy.rcell (j := 6) (List.mem_cons_of_mem _ (List.mem_cons_self ..)) rfl; have x7 := hsy.rcell (j := 7) (List.mem_cons_of_mem _ (List.mem_cons_self ..)) rfl; have y0 := hsy.cell (j := 0) rfl; have y1 := hsy.cell (j := 1) rfl; have y2 := hsy.cell (j := 2) rfl; have y3 := hsy.cell (j := 3) rfl; have y4 := hsy.cell (j := 4) rfl; have y5 := hsy.cell (j := 5) rfl; have y6 := hsy.cell (j := 6) rfl; have y7 := hsy.cell (j := 7) rfl))))
      go_meet
      exact ⟨by rw [HE.out, B1.out, B9.out, B2.out, B3.out]; rfl, hsy⟩
    | true =>
    have nb3 := bnot_of b3
    have B3 := Mx.hid b3
    simp only [Bool.not_true] at nb3
    clear b3
    cases b4 : (aa == ab) with
    | false => as_aux_lemma =>
      have nb4 := bnot_of b4
      have B4 := Mx.hid b4
      simp only [Bool.not_false] at nb4
      clear b4
      (go_wp2_with (first | ((with_reducible show wpList _ _ _ _ _ _); refine wpl_want rfl ?_) | (go_at_call 15; refine (HD.out _ hsy.bare).mono ?_; rintro e w2 ⟨rfl, rfl⟩) | (go_at_call 20; refine (HP.out _ hsy.bare).mono ?_; rintro e w2 ⟨rfl, hk⟩; replace hsy := hsy.call0 hk; (have x0 := hsy.rcell (j := 0) (List.mem_cons_of_mem _ (List.mem_cons_self ..)) rfl; have x1 := hsy.rcell (j := 1) (List.mem_cons_of_mem _ (List.mem_cons_self ..)) rfl; have x2 := hsy.rcell (j := 2) (List.mem_cons_of_mem _ (List.mem_cons_self ..)) rfl; have x3 := hsy.rcell (j := 3) (List.mem_cons_of_mem _ (List.mem_cons_self ..)) rfl; have x4 := hsy.rcell (j := 4) (List.mem_cons_of_mem _ (List.mem_cons_self ..)) rfl; have x5 := hsy.rcell (j := 5) (List.mem_cons_of_mem _ (List.mem_cons_self ..)) rfl; have x6 := hsy.rcell (j := 6) (List.mem_cons_of_mem _ (List.mem_cons_self ..)) rfl; have x7 := hsy.rcell (j := 7) (List.mem_cons_of_mem _ (List.mem_cons_self ..)) rfl; have y0 := hsy.cell (j := 0) rfl; have y1 := hsy.cell (j := 1) rfl; have y2 := hsy.cell (j := 2) rfl; have y3 := hsy.cell (j := 3) rfl; have y4 := hsy.cell (j := 4) rfl; have y5 := hsy.cell (j := 5) rfl; have y6 := hsy.cell (j := 6) rfl; have y7 := hsy.cell (j := 7) rfl))))
      go_meet
      exact ⟨by rw [HE.out, B1.out, B9.out, B2.out, B3.out, B4.out]; rfl, hsy⟩
    | true =>
    have nb4 := bnot_of b4
    have B4 := Mx.hid b4
    simp only [Bool.not_true] at nb4
    clear b4
    cases b5 : (ma.toList == mb.toList) with
    | false => as_aux_lemma =>
      have nb5 := bnot_of b5
      have B5 := Mx.hid b5
      simp only [Bool.not_false] at nb5
      (go_wp2_with (first | ((with_reducible show wpList _ _ _ _ _ _); refine wpl_want rfl ?_) | (go_at_call 15; refine (HD.out _ hsy.bare).mono ?_; rintro e w2 ⟨rfl, rfl⟩) | (go_at_call 20; refine (HP.out _ hsy.bare).mono ?_; rintro e w2 ⟨rfl, hk⟩; replace hsy := hsy.call0 hk; (have x0 := hsy.rcell (j := 0) (List.mem_cons_of_mem _ (List.mem_cons_self ..)) rfl; have x1 := hsy.rcell (j := 1) (List.mem_cons_of_mem _ (List.mem_cons_self ..)) rfl; have x2 := hsy.rcell (j := 2) (List.mem_cons_of_mem _ (List.mem_cons_self ..)) rfl; have x3 := hsy.rcell (j := 3) (List.mem_cons_of_mem _ (List.mem_cons_self ..)) rfl; have x4 := hsy.rcell (j := 4) (List.mem_cons_of_mem _ (List.mem_cons_self ..)) rfl; have x5 := hsy.rcell (j := 5) (List.mem_cons_of_mem _ (List.mem_cons_self ..)) rfl; have x6 := hsy.rcell (j := 6) (List.mem_cons_of_mem _ (List.mem_cons_self ..)) rfl; have x7 := hsy.rcell (j := 7) (List.mem_cons_of_mem _ (List.mem_cons_self ..)) rfl; have y0 := hsy.cell (j := 0) rfl; have y1 := hsy.cell (j := 1) rfl; have y2 := hsy.cell (j := 2) rfl; have y3 := hsy.cell (j := 3) rfl; have y4 := hsy.cell (j := 4) rfl; have y5 := hsy.cell (j := 5) rfl; have y6 := hsy.cell (j := 6) rfl; have y7 := hsy.cell (j := 7) rfl))))
      go_meet
      exact ⟨by rw [HE.out, B1.out, B9.out, B2.out, B3.out, B4.out, B5.out]; rfl, hsy⟩
    | true =>
    have nb5 := bnot_of b5
    have B5 := Mx.hid b5
    simp only [Bool.not_true] at nb5
    as_aux_lemma =>
      (go_wp2_with (first | ((with_reducible show wpList _ _ _ _ _ _); refine wpl_want rfl ?_) | (go_at_call 15; refine (HD.out _ hsy.bare).mono ?_; rintro e w2 ⟨rfl, rfl⟩) | (go_at_call 20; refine (HP.out _ hsy.bare).mono ?_; rintro e w2 ⟨rfl, hk⟩; replace hsy := hsy.call0 hk; (have x0 := hsy.rcell (j := 0) (List.mem_cons_of_mem _ (List.mem_cons_self ..)) rfl; have x1 := hsy.rcell (j := 1) (List.mem_cons_of_mem _ (List.mem_cons_self ..)) rfl; have x2 := hsy.rcell (j := 2) (List.mem_cons_of_mem _ (List.mem_cons_self ..)) rfl; have x3 := hsy.rcell (j := 3) (List.mem_cons_of_mem _ (List.mem_cons_self ..)) rfl; have x4 := hsy.rcell (j := 4) (List.mem_cons_of_mem _ (List.mem_cons_self ..)) rfl; have x5 := hsy.rcell (j := 5) (List.mem_cons_of_mem _ (List.mem_cons_self ..)) rfl; have x6 := hsy.rcell (j := 6) (List.mem_cons_of_mem _ (List.mem_cons_self ..)) rfl; have x7 := hsy.rcell (j := 7) (List.mem_cons_of_mem _ (List.mem_cons_self ..)) rfl; have y0 := hsy.cell (j := 0) rfl; have y1 := hsy.cell (j := 1) rfl; have y2 := hsy.cell (j := 2) rfl; have y3 := hsy.cell (j := 3) rfl; have y4 := hsy.cell (j := 4) rfl; have y5 := hsy.cell (j := 5) rfl; have y6 := hsy.cell (j := 6) rfl; have y7 := hsy.cell (j := 7) rfl))))
      go_meet
      exact ⟨by rw [HE.out, B1.out, B9.out, B2.out, B3.out, B4.out, B5.out]; rfl, hsy⟩
  case rest =>
  clear hsy
  obtain ⟨rfl, hsy⟩ := hcut
  cases E with
  | false =>
    have HF := Mx.hid (show sm = false by
      rw [HM.out]
      have h1 := HE.out
      cases hb : ((ia.length : Int) == (ib.length : Int)) with
      | false =>
        have hne : ¬ ia = ib := by rintro rfl; simp at hb
        rw [decide_eq_false hne]
        simp
      | true =>
        rw [hb] at h1
        rw [Bool.eq_false_iff]
        intro h2
        simp only [Bool.and_eq_true] at h2
        rw [h2.1, h2.2.1, h2.2.2.2.1, h2.2.2.2.2.1, h2.2.2.2.2.2.1, h2.2.2.2.2.2.2.1, h2.2.2.2.2.2.2.2] at h1
        cases h1)
    clear HM HE HC HC'
    go_wp2_with fail
    go_ret
    exact ⟨by rw [HF.out]; rfl, hsy.bare⟩
  | true =>
  have hE := HE.out.symm
  simp only [Bool.and_eq_true] at hE
  have HLEN := Mx.hid (show ia.length = ib.length by have := beq_iff_eq.1 hE.2.2.1; omega)
  have HM2 := Mx.hid (show sm = decide (ia = ib) by rw [HM.out, hE.1, hE.2.1, hE.2.2.2.1, hE.2.2.2.2.1, hE.2.2.2.2.2.1, hE.2.2.2.2.2.2.1, hE.2.2.2.2.2.2.2]; simp)
  clear HM HE hE
  go_wp2_with fail
  go_loopw [5] (fun y wr => ∃ i : Nat, i ≤ ia.length ∧ y = .int .i64 i ∧ Hid (ia.take i = ib.take i) ∧ St w wr [⟨.slice (some ⟨gy, 0, none⟩) 1 1, 35, 8, 1, [.int .i64 kb, .slice e1 db.length e2, .slice j1 ib.length j2, .string tb, .slice q1 pb.length q2, .int .i64 sb, .int .i64 ab, .string mb]⟩, ⟨.slice (some ⟨gx, 0, none⟩) 1 1, 35, 8, 1, [.int .i64 ka, .slice d1 da.length d2, .slice i1 ia.length i2, .string ta, .slice p1 pa.length p2, .int .i64 sa, .int .i64 aa, .string ma]⟩] []) (fun y _ => ia.length - (intOf y).toNat)
  case atStart => exact ⟨0, by omega, rfl, rfl, hsy⟩
  case round =>
    clear hsy
    obtain ⟨i, hi, rfl, HE, hs⟩ := hrel
    have c9 := hs.rcell (j := 2) (List.mem_cons_of_mem _ (List.mem_cons_self ..)) rfl
    by_cases hlt : i < ia.length
    · have hlt' : i < ib.length := by rw [← HLEN.out]; exact hlt
      obtain ⟨rfl, a0, a1, a2⟩ := HC.out i hlt
      obtain ⟨rfl, b0, b1, b2⟩ := HC'.out i hlt'
      have HK := Mx.hid (fun (wx : World) (hq : St w wx [⟨.slice (some ⟨gy, 0, none⟩) 1 1, 35, 8, 1, [.int .i64 kb, .slice e1 db.length e2, .slice (some ⟨blk', off', none⟩) ib.length j2, .string tb, .slice q1 pb.length q2, .int .i64 sb, .int .i64 ab, .string mb]⟩, ⟨.slice (some ⟨gx, 0, none⟩) 1 1, 35, 8, 1, [.int .i64 ka, .slice d1 da.length d2, .slice (some ⟨blk, off, none⟩) ia.length i2, .string ta, .slice p1 pa.length p2, .int .i64 sa, .int .i64 aa, .string ma]⟩] []) => And.intro (And.intro (hq.rcell (j := 2) (List.mem_cons_of_mem _ (List.mem_cons_self ..)) rfl) (hq.cell (j := 2) rfl)) (And.intro (And.intro (hq.keep a0) (And.intro (hq.keep a1) (hq.keep a2))) (And.intro (hq.keep b0) (And.intro (hq.keep b1) (hq.keep b2)))))
      have HNE := Mx.hid (fun (h : ¬ ia[i] = ib[i]) => (show sm = false by rw [HM2.out]; exact decide_eq_false (fun he => h (by subst he; rfl))))
      have HST := Mx.hid (fun (h : ia[i] = ib[i]) => (show ia.take (i + 1) = ib.take (i + 1) from take_succ_eq HE.out hlt hlt' h))
      clear a0 a1 a2 b0 b1 b2
      generalize ia[i] = x at *
      generalize ib[i] = y at *
      obtain ⟨m, nme, hsh⟩ := x
      obtain ⟨m', nme', hsh'⟩ := y
      simp only [Prod.mk.injEq] at HNE HST HK
      have k4 : (i : Int) < (ia.length : Int) := by omega
      have k5 : (i : Int) < (ib.length : Int) := by omega
      cases b1 : (m == m') with
      | false =>
        have HF := Mx.hid (HNE.out (fun h => by rw [h.1] at b1; simp at b1))
        have n1' := bnot_of b1
        simp only [Bool.not_false] at n1'
        clear b1 HST
        go_wp2_with fail
        refine wp_region_C (fun W' => St w W' [⟨.slice (some ⟨gy, 0, none⟩) 1 1, 35, 8, 1, [.int .i64 kb, .slice e1 db.length e2, .slice (some ⟨blk', off', none⟩) ib.length j2, .string tb, .slice q1 pb.length q2, .int .i64 sb, .int .i64 ab, .string mb]⟩, ⟨.slice (some ⟨gx, 0, none⟩) 1 1, 35, 8, 1, [.int .i64 ka, .slice d1 da.length d2, .slice (some ⟨blk, off, none⟩) ia.length i2, .string ta, .slice p1 pa.length p2, .int .i64 sa, .int .i64 aa, .string ma]⟩] []) (by kernel_rfl) (by kernel_rfl) (by exact hs.drew) ?_
        repeat ((first | (refine cq_y0 (v := ?_) (by with_reducible rfl) ?_ ?_; rotate_left 1; (focus (intro wq hq; (try dsimp only at hq); (obtain ⟨⟨y0, y1⟩, ⟨y2, y3, y4⟩, y5, y6, y7⟩ := HK.out _ hq); go_simp; (first | done | with_reducible rfl | fail)))) | (refine cq_no (by go_simp; first | done | (intro h9; cases h9)) ?_) | (refine cq_yes (v := ?_) (by go_simp) ?_ ?_; rotate_left 1; (focus (intro wq hq; (try dsimp only at hq); (obtain ⟨⟨y0, y1⟩, ⟨y2, y3, y4⟩, y5, y6, y7⟩ := HK.out _ hq); go_simp; (first | done | with_reducible rfl | fail))))); (try simp only [Act.put, List.setIfInBounds_toArray, List.set_cons_zero, List.set_cons_succ]))
        refine cq_nil ?_
        intro wq hq
        (try dsimp only at hq)
        go_wp2_with fail
        go_ret
        exact ⟨by rw [HF.out]; rfl, hq.bare⟩
      | true =>
      have N1' := Mx.hid (beq_iff_eq.1 b1)
      have n1' := bnot_of b1
      simp only [Bool.not_true] at n1'
      clear b1
      cases b2 : (nme.toList == nme'.toList) with
      | false =>
        have HF := Mx.hid (HNE.out (fun h => by rw [h.2.1] at b2; simp at b2))
        have n2' := bnot_of b2
        simp only [Bool.not_false] at n2'
        clear HST
        go_wp2_with fail
        refine wp_region_C (fun W' => St w W' [⟨.slice (some ⟨gy, 0, none⟩) 1 1, 35, 8, 1, [.int .i64 kb, .slice e1 db.length e2, .slice (some ⟨blk', off', none⟩) ib.length j2, .string tb, .slice q1 pb.length q2, .int .i64 sb, .int .i64 ab, .string mb]⟩, ⟨.slice (some ⟨gx, 0, none⟩) 1 1, 35, 8, 1, [.int .i64 ka, .slice d1 da.length d2, .slice (some ⟨blk, off, none⟩) ia.length i2, .string ta, .slice p1 pa.length p2, .int .i64 sa, .int .i64 aa, .string ma]⟩] []) (by kernel_rfl) (by kernel_rfl) (by exact hs.drew) ?_
        repeat ((first | (refine cq_y0 (v := ?_) (by with_reducible rfl) ?_ ?_; rotate_left 1; (focus (intro wq hq; (try dsimp only at hq); (obtain ⟨⟨y0, y1⟩, ⟨y2, y3, y4⟩, y5, y6, y7⟩ := HK.out _ hq); go_simp; (first | done | with_reducible rfl | fail)))) | (refine cq_no (by go_simp; first | done | (intro h9; cases h9)) ?_) | (refine cq_yes (v := ?_) (by go_simp) ?_ ?_; rotate_left 1; (focus (intro wq hq; (try dsimp only at hq); (obtain ⟨⟨y0, y1⟩, ⟨y2, y3, y4⟩, y5, y6, y7⟩ := HK.out _ hq); go_simp; (first | done | with_reducible rfl | fail))))); (try simp only [Act.put, List.setIfInBounds_toArray, List.set_cons_zero, List.set_cons_succ]))
        refine cq_nil ?_
        intro wq hq
        (try dsimp only at hq)
        go_wp2_with fail
        go_ret
        exact ⟨by rw [HF.out]; rfl, hq.bare⟩
      | true =>
      have N2' := Mx.hid (toL_inj (beq_iff_eq.1 b2))
      have n2' := bnot_of b2
      simp only [Bool.not_true] at n2'
      cases b3 : (hsh.toList == hsh'.toList) with
      | false =>
        have HF := Mx.hid (HNE.out (fun h => by rw [h.2.2] at b3; simp at b3))
        have n3' := bnot_of b3
        simp only [Bool.not_false] at n3'
        clear HST
        go_wp2_with fail
        refine wp_region_C (fun W' => St w W' [⟨.slice (some ⟨gy, 0, none⟩) 1 1, 35, 8, 1, [.int .i64 kb, .slice e1 db.length e2, .slice (some ⟨blk', off', none⟩) ib.length j2, .string tb, .slice q1 pb.length q2, .int .i64 sb, .int .i64 ab, .string mb]⟩, ⟨.slice (some ⟨gx, 0, none⟩) 1 1, 35, 8, 1, [.int .i64 ka, .slice d1 da.length d2, .slice (some ⟨blk, off, none⟩) ia.length i2, .string ta, .slice p1 pa.length p2, .int .i64 sa, .int .i64 aa, .string ma]⟩] []) (by kernel_rfl) (by kernel_rfl) (by exact hs.drew) ?_
        repeat ((first | (refine cq_y0 (v := ?_) (by with_reducible rfl) ?_ ?_; rotate_left 1; (focus (intro wq hq; (try dsimp only at hq); (obtain ⟨⟨y0, y1⟩, ⟨y2, y3, y4⟩, y5, y6, y7⟩ := HK.out _ hq); go_simp; (first | done | with_reducible rfl | fail)))) | (refine cq_no (by go_simp; first | done | (intro h9; cases h9)) ?_) | (refine cq_yes (v := ?_) (by go_simp) ?_ ?_; rotate_left 1; (focus (intro wq hq; (try dsimp only at hq); (obtain ⟨⟨y0, y1⟩, ⟨y2, y3, y4⟩, y5, y6, y7⟩ := HK.out _ hq); go_simp; (first | done | with_reducible rfl | fail))))); (try simp only [Act.put, List.setIfInBounds_toArray, List.set_cons_zero, List.set_cons_succ]))
        refine cq_nil ?_
        intro wq hq
        (try dsimp only at hq)
        go_wp2_with fail
        go_ret
        exact ⟨by rw [HF.out]; rfl, hq.bare⟩
      | true =>
      have N3' := Mx.hid (toL_inj (beq_iff_eq.1 b3))
      have n3' := bnot_of b3
      simp only [Bool.not_true] at n3'
      clear HNE
      go_wp2_with fail
      refine wp_region_C (fun W' => St w W' [⟨.slice (some ⟨gy, 0, none⟩) 1 1, 35, 8, 1, [.int .i64 kb, .slice e1 db.length e2, .slice (some ⟨blk', off', none⟩) ib.length j2, .string tb, .slice q1 pb.length q2, .int .i64 sb, .int .i64 ab, .string mb]⟩, ⟨.slice (some ⟨gx, 0, none⟩) 1 1, 35, 8, 1, [.int .i64 ka, .slice d1 da.length d2, .slice (some ⟨blk, off, none⟩) ia.length i2, .string ta, .slice p1 pa.length p2, .int .i64 sa, .int .i64 aa, .string ma]⟩] []) (by kernel_rfl) (by kernel_rfl) (by exact hs.drew) ?_
      repeat ((first | (refine cq_y0 (v := ?_) (by with_reducible rfl) ?_ ?_; rotate_left 1; (focus (intro wq hq; (try dsimp only at hq); (obtain ⟨⟨y0, y1⟩, ⟨y2, y3, y4⟩, y5, y6, y7⟩ := HK.out _ hq); go_simp; (first | done | with_reducible rfl | fail)))) | (refine cq_no (by go_simp; first | done | (intro h9; cases h9)) ?_) | (refine cq_yes (v := ?_) (by go_simp) ?_ ?_; rotate_left 1; (focus (intro wq hq; (try dsimp only at hq); (obtain ⟨⟨y0, y1⟩, ⟨y2, y3, y4⟩, y5, y6, y7⟩ := HK.out _ hq); go_simp; (first | done | with_reducible rfl | fail))))); (try simp only [Act.put, List.setIfInBounds_toArray, List.set_cons_zero, List.set_cons_succ]))
      refine cq_nil ?_
      intro wq hq
      (try dsimp only at hq)
      go_wp2_with fail
      go_roundw
      case rel =>
        repeat apply Exists.intro
        refine And.intro ?_ rfl
        exact ⟨i + 1, by omega, by go_num, HST.out ⟨N1'.out, N2'.out, N3'.out⟩, hq⟩
      case measure => simp [intOf]; omega
    · have HF := Mx.hid (show sm = true by
        rw [HM2.out]
        have h2 := HE.out
        have := HLEN.out
        rw [List.take_of_length_le (by omega), List.take_of_length_le (by omega)] at h2
        exact decide_eq_true h2)
      go_wp2_with fail
      go_ret
      exact ⟨by rw [HF.out]; rfl, hs.bare⟩

end Go.Proofs.Ytlfdnlomlbbicaa
