/- The walk of the document's May. -/
import Derived.Test.YtloogjdafhjheaaGreatR6A
import Derived.Test.YtloogjdafhjheaaGreatObjQ
import Derived.Deep.DeepCutAuto
namespace Go.Mx
open Go Go.RowKit
theorem may3 (data : List UInt8) (items : List Itm) (bv : Bool) (parents : List ByteArray) (stamp author : Int) (bm : Bool) :
    (((data.length : Int) == 0) && ((items.length : Int) == 0) && bv && parentsB parents && (decide (0 ≤ stamp) && decide (stamp ≤ 1099511627776)) && (decide (0 ≤ author) && decide (author ≤ 255)) && bm) =
    (((data.length : Int) + (items.length : Int) == 0) && bv && decide ((parents.length : Int) ≤ 2) && parents.all validB && risesB parents && decide (0 ≤ stamp) && decide (stamp ≤ 1099511627776) && decide (0 ≤ author) && decide (author ≤ 255) && bm) := by
  unfold parentsB
  have e : ((data.length : Int) + (items.length : Int) == 0) = (((data.length : Int) == 0) && ((items.length : Int) == 0)) := by
    rw [Bool.eq_iff_iff]; simp only [Bool.and_eq_true, beq_iff_eq]; omega
  have e2 : decide (parents.length ≤ 2) = decide ((parents.length : Int) ≤ 2) := decide_eq_decide.2 (by omega)
  rw [e, e2]
  generalize ((data.length : Int) == 0) = a
  generalize ((items.length : Int) == 0) = b
  generalize decide ((parents.length : Int) ≤ 2) = c
  generalize parents.all validB = d
  generalize risesB parents = f
  generalize decide (0 ≤ stamp) = g1
  generalize decide (stamp ≤ 1099511627776) = g2
  generalize decide (0 ≤ author) = g3
  generalize decide (author ≤ 255) = g4
  cases a <;> cases b <;> cases bv <;> cases c <;> cases d <;> cases f <;> simp [Bool.and_assoc]
end Go.Mx
namespace Go.Proofs.YtloogjdafhjheaaGreat
open Go.RowKit Go.Mx

theorem Tryz.aObj6 : Ag Tryz.prog 76 8 := ⟨⟨_, Tryz.underlying76, rfl⟩, by kernel_rfl⟩

set_option maxRecDepth 200000 in
set_option maxHeartbeats 4000000 in
theorem rmay_any (dv iv pv : Value) (o : Ob) (w : World) (h : OB w dv iv pv o) (hz : OZ o) (hdl : o.data.length ≤ 1000000000000) (hil : o.items.length ≤ 1000000000000) :
    Calls Tryz.prog 74 #[OV dv iv pv o] w fun e w' => e = .returned (.bool (mayB o)) ∧ St w w' [] [] := by
  have HIT := Mx.hid (fun wx (hs : St w wx [] []) => ritems_any iv o.items wx (hs.old h.i) hz.it)
  have HPA := Mx.hid (fun wx (hs : St w wx [] []) => rvalidL_any pv o.parents wx (hs.old h.p) hz.ps)
  have HRI := Mx.hid (fun wx (hs : St w wx [] []) => rises_any pv o.parents wx (hs.old h.p))
  have HVA := Mx.hid (fun wx => (rvalid_any o.tree wx (by have := hz.tr; omega)).mono fun e w' h => (show e = .returned (.bool (validB o.tree)) ∧ St wx w' [] [] from h))
  have HMS := Mx.hid (fun wx => rmsg_any o.msg wx (by unfold maxLen; have := hz.ms; omega))
  obtain ⟨d1, d2, rfl, g1, g2, _⟩ := h.d
  obtain ⟨i1, i2, rfl, g3, g4, _⟩ := h.i
  obtain ⟨p1, p2, rfl, g5, g6, _⟩ := h.p
  unfold maxLen at g2 g4 g6
  have HM : Hid (mayB o = if o.kind = 1 then decide (o.data.length ≤ 20000) && decide (o.items = []) && bareB o
    else if o.kind = 2 then decide (o.data = []) && itemsB o.items && bareB o
    else if o.kind = 3 then decide (o.data = []) && decide (o.items = []) && validB o.tree && parentsB o.parents && decide (0 ≤ o.stamp ∧ o.stamp ≤ 1099511627776) && decide (0 ≤ o.author ∧ o.author ≤ 255) && msgB o.msg
    else false) := rfl
  have HBB := Mx.hid (bare_eq o)
  clear h hz
  generalize bareB o = bb at *
  generalize mayB o = mb at *
  obtain ⟨kind, data, items, tree, parents, stamp, author, msg⟩ := o
  simp only [OV, nil_dec, two_dec, le_20000, may3] at *
  generalize itemsB items = bi at *
  generalize parents.all validB = bp at *
  generalize risesB parents = br at *
  generalize validB tree = bv at *
  generalize msgB msg = bm at *
  go_enter Tryz.func74, Tryz.ntmps74
  go_upto_region 1 with (((with_reducible show wpList _ _ _ _ _ _); refine wpl_box rfl 76 _ rfl (St.refl w) ([.int .i64 kind, .slice d1 data.length d2, .slice i1 items.length i2, .string tree, .slice p1 parents.length p2, .int .i64 stamp, .int .i64 author, .string msg]) (by rfl) ?_; intro gx wx hsx); (have x0 := hsx.cell (j := 0) rfl; have x1 := hsx.cell (j := 1) rfl; have x2 := hsx.cell (j := 2) rfl; have x3 := hsx.cell (j := 3) rfl; have x4 := hsx.cell (j := 4) rfl; have x5 := hsx.cell (j := 5) rfl; have x6 := hsx.cell (j := 6) rfl; have x7 := hsx.cell (j := 7) rfl))
  go_cut [0, 3] (fun _ c wz => c = .bool (!bb) ∧ wz = wx)
  case first => as_aux_lemma =>
    cases h1 : tree.toList.isEmpty with
    | false =>
      go_wp2_with (first | ((with_reducible show wpList _ _ _ _ _ _); refine wpl_want rfl ?_))
      go_meet
      exact ⟨by rw [HBB.out, h1]; rfl, rfl⟩
    | true =>
    cases h2 : ((parents.length : Int) == 0) with
    | false =>
      have h2' : 0 < parents.length := by have := beq_eq_false_iff_ne.1 h2; omega
      have HH2 := Mx.hid h2
      clear h2
      go_wp2_with (first | ((with_reducible show wpList _ _ _ _ _ _); refine wpl_want rfl ?_))
      go_meet
      exact ⟨by rw [HBB.out, h1, HH2.out]; rfl, rfl⟩
    | true =>
    have h2' : ¬ 0 < parents.length := by have := beq_iff_eq.1 h2; omega
    have HH2 := Mx.hid h2
    clear h2
    cases h3 : (stamp == 0) with
    | false =>
      have h3p : (stamp != 0) = true := by rw [bne, h3]; rfl
      have HH3 := Mx.hid h3
      clear h3
      go_wp2_with (first | ((with_reducible show wpList _ _ _ _ _ _); refine wpl_want rfl ?_))
      go_meet
      exact ⟨by rw [HBB.out, h1, HH2.out, HH3.out]; rfl, rfl⟩
    | true =>
    have h3p : (stamp != 0) = false := by rw [bne, h3]; rfl
    have HH3 := Mx.hid h3
    clear h3
    cases h4 : (author == 0) with
    | false =>
      have h4p : (author != 0) = true := by rw [bne, h4]; rfl
      have HH4 := Mx.hid h4
      clear h4
      go_wp2_with (first | ((with_reducible show wpList _ _ _ _ _ _); refine wpl_want rfl ?_))
      go_meet
      exact ⟨by rw [HBB.out, h1, HH2.out, HH3.out, HH4.out]; rfl, rfl⟩
    | true =>
    have h4p : (author != 0) = false := by rw [bne, h4]; rfl
    have HH4 := Mx.hid h4
    clear h4
    cases h5 : msg.toList.isEmpty with
    | false =>
      go_wp2_with (first | ((with_reducible show wpList _ _ _ _ _ _); refine wpl_want rfl ?_))
      go_meet
      exact ⟨by rw [HBB.out, h1, HH2.out, HH3.out, HH4.out, h5]; rfl, rfl⟩
    | true =>
      go_wp2_with (first | ((with_reducible show wpList _ _ _ _ _ _); refine wpl_want rfl ?_))
      go_meet
      exact ⟨by rw [HBB.out, h1, HH2.out, HH3.out, HH4.out, h5]; rfl, rfl⟩
  case rest =>
  obtain ⟨rfl, rfl⟩ := hcut
  clear HBB
  by_cases k1 : kind = 1
  · subst k1
    rw [if_pos rfl] at HM
    cases b1 : decide ((data.length : Int) ≤ 20000) with
    | false =>
      rw [b1] at HM
      (as_aux_lemma => (go_wp2_with (first | ((with_reducible show wpList _ _ _ _ _ _); refine wpl_want rfl ?_) | (go_at_call 89; refine (HIT.out _ hsx.bare).mono ?_; rintro e w2 ⟨rfl, hk⟩; replace hsx := hsx.call0 hk; (have x0 := hsx.cell (j := 0) rfl; have x1 := hsx.cell (j := 1) rfl; have x2 := hsx.cell (j := 2) rfl; have x3 := hsx.cell (j := 3) rfl; have x4 := hsx.cell (j := 4) rfl; have x5 := hsx.cell (j := 5) rfl; have x6 := hsx.cell (j := 6) rfl; have x7 := hsx.cell (j := 7) rfl)) | (go_at_call 71; refine (HVA.out _).mono ?_; rintro e w2 ⟨rfl, hk⟩; replace hsx := hsx.call0 hk; (have x0 := hsx.cell (j := 0) rfl; have x1 := hsx.cell (j := 1) rfl; have x2 := hsx.cell (j := 2) rfl; have x3 := hsx.cell (j := 3) rfl; have x4 := hsx.cell (j := 4) rfl; have x5 := hsx.cell (j := 5) rfl; have x6 := hsx.cell (j := 6) rfl; have x7 := hsx.cell (j := 7) rfl)) | (go_at_call 90; refine (HPA.out _ hsx.bare).mono ?_; rintro e w2 ⟨rfl, hk⟩; replace hsx := hsx.call0 hk; (have x0 := hsx.cell (j := 0) rfl; have x1 := hsx.cell (j := 1) rfl; have x2 := hsx.cell (j := 2) rfl; have x3 := hsx.cell (j := 3) rfl; have x4 := hsx.cell (j := 4) rfl; have x5 := hsx.cell (j := 5) rfl; have x6 := hsx.cell (j := 6) rfl; have x7 := hsx.cell (j := 7) rfl)) | (go_at_call 91; refine (HRI.out _ hsx.bare).mono ?_; rintro e w2 ⟨rfl, hk⟩; replace hsx := hsx.call0 hk; (have x0 := hsx.cell (j := 0) rfl; have x1 := hsx.cell (j := 1) rfl; have x2 := hsx.cell (j := 2) rfl; have x3 := hsx.cell (j := 3) rfl; have x4 := hsx.cell (j := 4) rfl; have x5 := hsx.cell (j := 5) rfl; have x6 := hsx.cell (j := 6) rfl; have x7 := hsx.cell (j := 7) rfl)) | (go_at_call 92; refine (HMS.out _).mono ?_; rintro e w2 ⟨rfl, rfl⟩)); go_ret; exact ⟨by rw [HM.out]; rfl, hsx.bare⟩))
    | true =>
      cases b2 : ((items.length : Int) == 0) with
      | false =>
        rw [b1, b2] at HM
        (as_aux_lemma => (go_wp2_with (first | ((with_reducible show wpList _ _ _ _ _ _); refine wpl_want rfl ?_) | (go_at_call 89; refine (HIT.out _ hsx.bare).mono ?_; rintro e w2 ⟨rfl, hk⟩; replace hsx := hsx.call0 hk; (have x0 := hsx.cell (j := 0) rfl; have x1 := hsx.cell (j := 1) rfl; have x2 := hsx.cell (j := 2) rfl; have x3 := hsx.cell (j := 3) rfl; have x4 := hsx.cell (j := 4) rfl; have x5 := hsx.cell (j := 5) rfl; have x6 := hsx.cell (j := 6) rfl; have x7 := hsx.cell (j := 7) rfl)) | (go_at_call 71; refine (HVA.out _).mono ?_; rintro e w2 ⟨rfl, hk⟩; replace hsx := hsx.call0 hk; (have x0 := hsx.cell (j := 0) rfl; have x1 := hsx.cell (j := 1) rfl; have x2 := hsx.cell (j := 2) rfl; have x3 := hsx.cell (j := 3) rfl; have x4 := hsx.cell (j := 4) rfl; have x5 := hsx.cell (j := 5) rfl; have x6 := hsx.cell (j := 6) rfl; have x7 := hsx.cell (j := 7) rfl)) | (go_at_call 90; refine (HPA.out _ hsx.bare).mono ?_; rintro e w2 ⟨rfl, hk⟩; replace hsx := hsx.call0 hk; (have x0 := hsx.cell (j := 0) rfl; have x1 := hsx.cell (j := 1) rfl; have x2 := hsx.cell (j := 2) rfl; have x3 := hsx.cell (j := 3) rfl; have x4 := hsx.cell (j := 4) rfl; have x5 := hsx.cell (j := 5) rfl; have x6 := hsx.cell (j := 6) rfl; have x7 := hsx.cell (j := 7) rfl)) | (go_at_call 91; refine (HRI.out _ hsx.bare).mono ?_; rintro e w2 ⟨rfl, hk⟩; replace hsx := hsx.call0 hk; (have x0 := hsx.cell (j := 0) rfl; have x1 := hsx.cell (j := 1) rfl; have x2 := hsx.cell (j := 2) rfl; have x3 := hsx.cell (j := 3) rfl; have x4 := hsx.cell (j := 4) rfl; have x5 := hsx.cell (j := 5) rfl; have x6 := hsx.cell (j := 6) rfl; have x7 := hsx.cell (j := 7) rfl)) | (go_at_call 92; refine (HMS.out _).mono ?_; rintro e w2 ⟨rfl, rfl⟩)); go_ret; exact ⟨by rw [HM.out]; rfl, hsx.bare⟩))
      | true =>
        rw [b1, b2] at HM
        cases bb <;> (as_aux_lemma => (go_wp2_with (first | ((with_reducible show wpList _ _ _ _ _ _); refine wpl_want rfl ?_) | (go_at_call 89; refine (HIT.out _ hsx.bare).mono ?_; rintro e w2 ⟨rfl, hk⟩; replace hsx := hsx.call0 hk; (have x0 := hsx.cell (j := 0) rfl; have x1 := hsx.cell (j := 1) rfl; have x2 := hsx.cell (j := 2) rfl; have x3 := hsx.cell (j := 3) rfl; have x4 := hsx.cell (j := 4) rfl; have x5 := hsx.cell (j := 5) rfl; have x6 := hsx.cell (j := 6) rfl; have x7 := hsx.cell (j := 7) rfl)) | (go_at_call 71; refine (HVA.out _).mono ?_; rintro e w2 ⟨rfl, hk⟩; replace hsx := hsx.call0 hk; (have x0 := hsx.cell (j := 0) rfl; have x1 := hsx.cell (j := 1) rfl; have x2 := hsx.cell (j := 2) rfl; have x3 := hsx.cell (j := 3) rfl; have x4 := hsx.cell (j := 4) rfl; have x5 := hsx.cell (j := 5) rfl; have x6 := hsx.cell (j := 6) rfl; have x7 := hsx.cell (j := 7) rfl)) | (go_at_call 90; refine (HPA.out _ hsx.bare).mono ?_; rintro e w2 ⟨rfl, hk⟩; replace hsx := hsx.call0 hk; (have x0 := hsx.cell (j := 0) rfl; have x1 := hsx.cell (j := 1) rfl; have x2 := hsx.cell (j := 2) rfl; have x3 := hsx.cell (j := 3) rfl; have x4 := hsx.cell (j := 4) rfl; have x5 := hsx.cell (j := 5) rfl; have x6 := hsx.cell (j := 6) rfl; have x7 := hsx.cell (j := 7) rfl)) | (go_at_call 91; refine (HRI.out _ hsx.bare).mono ?_; rintro e w2 ⟨rfl, hk⟩; replace hsx := hsx.call0 hk; (have x0 := hsx.cell (j := 0) rfl; have x1 := hsx.cell (j := 1) rfl; have x2 := hsx.cell (j := 2) rfl; have x3 := hsx.cell (j := 3) rfl; have x4 := hsx.cell (j := 4) rfl; have x5 := hsx.cell (j := 5) rfl; have x6 := hsx.cell (j := 6) rfl; have x7 := hsx.cell (j := 7) rfl)) | (go_at_call 92; refine (HMS.out _).mono ?_; rintro e w2 ⟨rfl, rfl⟩)); go_ret; exact ⟨by rw [HM.out]; rfl, hsx.bare⟩))
  rw [if_neg k1] at HM
  have q1 : (kind == 1) = false := by simpa using k1
  by_cases k2 : kind = 2
  · subst k2
    rw [if_pos rfl] at HM
    clear k1
    cases b1 : ((data.length : Int) == 0) with
    | false =>
      rw [b1] at HM
      (as_aux_lemma => (go_wp2_with (first | ((with_reducible show wpList _ _ _ _ _ _); refine wpl_want rfl ?_) | (go_at_call 89; refine (HIT.out _ hsx.bare).mono ?_; rintro e w2 ⟨rfl, hk⟩; replace hsx := hsx.call0 hk; (have x0 := hsx.cell (j := 0) rfl; have x1 := hsx.cell (j := 1) rfl; have x2 := hsx.cell (j := 2) rfl; have x3 := hsx.cell (j := 3) rfl; have x4 := hsx.cell (j := 4) rfl; have x5 := hsx.cell (j := 5) rfl; have x6 := hsx.cell (j := 6) rfl; have x7 := hsx.cell (j := 7) rfl)) | (go_at_call 71; refine (HVA.out _).mono ?_; rintro e w2 ⟨rfl, hk⟩; replace hsx := hsx.call0 hk; (have x0 := hsx.cell (j := 0) rfl; have x1 := hsx.cell (j := 1) rfl; have x2 := hsx.cell (j := 2) rfl; have x3 := hsx.cell (j := 3) rfl; have x4 := hsx.cell (j := 4) rfl; have x5 := hsx.cell (j := 5) rfl; have x6 := hsx.cell (j := 6) rfl; have x7 := hsx.cell (j := 7) rfl)) | (go_at_call 90; refine (HPA.out _ hsx.bare).mono ?_; rintro e w2 ⟨rfl, hk⟩; replace hsx := hsx.call0 hk; (have x0 := hsx.cell (j := 0) rfl; have x1 := hsx.cell (j := 1) rfl; have x2 := hsx.cell (j := 2) rfl; have x3 := hsx.cell (j := 3) rfl; have x4 := hsx.cell (j := 4) rfl; have x5 := hsx.cell (j := 5) rfl; have x6 := hsx.cell (j := 6) rfl; have x7 := hsx.cell (j := 7) rfl)) | (go_at_call 91; refine (HRI.out _ hsx.bare).mono ?_; rintro e w2 ⟨rfl, hk⟩; replace hsx := hsx.call0 hk; (have x0 := hsx.cell (j := 0) rfl; have x1 := hsx.cell (j := 1) rfl; have x2 := hsx.cell (j := 2) rfl; have x3 := hsx.cell (j := 3) rfl; have x4 := hsx.cell (j := 4) rfl; have x5 := hsx.cell (j := 5) rfl; have x6 := hsx.cell (j := 6) rfl; have x7 := hsx.cell (j := 7) rfl)) | (go_at_call 92; refine (HMS.out _).mono ?_; rintro e w2 ⟨rfl, rfl⟩)); go_ret; exact ⟨by rw [HM.out]; rfl, hsx.bare⟩))
    | true =>
      cases bi with
      | false =>
        rw [b1] at HM
        (as_aux_lemma => (go_wp2_with (first | ((with_reducible show wpList _ _ _ _ _ _); refine wpl_want rfl ?_) | (go_at_call 89; refine (HIT.out _ hsx.bare).mono ?_; rintro e w2 ⟨rfl, hk⟩; replace hsx := hsx.call0 hk; (have x0 := hsx.cell (j := 0) rfl; have x1 := hsx.cell (j := 1) rfl; have x2 := hsx.cell (j := 2) rfl; have x3 := hsx.cell (j := 3) rfl; have x4 := hsx.cell (j := 4) rfl; have x5 := hsx.cell (j := 5) rfl; have x6 := hsx.cell (j := 6) rfl; have x7 := hsx.cell (j := 7) rfl)) | (go_at_call 71; refine (HVA.out _).mono ?_; rintro e w2 ⟨rfl, hk⟩; replace hsx := hsx.call0 hk; (have x0 := hsx.cell (j := 0) rfl; have x1 := hsx.cell (j := 1) rfl; have x2 := hsx.cell (j := 2) rfl; have x3 := hsx.cell (j := 3) rfl; have x4 := hsx.cell (j := 4) rfl; have x5 := hsx.cell (j := 5) rfl; have x6 := hsx.cell (j := 6) rfl; have x7 := hsx.cell (j := 7) rfl)) | (go_at_call 90; refine (HPA.out _ hsx.bare).mono ?_; rintro e w2 ⟨rfl, hk⟩; replace hsx := hsx.call0 hk; (have x0 := hsx.cell (j := 0) rfl; have x1 := hsx.cell (j := 1) rfl; have x2 := hsx.cell (j := 2) rfl; have x3 := hsx.cell (j := 3) rfl; have x4 := hsx.cell (j := 4) rfl; have x5 := hsx.cell (j := 5) rfl; have x6 := hsx.cell (j := 6) rfl; have x7 := hsx.cell (j := 7) rfl)) | (go_at_call 91; refine (HRI.out _ hsx.bare).mono ?_; rintro e w2 ⟨rfl, hk⟩; replace hsx := hsx.call0 hk; (have x0 := hsx.cell (j := 0) rfl; have x1 := hsx.cell (j := 1) rfl; have x2 := hsx.cell (j := 2) rfl; have x3 := hsx.cell (j := 3) rfl; have x4 := hsx.cell (j := 4) rfl; have x5 := hsx.cell (j := 5) rfl; have x6 := hsx.cell (j := 6) rfl; have x7 := hsx.cell (j := 7) rfl)) | (go_at_call 92; refine (HMS.out _).mono ?_; rintro e w2 ⟨rfl, rfl⟩)); go_ret; exact ⟨by rw [HM.out]; rfl, hsx.bare⟩))
      | true =>
        rw [b1] at HM
        cases bb <;> (as_aux_lemma => (go_wp2_with (first | ((with_reducible show wpList _ _ _ _ _ _); refine wpl_want rfl ?_) | (go_at_call 89; refine (HIT.out _ hsx.bare).mono ?_; rintro e w2 ⟨rfl, hk⟩; replace hsx := hsx.call0 hk; (have x0 := hsx.cell (j := 0) rfl; have x1 := hsx.cell (j := 1) rfl; have x2 := hsx.cell (j := 2) rfl; have x3 := hsx.cell (j := 3) rfl; have x4 := hsx.cell (j := 4) rfl; have x5 := hsx.cell (j := 5) rfl; have x6 := hsx.cell (j := 6) rfl; have x7 := hsx.cell (j := 7) rfl)) | (go_at_call 71; refine (HVA.out _).mono ?_; rintro e w2 ⟨rfl, hk⟩; replace hsx := hsx.call0 hk; (have x0 := hsx.cell (j := 0) rfl; have x1 := hsx.cell (j := 1) rfl; have x2 := hsx.cell (j := 2) rfl; have x3 := hsx.cell (j := 3) rfl; have x4 := hsx.cell (j := 4) rfl; have x5 := hsx.cell (j := 5) rfl; have x6 := hsx.cell (j := 6) rfl; have x7 := hsx.cell (j := 7) rfl)) | (go_at_call 90; refine (HPA.out _ hsx.bare).mono ?_; rintro e w2 ⟨rfl, hk⟩; replace hsx := hsx.call0 hk; (have x0 := hsx.cell (j := 0) rfl; have x1 := hsx.cell (j := 1) rfl; have x2 := hsx.cell (j := 2) rfl; have x3 := hsx.cell (j := 3) rfl; have x4 := hsx.cell (j := 4) rfl; have x5 := hsx.cell (j := 5) rfl; have x6 := hsx.cell (j := 6) rfl; have x7 := hsx.cell (j := 7) rfl)) | (go_at_call 91; refine (HRI.out _ hsx.bare).mono ?_; rintro e w2 ⟨rfl, hk⟩; replace hsx := hsx.call0 hk; (have x0 := hsx.cell (j := 0) rfl; have x1 := hsx.cell (j := 1) rfl; have x2 := hsx.cell (j := 2) rfl; have x3 := hsx.cell (j := 3) rfl; have x4 := hsx.cell (j := 4) rfl; have x5 := hsx.cell (j := 5) rfl; have x6 := hsx.cell (j := 6) rfl; have x7 := hsx.cell (j := 7) rfl)) | (go_at_call 92; refine (HMS.out _).mono ?_; rintro e w2 ⟨rfl, rfl⟩)); go_ret; exact ⟨by rw [HM.out]; rfl, hsx.bare⟩))
  rw [if_neg k2] at HM
  have q2 : (kind == 2) = false := by simpa using k2
  by_cases k3 : kind = 3
  · subst k3
    rw [if_pos rfl] at HM
    clear k1 k2
    cases b1 : ((data.length : Int) + (items.length : Int) == 0) with
    | false =>
      rw [b1] at HM
      have b9 := beq_eq_false_iff_ne.1 b1
      clear b1
      by_cases hd : data.length = 0
      · have hi : ¬ items = [] := by
          rintro rfl
          exact b9 (by simp at hd ⊢; exact hd)
        clear b9
        (as_aux_lemma => (go_wp2_with (first | ((with_reducible show wpList _ _ _ _ _ _); refine wpl_want rfl ?_) | (go_at_call 89; refine (HIT.out _ hsx.bare).mono ?_; rintro e w2 ⟨rfl, hk⟩; replace hsx := hsx.call0 hk; (have x0 := hsx.cell (j := 0) rfl; have x1 := hsx.cell (j := 1) rfl; have x2 := hsx.cell (j := 2) rfl; have x3 := hsx.cell (j := 3) rfl; have x4 := hsx.cell (j := 4) rfl; have x5 := hsx.cell (j := 5) rfl; have x6 := hsx.cell (j := 6) rfl; have x7 := hsx.cell (j := 7) rfl)) | (go_at_call 71; refine (HVA.out _).mono ?_; rintro e w2 ⟨rfl, hk⟩; replace hsx := hsx.call0 hk; (have x0 := hsx.cell (j := 0) rfl; have x1 := hsx.cell (j := 1) rfl; have x2 := hsx.cell (j := 2) rfl; have x3 := hsx.cell (j := 3) rfl; have x4 := hsx.cell (j := 4) rfl; have x5 := hsx.cell (j := 5) rfl; have x6 := hsx.cell (j := 6) rfl; have x7 := hsx.cell (j := 7) rfl)) | (go_at_call 90; refine (HPA.out _ hsx.bare).mono ?_; rintro e w2 ⟨rfl, hk⟩; replace hsx := hsx.call0 hk; (have x0 := hsx.cell (j := 0) rfl; have x1 := hsx.cell (j := 1) rfl; have x2 := hsx.cell (j := 2) rfl; have x3 := hsx.cell (j := 3) rfl; have x4 := hsx.cell (j := 4) rfl; have x5 := hsx.cell (j := 5) rfl; have x6 := hsx.cell (j := 6) rfl; have x7 := hsx.cell (j := 7) rfl)) | (go_at_call 91; refine (HRI.out _ hsx.bare).mono ?_; rintro e w2 ⟨rfl, hk⟩; replace hsx := hsx.call0 hk; (have x0 := hsx.cell (j := 0) rfl; have x1 := hsx.cell (j := 1) rfl; have x2 := hsx.cell (j := 2) rfl; have x3 := hsx.cell (j := 3) rfl; have x4 := hsx.cell (j := 4) rfl; have x5 := hsx.cell (j := 5) rfl; have x6 := hsx.cell (j := 6) rfl; have x7 := hsx.cell (j := 7) rfl)) | (go_at_call 92; refine (HMS.out _).mono ?_; rintro e w2 ⟨rfl, rfl⟩)); go_ret; exact ⟨by rw [HM.out]; rfl, hsx.bare⟩))
      · have hi : 0 < data.length := by omega
        have hj : ¬ ((data.length : Int) + (items.length : Int) = 0) := by omega
        clear b9 hd
        (as_aux_lemma => (go_wp2_with (first | ((with_reducible show wpList _ _ _ _ _ _); refine wpl_want rfl ?_) | (go_at_call 89; refine (HIT.out _ hsx.bare).mono ?_; rintro e w2 ⟨rfl, hk⟩; replace hsx := hsx.call0 hk; (have x0 := hsx.cell (j := 0) rfl; have x1 := hsx.cell (j := 1) rfl; have x2 := hsx.cell (j := 2) rfl; have x3 := hsx.cell (j := 3) rfl; have x4 := hsx.cell (j := 4) rfl; have x5 := hsx.cell (j := 5) rfl; have x6 := hsx.cell (j := 6) rfl; have x7 := hsx.cell (j := 7) rfl)) | (go_at_call 71; refine (HVA.out _).mono ?_; rintro e w2 ⟨rfl, hk⟩; replace hsx := hsx.call0 hk; (have x0 := hsx.cell (j := 0) rfl; have x1 := hsx.cell (j := 1) rfl; have x2 := hsx.cell (j := 2) rfl; have x3 := hsx.cell (j := 3) rfl; have x4 := hsx.cell (j := 4) rfl; have x5 := hsx.cell (j := 5) rfl; have x6 := hsx.cell (j := 6) rfl; have x7 := hsx.cell (j := 7) rfl)) | (go_at_call 90; refine (HPA.out _ hsx.bare).mono ?_; rintro e w2 ⟨rfl, hk⟩; replace hsx := hsx.call0 hk; (have x0 := hsx.cell (j := 0) rfl; have x1 := hsx.cell (j := 1) rfl; have x2 := hsx.cell (j := 2) rfl; have x3 := hsx.cell (j := 3) rfl; have x4 := hsx.cell (j := 4) rfl; have x5 := hsx.cell (j := 5) rfl; have x6 := hsx.cell (j := 6) rfl; have x7 := hsx.cell (j := 7) rfl)) | (go_at_call 91; refine (HRI.out _ hsx.bare).mono ?_; rintro e w2 ⟨rfl, hk⟩; replace hsx := hsx.call0 hk; (have x0 := hsx.cell (j := 0) rfl; have x1 := hsx.cell (j := 1) rfl; have x2 := hsx.cell (j := 2) rfl; have x3 := hsx.cell (j := 3) rfl; have x4 := hsx.cell (j := 4) rfl; have x5 := hsx.cell (j := 5) rfl; have x6 := hsx.cell (j := 6) rfl; have x7 := hsx.cell (j := 7) rfl)) | (go_at_call 92; refine (HMS.out _).mono ?_; rintro e w2 ⟨rfl, rfl⟩)); go_ret; exact ⟨by rw [HM.out]; rfl, hsx.bare⟩))
    | true =>
    rw [b1] at HM
    have b8 : data.length = 0 := by have := beq_iff_eq.1 b1; omega
    have b9 : items.length = 0 := by have := beq_iff_eq.1 b1; omega
    clear b1
    cases bv with
    | false =>
      (as_aux_lemma => (go_wp2_with (first | ((with_reducible show wpList _ _ _ _ _ _); refine wpl_want rfl ?_) | (go_at_call 89; refine (HIT.out _ hsx.bare).mono ?_; rintro e w2 ⟨rfl, hk⟩; replace hsx := hsx.call0 hk; (have x0 := hsx.cell (j := 0) rfl; have x1 := hsx.cell (j := 1) rfl; have x2 := hsx.cell (j := 2) rfl; have x3 := hsx.cell (j := 3) rfl; have x4 := hsx.cell (j := 4) rfl; have x5 := hsx.cell (j := 5) rfl; have x6 := hsx.cell (j := 6) rfl; have x7 := hsx.cell (j := 7) rfl)) | (go_at_call 71; refine (HVA.out _).mono ?_; rintro e w2 ⟨rfl, hk⟩; replace hsx := hsx.call0 hk; (have x0 := hsx.cell (j := 0) rfl; have x1 := hsx.cell (j := 1) rfl; have x2 := hsx.cell (j := 2) rfl; have x3 := hsx.cell (j := 3) rfl; have x4 := hsx.cell (j := 4) rfl; have x5 := hsx.cell (j := 5) rfl; have x6 := hsx.cell (j := 6) rfl; have x7 := hsx.cell (j := 7) rfl)) | (go_at_call 90; refine (HPA.out _ hsx.bare).mono ?_; rintro e w2 ⟨rfl, hk⟩; replace hsx := hsx.call0 hk; (have x0 := hsx.cell (j := 0) rfl; have x1 := hsx.cell (j := 1) rfl; have x2 := hsx.cell (j := 2) rfl; have x3 := hsx.cell (j := 3) rfl; have x4 := hsx.cell (j := 4) rfl; have x5 := hsx.cell (j := 5) rfl; have x6 := hsx.cell (j := 6) rfl; have x7 := hsx.cell (j := 7) rfl)) | (go_at_call 91; refine (HRI.out _ hsx.bare).mono ?_; rintro e w2 ⟨rfl, hk⟩; replace hsx := hsx.call0 hk; (have x0 := hsx.cell (j := 0) rfl; have x1 := hsx.cell (j := 1) rfl; have x2 := hsx.cell (j := 2) rfl; have x3 := hsx.cell (j := 3) rfl; have x4 := hsx.cell (j := 4) rfl; have x5 := hsx.cell (j := 5) rfl; have x6 := hsx.cell (j := 6) rfl; have x7 := hsx.cell (j := 7) rfl)) | (go_at_call 92; refine (HMS.out _).mono ?_; rintro e w2 ⟨rfl, rfl⟩)); go_ret; exact ⟨by rw [HM.out]; rfl, hsx.bare⟩))
    | true =>
    cases b2 : decide ((parents.length : Int) ≤ 2) with
    | false =>
      rw [b2] at HM
      (as_aux_lemma => (go_wp2_with (first | ((with_reducible show wpList _ _ _ _ _ _); refine wpl_want rfl ?_) | (go_at_call 89; refine (HIT.out _ hsx.bare).mono ?_; rintro e w2 ⟨rfl, hk⟩; replace hsx := hsx.call0 hk; (have x0 := hsx.cell (j := 0) rfl; have x1 := hsx.cell (j := 1) rfl; have x2 := hsx.cell (j := 2) rfl; have x3 := hsx.cell (j := 3) rfl; have x4 := hsx.cell (j := 4) rfl; have x5 := hsx.cell (j := 5) rfl; have x6 := hsx.cell (j := 6) rfl; have x7 := hsx.cell (j := 7) rfl)) | (go_at_call 71; refine (HVA.out _).mono ?_; rintro e w2 ⟨rfl, hk⟩; replace hsx := hsx.call0 hk; (have x0 := hsx.cell (j := 0) rfl; have x1 := hsx.cell (j := 1) rfl; have x2 := hsx.cell (j := 2) rfl; have x3 := hsx.cell (j := 3) rfl; have x4 := hsx.cell (j := 4) rfl; have x5 := hsx.cell (j := 5) rfl; have x6 := hsx.cell (j := 6) rfl; have x7 := hsx.cell (j := 7) rfl)) | (go_at_call 90; refine (HPA.out _ hsx.bare).mono ?_; rintro e w2 ⟨rfl, hk⟩; replace hsx := hsx.call0 hk; (have x0 := hsx.cell (j := 0) rfl; have x1 := hsx.cell (j := 1) rfl; have x2 := hsx.cell (j := 2) rfl; have x3 := hsx.cell (j := 3) rfl; have x4 := hsx.cell (j := 4) rfl; have x5 := hsx.cell (j := 5) rfl; have x6 := hsx.cell (j := 6) rfl; have x7 := hsx.cell (j := 7) rfl)) | (go_at_call 91; refine (HRI.out _ hsx.bare).mono ?_; rintro e w2 ⟨rfl, hk⟩; replace hsx := hsx.call0 hk; (have x0 := hsx.cell (j := 0) rfl; have x1 := hsx.cell (j := 1) rfl; have x2 := hsx.cell (j := 2) rfl; have x3 := hsx.cell (j := 3) rfl; have x4 := hsx.cell (j := 4) rfl; have x5 := hsx.cell (j := 5) rfl; have x6 := hsx.cell (j := 6) rfl; have x7 := hsx.cell (j := 7) rfl)) | (go_at_call 92; refine (HMS.out _).mono ?_; rintro e w2 ⟨rfl, rfl⟩)); go_ret; exact ⟨by rw [HM.out]; rfl, hsx.bare⟩))
    | true =>
    rw [b2] at HM
    cases bp with
    | false =>
      (as_aux_lemma => (go_wp2_with (first | ((with_reducible show wpList _ _ _ _ _ _); refine wpl_want rfl ?_) | (go_at_call 89; refine (HIT.out _ hsx.bare).mono ?_; rintro e w2 ⟨rfl, hk⟩; replace hsx := hsx.call0 hk; (have x0 := hsx.cell (j := 0) rfl; have x1 := hsx.cell (j := 1) rfl; have x2 := hsx.cell (j := 2) rfl; have x3 := hsx.cell (j := 3) rfl; have x4 := hsx.cell (j := 4) rfl; have x5 := hsx.cell (j := 5) rfl; have x6 := hsx.cell (j := 6) rfl; have x7 := hsx.cell (j := 7) rfl)) | (go_at_call 71; refine (HVA.out _).mono ?_; rintro e w2 ⟨rfl, hk⟩; replace hsx := hsx.call0 hk; (have x0 := hsx.cell (j := 0) rfl; have x1 := hsx.cell (j := 1) rfl; have x2 := hsx.cell (j := 2) rfl; have x3 := hsx.cell (j := 3) rfl; have x4 := hsx.cell (j := 4) rfl; have x5 := hsx.cell (j := 5) rfl; have x6 := hsx.cell (j := 6) rfl; have x7 := hsx.cell (j := 7) rfl)) | (go_at_call 90; refine (HPA.out _ hsx.bare).mono ?_; rintro e w2 ⟨rfl, hk⟩; replace hsx := hsx.call0 hk; (have x0 := hsx.cell (j := 0) rfl; have x1 := hsx.cell (j := 1) rfl; have x2 := hsx.cell (j := 2) rfl; have x3 := hsx.cell (j := 3) rfl; have x4 := hsx.cell (j := 4) rfl; have x5 := hsx.cell (j := 5) rfl; have x6 := hsx.cell (j := 6) rfl; have x7 := hsx.cell (j := 7) rfl)) | (go_at_call 91; refine (HRI.out _ hsx.bare).mono ?_; rintro e w2 ⟨rfl, hk⟩; replace hsx := hsx.call0 hk; (have x0 := hsx.cell (j := 0) rfl; have x1 := hsx.cell (j := 1) rfl; have x2 := hsx.cell (j := 2) rfl; have x3 := hsx.cell (j := 3) rfl; have x4 := hsx.cell (j := 4) rfl; have x5 := hsx.cell (j := 5) rfl; have x6 := hsx.cell (j := 6) rfl; have x7 := hsx.cell (j := 7) rfl)) | (go_at_call 92; refine (HMS.out _).mono ?_; rintro e w2 ⟨rfl, rfl⟩)); go_ret; exact ⟨by rw [HM.out]; rfl, hsx.bare⟩))
    | true =>
    cases br with
    | false =>
      (as_aux_lemma => (go_wp2_with (first | ((with_reducible show wpList _ _ _ _ _ _); refine wpl_want rfl ?_) | (go_at_call 89; refine (HIT.out _ hsx.bare).mono ?_; rintro e w2 ⟨rfl, hk⟩; replace hsx := hsx.call0 hk; (have x0 := hsx.cell (j := 0) rfl; have x1 := hsx.cell (j := 1) rfl; have x2 := hsx.cell (j := 2) rfl; have x3 := hsx.cell (j := 3) rfl; have x4 := hsx.cell (j := 4) rfl; have x5 := hsx.cell (j := 5) rfl; have x6 := hsx.cell (j := 6) rfl; have x7 := hsx.cell (j := 7) rfl)) | (go_at_call 71; refine (HVA.out _).mono ?_; rintro e w2 ⟨rfl, hk⟩; replace hsx := hsx.call0 hk; (have x0 := hsx.cell (j := 0) rfl; have x1 := hsx.cell (j := 1) rfl; have x2 := hsx.cell (j := 2) rfl; have x3 := hsx.cell (j := 3) rfl; have x4 := hsx.cell (j := 4) rfl; have x5 := hsx.cell (j := 5) rfl; have x6 := hsx.cell (j := 6) rfl; have x7 := hsx.cell (j := 7) rfl)) | (go_at_call 90; refine (HPA.out _ hsx.bare).mono ?_; rintro e w2 ⟨rfl, hk⟩; replace hsx := hsx.call0 hk; (have x0 := hsx.cell (j := 0) rfl; have x1 := hsx.cell (j := 1) rfl; have x2 := hsx.cell (j := 2) rfl; have x3 := hsx.cell (j := 3) rfl; have x4 := hsx.cell (j := 4) rfl; have x5 := hsx.cell (j := 5) rfl; have x6 := hsx.cell (j := 6) rfl; have x7 := hsx.cell (j := 7) rfl)) | (go_at_call 91; refine (HRI.out _ hsx.bare).mono ?_; rintro e w2 ⟨rfl, hk⟩; replace hsx := hsx.call0 hk; (have x0 := hsx.cell (j := 0) rfl; have x1 := hsx.cell (j := 1) rfl; have x2 := hsx.cell (j := 2) rfl; have x3 := hsx.cell (j := 3) rfl; have x4 := hsx.cell (j := 4) rfl; have x5 := hsx.cell (j := 5) rfl; have x6 := hsx.cell (j := 6) rfl; have x7 := hsx.cell (j := 7) rfl)) | (go_at_call 92; refine (HMS.out _).mono ?_; rintro e w2 ⟨rfl, rfl⟩)); go_ret; exact ⟨by rw [HM.out]; rfl, hsx.bare⟩))
    | true =>
    cases b3 : decide (0 ≤ stamp) with
    | false =>
      rw [b3] at HM
      (as_aux_lemma => (go_wp2_with (first | ((with_reducible show wpList _ _ _ _ _ _); refine wpl_want rfl ?_) | (go_at_call 89; refine (HIT.out _ hsx.bare).mono ?_; rintro e w2 ⟨rfl, hk⟩; replace hsx := hsx.call0 hk; (have x0 := hsx.cell (j := 0) rfl; have x1 := hsx.cell (j := 1) rfl; have x2 := hsx.cell (j := 2) rfl; have x3 := hsx.cell (j := 3) rfl; have x4 := hsx.cell (j := 4) rfl; have x5 := hsx.cell (j := 5) rfl; have x6 := hsx.cell (j := 6) rfl; have x7 := hsx.cell (j := 7) rfl)) | (go_at_call 71; refine (HVA.out _).mono ?_; rintro e w2 ⟨rfl, hk⟩; replace hsx := hsx.call0 hk; (have x0 := hsx.cell (j := 0) rfl; have x1 := hsx.cell (j := 1) rfl; have x2 := hsx.cell (j := 2) rfl; have x3 := hsx.cell (j := 3) rfl; have x4 := hsx.cell (j := 4) rfl; have x5 := hsx.cell (j := 5) rfl; have x6 := hsx.cell (j := 6) rfl; have x7 := hsx.cell (j := 7) rfl)) | (go_at_call 90; refine (HPA.out _ hsx.bare).mono ?_; rintro e w2 ⟨rfl, hk⟩; replace hsx := hsx.call0 hk; (have x0 := hsx.cell (j := 0) rfl; have x1 := hsx.cell (j := 1) rfl; have x2 := hsx.cell (j := 2) rfl; have x3 := hsx.cell (j := 3) rfl; have x4 := hsx.cell (j := 4) rfl; have x5 := hsx.cell (j := 5) rfl; have x6 := hsx.cell (j := 6) rfl; have x7 := hsx.cell (j := 7) rfl)) | (go_at_call 91; refine (HRI.out _ hsx.bare).mono ?_; rintro e w2 ⟨rfl, hk⟩; replace hsx := hsx.call0 hk; (have x0 := hsx.cell (j := 0) rfl; have x1 := hsx.cell (j := 1) rfl; have x2 := hsx.cell (j := 2) rfl; have x3 := hsx.cell (j := 3) rfl; have x4 := hsx.cell (j := 4) rfl; have x5 := hsx.cell (j := 5) rfl; have x6 := hsx.cell (j := 6) rfl; have x7 := hsx.cell (j := 7) rfl)) | (go_at_call 92; refine (HMS.out _).mono ?_; rintro e w2 ⟨rfl, rfl⟩)); go_ret; exact ⟨by rw [HM.out]; rfl, hsx.bare⟩))
    | true =>
    rw [b3] at HM
    cases b4 : decide (stamp ≤ 1099511627776) with
    | false =>
      rw [b4] at HM
      (as_aux_lemma => (go_wp2_with (first | ((with_reducible show wpList _ _ _ _ _ _); refine wpl_want rfl ?_) | (go_at_call 89; refine (HIT.out _ hsx.bare).mono ?_; rintro e w2 ⟨rfl, hk⟩; replace hsx := hsx.call0 hk; (have x0 := hsx.cell (j := 0) rfl; have x1 := hsx.cell (j := 1) rfl; have x2 := hsx.cell (j := 2) rfl; have x3 := hsx.cell (j := 3) rfl; have x4 := hsx.cell (j := 4) rfl; have x5 := hsx.cell (j := 5) rfl; have x6 := hsx.cell (j := 6) rfl; have x7 := hsx.cell (j := 7) rfl)) | (go_at_call 71; refine (HVA.out _).mono ?_; rintro e w2 ⟨rfl, hk⟩; replace hsx := hsx.call0 hk; (have x0 := hsx.cell (j := 0) rfl; have x1 := hsx.cell (j := 1) rfl; have x2 := hsx.cell (j := 2) rfl; have x3 := hsx.cell (j := 3) rfl; have x4 := hsx.cell (j := 4) rfl; have x5 := hsx.cell (j := 5) rfl; have x6 := hsx.cell (j := 6) rfl; have x7 := hsx.cell (j := 7) rfl)) | (go_at_call 90; refine (HPA.out _ hsx.bare).mono ?_; rintro e w2 ⟨rfl, hk⟩; replace hsx := hsx.call0 hk; (have x0 := hsx.cell (j := 0) rfl; have x1 := hsx.cell (j := 1) rfl; have x2 := hsx.cell (j := 2) rfl; have x3 := hsx.cell (j := 3) rfl; have x4 := hsx.cell (j := 4) rfl; have x5 := hsx.cell (j := 5) rfl; have x6 := hsx.cell (j := 6) rfl; have x7 := hsx.cell (j := 7) rfl)) | (go_at_call 91; refine (HRI.out _ hsx.bare).mono ?_; rintro e w2 ⟨rfl, hk⟩; replace hsx := hsx.call0 hk; (have x0 := hsx.cell (j := 0) rfl; have x1 := hsx.cell (j := 1) rfl; have x2 := hsx.cell (j := 2) rfl; have x3 := hsx.cell (j := 3) rfl; have x4 := hsx.cell (j := 4) rfl; have x5 := hsx.cell (j := 5) rfl; have x6 := hsx.cell (j := 6) rfl; have x7 := hsx.cell (j := 7) rfl)) | (go_at_call 92; refine (HMS.out _).mono ?_; rintro e w2 ⟨rfl, rfl⟩)); go_ret; exact ⟨by rw [HM.out]; rfl, hsx.bare⟩))
    | true =>
    rw [b4] at HM
    cases b5 : decide (0 ≤ author) with
    | false =>
      rw [b5] at HM
      (as_aux_lemma => (go_wp2_with (first | ((with_reducible show wpList _ _ _ _ _ _); refine wpl_want rfl ?_) | (go_at_call 89; refine (HIT.out _ hsx.bare).mono ?_; rintro e w2 ⟨rfl, hk⟩; replace hsx := hsx.call0 hk; (have x0 := hsx.cell (j := 0) rfl; have x1 := hsx.cell (j := 1) rfl; have x2 := hsx.cell (j := 2) rfl; have x3 := hsx.cell (j := 3) rfl; have x4 := hsx.cell (j := 4) rfl; have x5 := hsx.cell (j := 5) rfl; have x6 := hsx.cell (j := 6) rfl; have x7 := hsx.cell (j := 7) rfl)) | (go_at_call 71; refine (HVA.out _).mono ?_; rintro e w2 ⟨rfl, hk⟩; replace hsx := hsx.call0 hk; (have x0 := hsx.cell (j := 0) rfl; have x1 := hsx.cell (j := 1) rfl; have x2 := hsx.cell (j := 2) rfl; have x3 := hsx.cell (j := 3) rfl; have x4 := hsx.cell (j := 4) rfl; have x5 := hsx.cell (j := 5) rfl; have x6 := hsx.cell (j := 6) rfl; have x7 := hsx.cell (j := 7) rfl)) | (go_at_call 90; refine (HPA.out _ hsx.bare).mono ?_; rintro e w2 ⟨rfl, hk⟩; replace hsx := hsx.call0 hk; (have x0 := hsx.cell (j := 0) rfl; have x1 := hsx.cell (j := 1) rfl; have x2 := hsx.cell (j := 2) rfl; have x3 := hsx.cell (j := 3) rfl; have x4 := hsx.cell (j := 4) rfl; have x5 := hsx.cell (j := 5) rfl; have x6 := hsx.cell (j := 6) rfl; have x7 := hsx.cell (j := 7) rfl)) | (go_at_call 91; refine (HRI.out _ hsx.bare).mono ?_; rintro e w2 ⟨rfl, hk⟩; replace hsx := hsx.call0 hk; (have x0 := hsx.cell (j := 0) rfl; have x1 := hsx.cell (j := 1) rfl; have x2 := hsx.cell (j := 2) rfl; have x3 := hsx.cell (j := 3) rfl; have x4 := hsx.cell (j := 4) rfl; have x5 := hsx.cell (j := 5) rfl; have x6 := hsx.cell (j := 6) rfl; have x7 := hsx.cell (j := 7) rfl)) | (go_at_call 92; refine (HMS.out _).mono ?_; rintro e w2 ⟨rfl, rfl⟩)); go_ret; exact ⟨by rw [HM.out]; rfl, hsx.bare⟩))
    | true =>
    rw [b5] at HM
    cases b6 : decide (author ≤ 255) with
    | false =>
      rw [b6] at HM
      (as_aux_lemma => (go_wp2_with (first | ((with_reducible show wpList _ _ _ _ _ _); refine wpl_want rfl ?_) | (go_at_call 89; refine (HIT.out _ hsx.bare).mono ?_; rintro e w2 ⟨rfl, hk⟩; replace hsx := hsx.call0 hk; (have x0 := hsx.cell (j := 0) rfl; have x1 := hsx.cell (j := 1) rfl; have x2 := hsx.cell (j := 2) rfl; have x3 := hsx.cell (j := 3) rfl; have x4 := hsx.cell (j := 4) rfl; have x5 := hsx.cell (j := 5) rfl; have x6 := hsx.cell (j := 6) rfl; have x7 := hsx.cell (j := 7) rfl)) | (go_at_call 71; refine (HVA.out _).mono ?_; rintro e w2 ⟨rfl, hk⟩; replace hsx := hsx.call0 hk; (have x0 := hsx.cell (j := 0) rfl; have x1 := hsx.cell (j := 1) rfl; have x2 := hsx.cell (j := 2) rfl; have x3 := hsx.cell (j := 3) rfl; have x4 := hsx.cell (j := 4) rfl; have x5 := hsx.cell (j := 5) rfl; have x6 := hsx.cell (j := 6) rfl; have x7 := hsx.cell (j := 7) rfl)) | (go_at_call 90; refine (HPA.out _ hsx.bare).mono ?_; rintro e w2 ⟨rfl, hk⟩; replace hsx := hsx.call0 hk; (have x0 := hsx.cell (j := 0) rfl; have x1 := hsx.cell (j := 1) rfl; have x2 := hsx.cell (j := 2) rfl; have x3 := hsx.cell (j := 3) rfl; have x4 := hsx.cell (j := 4) rfl; have x5 := hsx.cell (j := 5) rfl; have x6 := hsx.cell (j := 6) rfl; have x7 := hsx.cell (j := 7) rfl)) | (go_at_call 91; refine (HRI.out _ hsx.bare).mono ?_; rintro e w2 ⟨rfl, hk⟩; replace hsx := hsx.call0 hk; (have x0 := hsx.cell (j := 0) rfl; have x1 := hsx.cell (j := 1) rfl; have x2 := hsx.cell (j := 2) rfl; have x3 := hsx.cell (j := 3) rfl; have x4 := hsx.cell (j := 4) rfl; have x5 := hsx.cell (j := 5) rfl; have x6 := hsx.cell (j := 6) rfl; have x7 := hsx.cell (j := 7) rfl)) | (go_at_call 92; refine (HMS.out _).mono ?_; rintro e w2 ⟨rfl, rfl⟩)); go_ret; exact ⟨by rw [HM.out]; rfl, hsx.bare⟩))
    | true =>
    rw [b6] at HM
    (as_aux_lemma => (go_wp2_with (first | ((with_reducible show wpList _ _ _ _ _ _); refine wpl_want rfl ?_) | (go_at_call 89; refine (HIT.out _ hsx.bare).mono ?_; rintro e w2 ⟨rfl, hk⟩; replace hsx := hsx.call0 hk; (have x0 := hsx.cell (j := 0) rfl; have x1 := hsx.cell (j := 1) rfl; have x2 := hsx.cell (j := 2) rfl; have x3 := hsx.cell (j := 3) rfl; have x4 := hsx.cell (j := 4) rfl; have x5 := hsx.cell (j := 5) rfl; have x6 := hsx.cell (j := 6) rfl; have x7 := hsx.cell (j := 7) rfl)) | (go_at_call 71; refine (HVA.out _).mono ?_; rintro e w2 ⟨rfl, hk⟩; replace hsx := hsx.call0 hk; (have x0 := hsx.cell (j := 0) rfl; have x1 := hsx.cell (j := 1) rfl; have x2 := hsx.cell (j := 2) rfl; have x3 := hsx.cell (j := 3) rfl; have x4 := hsx.cell (j := 4) rfl; have x5 := hsx.cell (j := 5) rfl; have x6 := hsx.cell (j := 6) rfl; have x7 := hsx.cell (j := 7) rfl)) | (go_at_call 90; refine (HPA.out _ hsx.bare).mono ?_; rintro e w2 ⟨rfl, hk⟩; replace hsx := hsx.call0 hk; (have x0 := hsx.cell (j := 0) rfl; have x1 := hsx.cell (j := 1) rfl; have x2 := hsx.cell (j := 2) rfl; have x3 := hsx.cell (j := 3) rfl; have x4 := hsx.cell (j := 4) rfl; have x5 := hsx.cell (j := 5) rfl; have x6 := hsx.cell (j := 6) rfl; have x7 := hsx.cell (j := 7) rfl)) | (go_at_call 91; refine (HRI.out _ hsx.bare).mono ?_; rintro e w2 ⟨rfl, hk⟩; replace hsx := hsx.call0 hk; (have x0 := hsx.cell (j := 0) rfl; have x1 := hsx.cell (j := 1) rfl; have x2 := hsx.cell (j := 2) rfl; have x3 := hsx.cell (j := 3) rfl; have x4 := hsx.cell (j := 4) rfl; have x5 := hsx.cell (j := 5) rfl; have x6 := hsx.cell (j := 6) rfl; have x7 := hsx.cell (j := 7) rfl)) | (go_at_call 92; refine (HMS.out _).mono ?_; rintro e w2 ⟨rfl, rfl⟩)); go_ret; exact ⟨by rw [HM.out]; rfl, hsx.bare⟩))
  rw [if_neg k3] at HM
  have q3 : (kind == 3) = false := by simpa using k3
  clear k1 k2 k3
  (as_aux_lemma => (go_wp2_with (first | ((with_reducible show wpList _ _ _ _ _ _); refine wpl_want rfl ?_) | (go_at_call 89; refine (HIT.out _ hsx.bare).mono ?_; rintro e w2 ⟨rfl, hk⟩; replace hsx := hsx.call0 hk; (have x0 := hsx.cell (j := 0) rfl; have x1 := hsx.cell (j := 1) rfl; have x2 := hsx.cell (j := 2) rfl; have x3 := hsx.cell (j := 3) rfl; have x4 := hsx.cell (j := 4) rfl; have x5 := hsx.cell (j := 5) rfl; have x6 := hsx.cell (j := 6) rfl; have x7 := hsx.cell (j := 7) rfl)) | (go_at_call 71; refine (HVA.out _).mono ?_; rintro e w2 ⟨rfl, hk⟩; replace hsx := hsx.call0 hk; (have x0 := hsx.cell (j := 0) rfl; have x1 := hsx.cell (j := 1) rfl; have x2 := hsx.cell (j := 2) rfl; have x3 := hsx.cell (j := 3) rfl; have x4 := hsx.cell (j := 4) rfl; have x5 := hsx.cell (j := 5) rfl; have x6 := hsx.cell (j := 6) rfl; have x7 := hsx.cell (j := 7) rfl)) | (go_at_call 90; refine (HPA.out _ hsx.bare).mono ?_; rintro e w2 ⟨rfl, hk⟩; replace hsx := hsx.call0 hk; (have x0 := hsx.cell (j := 0) rfl; have x1 := hsx.cell (j := 1) rfl; have x2 := hsx.cell (j := 2) rfl; have x3 := hsx.cell (j := 3) rfl; have x4 := hsx.cell (j := 4) rfl; have x5 := hsx.cell (j := 5) rfl; have x6 := hsx.cell (j := 6) rfl; have x7 := hsx.cell (j := 7) rfl)) | (go_at_call 91; refine (HRI.out _ hsx.bare).mono ?_; rintro e w2 ⟨rfl, hk⟩; replace hsx := hsx.call0 hk; (have x0 := hsx.cell (j := 0) rfl; have x1 := hsx.cell (j := 1) rfl; have x2 := hsx.cell (j := 2) rfl; have x3 := hsx.cell (j := 3) rfl; have x4 := hsx.cell (j := 4) rfl; have x5 := hsx.cell (j := 5) rfl; have x6 := hsx.cell (j := 6) rfl; have x7 := hsx.cell (j := 7) rfl)) | (go_at_call 92; refine (HMS.out _).mono ?_; rintro e w2 ⟨rfl, rfl⟩)); go_ret; exact ⟨by rw [HM.out]; rfl, hsx.bare⟩))
end Go.Proofs.YtloogjdafhjheaaGreat
