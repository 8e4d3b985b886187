/- The walk of the document's Apply. The walk of the document's Make. -/
import Derived.Test.YtlfdnlomlbbicaaGreatDoorDelT
import Derived.Test.YtlfdnlomlbbicaaGreatDoorJ10DelW
import Derived.Test.YtlfdnlomlbbicaaGreatDoorJ8WireK
namespace Go.Proofs.YtlfdnlomlbbicaaGreatDoor
open Go.RowKit Go.Mx

theorem drop_suf {α : Type} (l : List α) (n : Nat) : l.drop n = l.drop (l.length - (l.drop n).length) := by
  rw [List.length_drop]
  by_cases h : n ≤ l.length
  · congr 1; omega
  · rw [List.drop_eq_nil_of_le (by omega), List.drop_eq_nil_of_le (by omega)]
theorem stepR_suf (base : List UInt8) (k : UInt8) (l : List UInt8) : (stepR base k l).2.2 = l.drop (l.length - (stepR base k l).2.2.length) := by
  unfold stepR
  repeat' split
  all_goals simp only [List.drop_drop]
  all_goals first | exact drop_suf _ _ | simp

theorem num_any (n : Nat) (w : World) (hn : n ≤ 72057594037927936) :
    Calls Tryz.prog 24 #[.int .i64 n] w fun e w' => ∃ v, e = .returned v ∧ St w w' [⟨v, 5, 1, (putL n).length, bs (putL n)⟩] [] := by
  go_enter Tryz.func24, Tryz.ntmps24
  go_wp2_with fail
  refine (refPut_any (n : Int) _).mono ?_
  rintro e w1 hp
  obtain ⟨v, rfl, hs⟩ := hp.good hn
  go_wp2_with fail
  go_ret
  exact ⟨v, rfl, hs⟩

set_option maxHeartbeats 4000000 in
theorem refApply_any (w : World) (vb vd : Value) (base d : List UInt8) (hb : Sl w 1 vb base.length (bs base)) (hd : Sl w 1 vd d.length (bs d)) (hbl : base.length ≤ 140737488355328) (hn : d.length ≤ 140737488355328) :
    Calls Tryz.prog 71 #[vb, vd] w (ApplyPost w base d) := by
  have hAP : apR base d = if szE d ≠ 0 then (szE d, []) else if szA d ≠ base.length then (5, []) else if 20000 < szB d then (3, []) else stepsR base (szB d) (szR d) [] := rfl
  have hj : szE d = 0 → putL (szA d) = d.take (nmJ d) ∧ putL (szB d) = (d.drop (nmJ d)).take (nmJ (d.drop (nmJ d))) ∧ szA d ≤ 72057594037927936 ∧ szB d ≤ 72057594037927936 ∧ nmJ d + nmJ (d.drop (nmJ d)) ≤ d.length := by
    intro h
    have hE : szE d = if nmE d ≠ 0 then nmE d else nmE (d.drop (nmJ d)) := rfl
    have hA : szA d = if szE d = 0 then nmN d else 0 := rfl
    have hB : szB d = if szE d = 0 then nmN (d.drop (nmJ d)) else 0 := rfl
    rw [if_pos h] at hA hB
    by_cases h1 : nmE d = 0
    · rw [if_neg (by simp [h1]), h] at hE
      obtain ⟨a1, a2, a3, _⟩ := nm_good h1
      obtain ⟨b1, b2, b3, _⟩ := nm_good hE.symm
      rw [List.length_drop] at b2
      rw [hA, hB]
      exact ⟨a3.symm, b3.symm, a1, b1, by omega⟩
    · rw [if_pos h1] at hE
      rw [h] at hE
      exact absurd hE.symm h1
  have hRR : szR d = d.drop (nmJ d + nmJ (d.drop (nmJ d))) := by unfold szR; rw [List.drop_drop]
  obtain ⟨ao, ac, rfl, _⟩ := id hd
  obtain ⟨bo, bc, rfl, _⟩ := id hb
  have HB := Mx.hid hb
  have HD := Mx.hid hd
  have HAP := Mx.hid hAP
  have HJ := Mx.hid hj
  have HRR := Mx.hid hRR
  clear hb hd hAP hj hRR
  go_enter Tryz.func71, Tryz.ntmps71
  go_wp2_with fail
  refine (refSizes_any w _ d HD.out hn).mono ?_
  rintro e w1 ⟨rfl, hk⟩
  have hAP := HAP.out
  generalize hbb : base.length = bl at *
  by_cases he : szE d = 0
  · obtain ⟨j1, j2, j3, j4, j5⟩ := HJ.out he
    rw [if_neg (by simp [he])] at hAP
    rw [he]
    have jl1 : (putL (szA d)).length = nmJ d := by rw [j1, List.length_take]; omega
    have jl2 : (putL (szB d)).length = nmJ (d.drop (nmJ d)) := by rw [j2, List.length_take, List.length_drop]; omega
    have hRR := HRR.out
    generalize nmJ (d.drop (nmJ d)) = jb at *
    generalize nmJ d = ja at *
    generalize szA d = pl at *
    generalize szB d = nn at *
    generalize szR d = l3 at *
    clear HAP HJ HRR j1 j2
    by_cases h1 : pl = bl
    · have b1 : ((pl : Int) != (bl : Int)) = false := by rw [bne_eq_false_iff_eq]; omega
      rw [if_neg (by omega)] at hAP
      by_cases h2 : 20000 < nn
      · rw [if_pos h2] at hAP
        have b2 : (20000 : Int) < (nn : Int) := by omega
        have HS := Mx.hid hAP
        clear hAP h1 h2
        go_wp2_with fail
        go_ret2
        exact ApplyPost.bad HS.out hk
      · rw [if_neg h2] at hAP
        have b2 : ¬ ((20000 : Int) < (nn : Int)) := by omega
        have HS := Mx.hid hAP
        clear hAP h1
        go_wp2_with fail
        refine (num_any pl w1 j3).mono ?_
        rintro e w2 ⟨v2, rfl, hk2⟩
        obtain ⟨ao2, ac2, rfl, _⟩ := id hk2.sl0
        rw [jl1]
        have hs2 := hk.call0 hk2.bare
        go_wp2_with fail
        refine (num_any nn w2 j4).mono ?_
        rintro e w3 ⟨v3, rfl, hk3⟩
        obtain ⟨ao3, ac3, rfl, _⟩ := id hk3.sl0
        rw [jl2]
        have hs3 := hs2.call0 hk3.bare
        have hs4 := hs3.addNil 5 1
        have hnn : nn ≤ 20000 := by omega
        clear hs2 hk2 hk3 hk b1 b2 h2 hs3
        go_wp2_with fail
        go_loopw [9, 10] (fun x y wr => ∃ (q : Nat) (out : List UInt8), x = .int .i64 (q : Int) ∧ q ≤ d.length ∧ out.length ≤ nn ∧ Hid (stepsR base nn l3 [] = stepsR base nn (d.drop q) out) ∧ St w wr [⟨y, 5, 1, out.length, bs out⟩] []) (fun x _ _ => d.length - (intOf x).toNat)
        case atStart => exact ⟨ja + jb, [], by push_cast; rfl, j5, by simp, by rw [hRR]; rfl, hs4⟩
        case round =>
          obtain ⟨q, out, rfl, hq, hol, He, hs⟩ := hrel
          obtain ⟨oo, oc, rfl, _⟩ := id (hs.sl0)
          have hst := HS.out.trans He.out
          by_cases hlt : q < d.length
          · rw [List.drop_eq_getElem_cons hlt, stepsR_cons] at hst
            have hlt' : (q : Int) < (d.length : Int) := by omega
            have hcall := fun left => refStep_any wr _ _ base d q left (hs.old (by rw [hbb]; exact HB.out)) (by omega) (hs.old HD.out) hlt hn
            have hsuf := stepR_suf base d[q] (d.drop (q + 1))
            have hsl := stepR_len base d[q] (d.drop (q + 1))
            rw [List.drop_drop] at hsuf
            rw [List.length_drop] at hsuf hsl
            have HST := Mx.hid hst
            have HSUF := Mx.hid hsuf
            have HCALL := Mx.hid hcall
            clear hst hsuf hcall
            generalize hkk : d[q] = k at *
            generalize hdr : d.drop (q + 1) = l at *
            have hob : out.length ≤ 20000 := by omega
            generalize hol' : out.length = ol at *
            go_wp2_with fail
            refine (HCALL.out _).mono ?_
            rintro e w5 ⟨vx, nx, rfl, hk5, hgood⟩
            have hst := HST.out
            have hs5 := hs.call0 hk5
            have hrs : rsE base k l ((nn : Int) - ol) = if (stepR base k l).1 ≠ 0 then (stepR base k l).1 else if (nn : Int) - ol < (stepR base k l).2.1.length then 3 else 0 := rfl
            have hsuf := HSUF.out
            generalize rsE base k l ((nn : Int) - ol) = re at *
            generalize (stepR base k l).1 = se at *
            generalize (stepR base k l).2.1 = sx at *
            generalize (stepR base k l).2.2 = sl at *
            have HSF := Mx.hid hsuf
            clear HST HSUF HCALL hsuf
            by_cases hse : se = 0
            · rw [if_neg (by simp [hse])] at hst hrs
              by_cases hlong : (nn : Int) - ol < sx.length
              · rw [if_pos hlong] at hst hrs
                subst hrs
                have Hst := Mx.hid hst
                clear hst hgood hlong
                go_wp2_with fail
                go_ret2
                exact ApplyPost.bad Hst.out hs5.bare
              · rw [if_neg hlong] at hst hrs
                subst hrs
                obtain ⟨hvx, rfl⟩ := hgood rfl
                have hxl : ol + sx.length ≤ 20000 := by omega
                have HVX := Mx.hid hvx
                have Hst := Mx.hid hst
                obtain ⟨yo, yc, rfl, _⟩ := id hvx
                clear hst hgood hvx
                generalize hsxl : sx.length = sn at *
                go_wp2_with (at_builtin; refine wpl_app rfl _ _ 25 rfl Tryz.elU8 hs5 rfl (by exact hk5.old HVX.out) (bs_one _) (by omega) ?_; intro v9 w9 hs9 _)
                go_roundw
                case rel => exact ⟨d.length - sl.length, out ++ sx, rfl, by omega, by rw [List.length_append]; omega, Mx.hid (by rw [HS.out.symm.trans Hst.out]; congr 1; refine HSF.out.trans ?_; congr 1; omega), by rw [List.length_append, hol', hsxl, bs_app]; exact hs9⟩
                case measure => simp only [intOf, Int.toNat_natCast]; omega
            · rw [if_pos hse] at hst hrs
              subst hrs
              have b1 : (re != 0) = true := by simpa using hse
              have Hst := Mx.hid hst
              clear hst hgood
              go_wp2_with fail
              go_ret2
              exact ApplyPost.bad Hst.out hs5.bare
          · have hqe : q = d.length := by omega
            rw [hqe, List.drop_length, stepsR_nil] at hst
            have hlt' : ¬ ((q : Int) < (d.length : Int)) := by omega
            generalize hdl : d.length = dl at *
            by_cases hlo : out.length < nn
            · rw [if_pos hlo] at hst
              have hlo' : (out.length : Int) < (nn : Int) := by omega
              have Hst := Mx.hid hst
              clear hst hlo hlt
              go_wp2_with fail
              go_ret2
              exact ApplyPost.bad Hst.out hs.bare
            · rw [if_neg hlo] at hst
              have hlo' : ¬ ((out.length : Int) < (nn : Int)) := by omega
              have Hst := Mx.hid hst
              clear hst hlo hlt
              generalize hol' : out.length = ol at *
              go_wp2_with fail
              go_ret2
              unfold ApplyPost
              rw [Hst.out]
              simp only []
              rw [hol']
              exact ⟨_, rfl, hs⟩
    · rw [if_pos (by omega)] at hAP
      have b1 : ((pl : Int) != (bl : Int)) = true := by simp; omega
      have HS := Mx.hid hAP
      clear hAP h1
      go_wp2_with fail
      go_ret2
      exact ApplyPost.bad HS.out hk
  · have b1 : (szE d != 0) = true := by simpa using he
    rw [if_pos he] at hAP
    generalize szE d = ee at *
    have HS := Mx.hid hAP
    clear hAP
    go_wp2_with fail
    go_ret2
    exact ApplyPost.bad HS.out hk
end Go.Proofs.YtlfdnlomlbbicaaGreatDoor

namespace Go.Proofs.YtlfdnlomlbbicaaGreatDoor
open Go.RowKit Go.Mx

def MakePost (w : World) (base target : List UInt8) (e : Ending) (w' : World) : Prop :=
  ∃ v, e = .returned v ∧ St w w' [⟨v, 5, 1, (makeR base target).length, bs (makeR base target)⟩] []

theorem St.drop1 {w0 w : World} {r q : Row} {R : List Row} {Q : List Rd} (h : St w0 w (r :: q :: R) Q) : St w0 w (r :: R) Q :=
  h.sub (List.Sublist.cons_cons _ (List.sublist_cons_self _ _)) fun _ h => h

theorem flush_cast {w w' : World} {R : List Row} {v : Value} {O I : List UInt8} {p6 : Nat} (h : St w w' (⟨v, 5, 1, O.length + 1 + p6 + I.length, bs O ++ [Value.int IntKind.u8 2] ++ bs (putL I.length) ++ bs I⟩ :: R) [])
    (hne : Hid (I ≠ [])) (hl : (putL I.length).length = p6) : St w w' [⟨v, 5, 1, (O ++ flR I).length, bs (O ++ flR I)⟩] [] :=
  h.head.cast (by rw [flR_ne hne.out]; simp only [List.length_append, List.length_cons, hl]; omega) (by rw [flR_ne hne.out, bs_app, bs_cons, bs_app]; simp)



set_option maxHeartbeats 4000000 in
theorem refMake_any (w : World) (vb vt : Value) (base target : List UInt8) (hb : Sl w 1 vb base.length (bs base)) (ht : Sl w 1 vt target.length (bs target)) (hbl : base.length ≤ 20000) (htl : target.length ≤ 20000) :
    Calls Tryz.prog 25 #[vb, vt] w (MakePost w base target) := by
  have b1 : ¬ ((20000 : Int) < (base.length : Int)) := by omega
  have b2 : ¬ ((20000 : Int) < (target.length : Int)) := by omega
  have HB := Mx.hid hb
  have HT := Mx.hid ht
  obtain ⟨bo, bc, rfl, _⟩ := id hb
  obtain ⟨to, tc, tblk, toff, rfl, _, _, _, hct⟩ := ht.byt
  have HC := Mx.hid hct
  clear hb ht hct
  have hinv := fun O I p (h : MkInv base target O I p) => h.len hbl htl
  have HL := Mx.hid hinv
  clear hinv
  go_enter Tryz.func25, Tryz.ntmps25
  go_wp2_with fail
  refine (num_any base.length _ (by omega)).mono ?_
  rintro e w1 ⟨x1, rfl, hx1⟩
  go_wp2_with fail
  refine (num_any target.length _ (by omega)).mono ?_
  rintro e w2 ⟨x2, rfl, hx2⟩
  have hs2 := ((St.refl w).call1 hx1).call1 hx2
  have hs3 := hs2.swap
  have l1 := putL_small hbl
  have l2 := putL_small htl
  have h0 := MkInv.start base target
  have e0 : (putL base.length ++ putL target.length).length = (putL base.length).length + (putL target.length).length := List.length_append
  have e1 : bs (putL base.length ++ putL target.length) = bs (putL base.length) ++ bs (putL target.length) := bs_app _ _
  have H0 := Mx.hid h0
  have E0 := Mx.hid (And.intro e0 e1)
  clear h0 e0 e1
  go_wp2_with (at_builtin; refine wpl_app rfl _ _ 25 rfl Tryz.elU8 hs3 rfl (by exact hx2.sl0) (bs_one _) (by omega) ?_; intro x3 w3 hs4 _)
  have hs5 := (hs4.head.cast E0.out.1.symm E0.out.2.symm).addNil 5 1
  clear hs2 hs3 hs4
  go_loopw [5, 6, 7] (fun x y z wr => ∃ (p : Nat) (O I : List UInt8), z = .int .i64 p ∧ p ≤ target.length + 1 ∧ I.length ≤ p ∧ Hid (MkInv base target O I p) ∧ St w wr [⟨x, 5, 1, O.length, bs O⟩, ⟨y, 5, 1, I.length, bs I⟩] []) (fun _ _ z _ => target.length + 1 - (intOf z).toNat)
  case atStart => exact ⟨0, _, [], rfl, by omega, by simp, H0, hs5.swap⟩
  case round =>
    obtain ⟨p, O, I, rfl, hp, hI, HM, hs⟩ := hrel
    by_cases hle : p ≤ target.length
    · have hle' : (p : Int) ≤ (target.length : Int) := by omega
      have hO := HL.out _ _ _ HM.out
      obtain ⟨oo, oc, rfl, _⟩ := id hs.sl0
      obtain ⟨io, ic, rfl, _⟩ := id hs.sl1
      go_wp2_with fail
      refine (refMatch_any wr _ _ base target p hle (hs.old HB.out) (hs.old HT.out) hbl htl).mono ?_
      rintro e w4 ⟨rfl, hk⟩
      have hs4 := hs.call0 hk
      have hmi := mt_inv base (target.drop p)
      rw [List.length_drop] at hmi
      obtain ⟨m1, m2, _⟩ := hmi
      have hcopy := fun (h : p < target.length) => HM.out.copy h
      have hhold := fun (h : p < target.length) => HM.out.hold h
      have HCOPY := Mx.hid @hcopy
      have HHOLD := Mx.hid @hhold
      clear hcopy hhold
      generalize mtN base (target.drop p) = N at *
      generalize mtP base (target.drop p) = P at *
      by_cases hpe : p = target.length
      · subst hpe
        have hN : N = 0 := by omega
        subst hN
        by_cases hne : I = []
        · subst hne
          have HLast := Mx.hid (MkInv.last (J := []) HM.out)
          go_wp2_with fail
          go_roundw
          case rel => exact ⟨target.length + 1, O, [], by go_num, by omega, by simp, Mx.hid (by have := HLast.out; rwa [flR_nil, List.append_nil] at this), hs4⟩
          case measure => simp only [intOf]; omega
        · have hpos : 0 < I.length := List.length_pos_iff.2 hne
          have hpos' : (0 : Int) < (I.length : Int) := by omega
          have HNE := Mx.hid hne
          have HLast := Mx.hid (MkInv.last (J := []) HM.out)
          clear hne
          go_wp2_with (at_builtin; refine wpl_app rfl _ _ 25 rfl Tryz.elU8 (hs4.alloc _) rfl (by exact Sl.one _ _ _) (by intro u hu; simp at hu; subst hu; rfl) (by omega) ?_; intro y1 w5 hs5 _)
          refine (num_any I.length _ (by omega)).mono ?_
          rintro e w6 ⟨x6, rfl, hx6⟩
          have hs6 := (hs5.call1 hx6).swap
          have l6 := putL_small (n := I.length) (by omega)
          generalize hl6 : (putL I.length).length = p6 at *
          go_wp2_with (first | (at_builtin; refine wpl_app rfl _ _ 25 rfl Tryz.elU8 hs6 rfl (by exact hs6.sl1) (bs_one _) (by omega) ?_; intro x7 w7 hs7 _) | (at_builtin; refine wpl_app rfl _ _ 25 rfl Tryz.elU8 hs7 rfl (by exact hs7.sl2) (bs_one _) (by omega) ?_; intro x8 w8 hs8 _; have hs9 := flush_cast hs8 HNE hl6; clear hs8) | fail)
          have hs10 := hs9.addNil 5 1
          go_roundw
          case rel => exact ⟨target.length + 1, O ++ flR I, [], by go_num, by omega, by simp, HLast, hs10.swap⟩
          case measure => simp only [intOf]; omega
      · have hlt : p < target.length := by omega
        have q1 : ((p : Int) == (target.length : Int)) = false := by rw [beq_eq_false_iff_ne]; omega
        clear hpe
        by_cases h8 : 8 ≤ N
        · have h8' : (8 : Int) ≤ (N : Int) := by omega
          have HCOPY := Mx.hid (HCOPY.out hlt h8)
          clear HHOLD
          by_cases hne : I = []
          · subst hne
            go_wp2_with (at_builtin; refine wpl_app rfl _ _ 25 rfl Tryz.elU8 (hs4.alloc _) rfl (by exact Sl.one _ _ _) (by intro u hu; simp at hu; subst hu; rfl) (by omega) ?_; intro y1 w5 hs5 _)
            rw [flR_nil, List.append_nil] at HCOPY
            refine (num_any P _ (by omega)).mono ?_
            rintro e wa ⟨xa, rfl, hxa⟩
            have hsa := (hs5.call1 hxa).swap
            have la := putL_small (n := P) (by omega)
            generalize hla : (putL P).length = pa at *
            go_wp2_with (at_builtin; refine wpl_app rfl _ _ 25 rfl Tryz.elU8 hsa rfl (by exact hsa.sl1) (bs_one _) (by omega) ?_; intro xb wb hsb _)
            refine (num_any N _ (by omega)).mono ?_
            rintro e wc ⟨xc, rfl, hxc⟩
            have hsc := ((St.drop1 hsb).call1 hxc).swap
            have lc := putL_small (n := N) (by omega)
            generalize hlc : (putL N).length = pc at *
            go_wp2_with (at_builtin; refine wpl_app rfl _ _ 25 rfl Tryz.elU8 hsc rfl (by exact hsc.sl1) (bs_one _) (by omega) ?_; intro xd wd hsd _)
            have hse := (St.drop1 hsd).cast (n' := (O ++ (1 :: (putL P ++ putL N))).length) (xs' := bs (O ++ (1 :: (putL P ++ putL N)))) (by simp only [List.length_append, List.length_cons, hla, hlc]; omega) (by simp only [bs_app, bs_cons]; simp)
            go_roundw
            case rel => exact ⟨p + N, _, [], by go_num, by omega, by simp, HCOPY, hse⟩
            case measure => simp only [intOf]; omega
          · have hpos : 0 < I.length := List.length_pos_iff.2 hne
            have hpos' : (0 : Int) < (I.length : Int) := by omega
            have HNE := Mx.hid hne
            clear hne
            have hfl := flR_len I (by omega)
            have hfl : (O ++ flR I).length ≤ 200000 := by rw [List.length_append]; omega
            go_wp2_with (at_builtin; refine wpl_app rfl _ _ 25 rfl Tryz.elU8 (hs4.alloc _) rfl (by exact Sl.one _ _ _) (by intro u hu; simp at hu; subst hu; rfl) (by omega) ?_; intro y1 w5 hs5 _)
            refine (num_any I.length _ (by omega)).mono ?_
            rintro e w6 ⟨x6, rfl, hx6⟩
            have hs6 := (hs5.call1 hx6).swap
            have l6 := putL_small (n := I.length) (by omega)
            generalize hl6 : (putL I.length).length = p6 at *
            go_wp2_with (first | (at_builtin; refine wpl_app rfl _ _ 25 rfl Tryz.elU8 hs6 rfl (by exact hs6.sl1) (bs_one _) (by omega) ?_; intro x7 w7 hs7 _) | (at_builtin; refine wpl_app rfl _ _ 25 rfl Tryz.elU8 hs7 rfl (by exact hs7.sl2) (bs_one _) (by omega) ?_; intro x8 w8 hs8 _; have hs9 := flush_cast hs8 HNE hl6; clear hs8) | (at_builtin; refine wpl_app rfl _ _ 25 rfl Tryz.elU8 (hs9.alloc _) rfl (by exact Sl.one _ _ _) (by intro u hu; simp at hu; subst hu; rfl) (by omega) ?_; intro y9 w9 hs10 _))
            refine (num_any P _ (by omega)).mono ?_
            rintro e wa ⟨xa, rfl, hxa⟩
            have hsa := (hs10.call1 hxa).swap
            have la := putL_small (n := P) (by omega)
            generalize hla : (putL P).length = pa at *
            go_wp2_with (at_builtin; refine wpl_app rfl _ _ 25 rfl Tryz.elU8 hsa rfl (by exact hsa.sl1) (bs_one _) (by omega) ?_; intro xb wb hsb _)
            refine (num_any N _ (by omega)).mono ?_
            rintro e wc ⟨xc, rfl, hxc⟩
            have hsc := ((St.drop1 hsb).call1 hxc).swap
            have lc := putL_small (n := N) (by omega)
            generalize hlc : (putL N).length = pc at *
            go_wp2_with (at_builtin; refine wpl_app rfl _ _ 25 rfl Tryz.elU8 hsc rfl (by exact hsc.sl1) (bs_one _) (by omega) ?_; intro xd wd hsd _)
            have hse := (St.drop1 hsd).cast (n' := ((O ++ flR I) ++ (1 :: (putL P ++ putL N))).length) (xs' := bs ((O ++ flR I) ++ (1 :: (putL P ++ putL N)))) (by simp only [List.length_append, List.length_cons, hla, hlc]; omega) (by simp only [bs_app, bs_cons]; simp)
            have hsf := (hse.addNil 5 1).swap
            go_roundw
            case rel => exact ⟨p + N, _, [], by go_num, by omega, by simp, HCOPY, hsf⟩
            case measure => simp only [intOf]; omega
        · have h8' : ¬ ((8 : Int) ≤ (N : Int)) := by omega
          have HHOLD := Mx.hid (HHOLD.out hlt (by omega))
          clear HCOPY
          obtain ⟨rfl, c1⟩ := HC.out p hlt
          have c1 := hs4.keep c1
          generalize target[p] = x at *
          have hs5 := hs4.swap
          go_wp2_with (at_builtin; refine wpl_app rfl _ _ 25 rfl Tryz.elU8 (hs5.alloc _) rfl (by exact Sl.one _ _ _) (by intro u hu; simp at hu; subst hu; rfl) (by omega) ?_; intro y5 w5 hs6 _)
          have hs7 := (hs6.cast (n' := (I ++ [x]).length) (xs' := bs (I ++ [x])) (by simp) (by rw [bs_app]; rfl)).swap
          go_roundw
          case rel => exact ⟨p + 1, O, I ++ [x], by go_num, by omega, by rw [List.length_append]; simp; omega, HHOLD, hs7⟩
          case measure => simp only [intOf]; omega
    · have hle' : ¬ ((p : Int) ≤ (target.length : Int)) := by omega
      have he : makeR base target = O := HM.out.2 (by omega)
      have HE := Mx.hid he
      clear he hle
      go_wp2_with fail
      go_ret
      unfold MakePost
      rw [HE.out]
      exact ⟨_, rfl, hs.head⟩
end Go.Proofs.YtlfdnlomlbbicaaGreatDoor
