/- The walk of the document's Make. -/
import Derived.Test.YtdcleibbldmnaaaDelQ
import Derived.Test.YtdcleibbldmnaaaDelU
namespace Go.Proofs.Ytdcleibbldmnaaa
open Go.RowKit Go.Mx

def MakePost (w : World) (base target : List UInt8) (e : Ending) (w' : World) : Prop :=
  ∃ v, e = .returned v ∧ St w w' [⟨v, 5, 1, (makeR base target).length, bs (makeR base target)⟩] []

theorem St.drop1 {w0 w : World} {r q : Row} {R : List Row} {Q : List Rd} (h : St w0 w (r :: q :: R) Q) : St w0 w (r :: R) Q :=
  h.sub (List.Sublist.cons_cons _ (List.sublist_cons_self _ _)) fun _ h => h

theorem flush_cast {w w' : World} {R : List Row} {v : Value} {O I : List UInt8} {p6 : Nat} (h : St w w' (⟨v, 5, 1, O.length + 1 + p6 + I.length, bs O ++ [Value.int IntKind.u8 2] ++ bs (putL I.length) ++ bs I⟩ :: R) [])
    (hne : Hid (I ≠ [])) (hl : (putL I.length).length = p6) : St w w' [⟨v, 5, 1, (O ++ flR I).length, bs (O ++ flR I)⟩] [] :=
  h.head.cast (by rw [flR_ne hne.out]; simp only [List.length_append, List.length_cons, hl]; omega) (by rw [flR_ne hne.out, bs_app, bs_cons, bs_app]; simp)



set_option maxHeartbeats 4000000 in
theorem refMake_any (w : World) (vb vt : Value) (base target : List UInt8) (hb : Sl w 1 vb base.length (bs base)) (ht : Sl w 1 vt target.length (bs target)) (hbl : base.length ≤ 20000) (htl : target.length ≤ 20000) :
    Calls Try.prog 14 #[vb, vt] w (MakePost w base target) := by
  have b1 : ¬ ((20000 : Int) < (base.length : Int)) := by omega
  have b2 : ¬ ((20000 : Int) < (target.length : Int)) := by omega
  have HB := Mx.hid hb
  have HT := Mx.hid ht
  obtain ⟨bo, bc, rfl, _⟩ := id hb
  obtain ⟨to, tc, tblk, toff, rfl, _, _, _, hct⟩ := ht.byt
  have HC := Mx.hid hct
  clear hb ht hct
  have hinv := fun O I p (h : MkInv base target O I p) => h.len hbl htl
  have HL := Mx.hid hinv
  clear hinv
  go_enter Try.func14, Try.ntmps14
  go_wp2_with fail
  refine (num_any base.length _ (by omega)).mono ?_
  rintro e w1 ⟨x1, rfl, hx1⟩
  go_wp2_with fail
  refine (num_any target.length _ (by omega)).mono ?_
  rintro e w2 ⟨x2, rfl, hx2⟩
  have hs2 := ((St.refl w).call1 hx1).call1 hx2
  have hs3 := hs2.swap
  have l1 := putL_small hbl
  have l2 := putL_small htl
  have h0 := MkInv.start base target
  have e0 : (putL base.length ++ putL target.length).length = (putL base.length).length + (putL target.length).length := List.length_append
  have e1 : bs (putL base.length ++ putL target.length) = bs (putL base.length) ++ bs (putL target.length) := bs_app _ _
  have H0 := Mx.hid h0
  have E0 := Mx.hid (And.intro e0 e1)
  clear h0 e0 e1
  go_wp2_with (at_builtin; refine wpl_app rfl _ _ 22 rfl Try.elU8 hs3 rfl (by exact hx2.sl0) (bs_one _) (by omega) ?_; intro x3 w3 hs4 _)
  have hs5 := (hs4.head.cast E0.out.1.symm E0.out.2.symm).addNil 5 1
  clear hs2 hs3 hs4
  go_loopw [5, 6, 7] (fun x y z wr => ∃ (p : Nat) (O I : List UInt8), z = .int .i64 p ∧ p ≤ target.length + 1 ∧ I.length ≤ p ∧ Hid (MkInv base target O I p) ∧ St w wr [⟨x, 5, 1, O.length, bs O⟩, ⟨y, 5, 1, I.length, bs I⟩] []) (fun _ _ z _ => target.length + 1 - (intOf z).toNat)
  case atStart => exact ⟨0, _, [], rfl, by omega, by simp, H0, hs5.swap⟩
  case round =>
    obtain ⟨p, O, I, rfl, hp, hI, HM, hs⟩ := hrel
    by_cases hle : p ≤ target.length
    · have hle' : (p : Int) ≤ (target.length : Int) := by omega
      have hO := HL.out _ _ _ HM.out
      obtain ⟨oo, oc, rfl, _⟩ := id hs.sl0
      obtain ⟨io, ic, rfl, _⟩ := id hs.sl1
      go_wp2_with fail
      refine (refMatch_any wr _ _ base target p hle (hs.old HB.out) (hs.old HT.out) hbl htl).mono ?_
      rintro e w4 ⟨rfl, hk⟩
      have hs4 := hs.call0 hk
      have hmi := mt_inv base (target.drop p)
      rw [List.length_drop] at hmi
      obtain ⟨m1, m2, _⟩ := hmi
      have hcopy := fun (h : p < target.length) => HM.out.copy h
      have hhold := fun (h : p < target.length) => HM.out.hold h
      have HCOPY := Mx.hid @hcopy
      have HHOLD := Mx.hid @hhold
      clear hcopy hhold
      generalize mtN base (target.drop p) = N at *
      generalize mtP base (target.drop p) = P at *
      by_cases hpe : p = target.length
      · subst hpe
        have hN : N = 0 := by omega
        subst hN
        by_cases hne : I = []
        · subst hne
          have HLast := Mx.hid (MkInv.last (J := []) HM.out)
          go_wp2_with fail
          go_roundw
          case rel => exact ⟨target.length + 1, O, [], by go_num, by omega, by simp, Mx.hid (by have := HLast.out; rwa [flR_nil, List.append_nil] at this), hs4⟩
          case measure => simp only [intOf]; omega
        · have hpos : 0 < I.length := List.length_pos_iff.2 hne
          have hpos' : (0 : Int) < (I.length : Int) := by omega
          have HNE := Mx.hid hne
          have HLast := Mx.hid (MkInv.last (J := []) HM.out)
          clear hne
          go_wp2_with (at_builtin; refine wpl_app rfl _ _ 22 rfl Try.elU8 (hs4.alloc _) rfl (by exact Sl.one _ _ _) (by intro u hu; simp at hu; subst hu; rfl) (by omega) ?_; intro y1 w5 hs5 _)
          refine (num_any I.length _ (by omega)).mono ?_
          rintro e w6 ⟨x6, rfl, hx6⟩
          have hs6 := (hs5.call1 hx6).swap
          have l6 := putL_small (n := I.length) (by omega)
          generalize hl6 : (putL I.length).length = p6 at *
          go_wp2_with (first | (at_builtin; refine wpl_app rfl _ _ 22 rfl Try.elU8 hs6 rfl (by exact hs6.sl1) (bs_one _) (by omega) ?_; intro x7 w7 hs7 _) | (at_builtin; refine wpl_app rfl _ _ 22 rfl Try.elU8 hs7 rfl (by exact hs7.sl2) (bs_one _) (by omega) ?_; intro x8 w8 hs8 _; have hs9 := flush_cast hs8 HNE hl6; clear hs8) | fail)
          have hs10 := hs9.addNil 5 1
          go_roundw
          case rel => exact ⟨target.length + 1, O ++ flR I, [], by go_num, by omega, by simp, HLast, hs10.swap⟩
          case measure => simp only [intOf]; omega
      · have hlt : p < target.length := by omega
        have q1 : ((p : Int) == (target.length : Int)) = false := by rw [beq_eq_false_iff_ne]; omega
        clear hpe
        by_cases h8 : 8 ≤ N
        · have h8' : (8 : Int) ≤ (N : Int) := by omega
          have HCOPY := Mx.hid (HCOPY.out hlt h8)
          clear HHOLD
          by_cases hne : I = []
          · subst hne
            go_wp2_with (at_builtin; refine wpl_app rfl _ _ 22 rfl Try.elU8 (hs4.alloc _) rfl (by exact Sl.one _ _ _) (by intro u hu; simp at hu; subst hu; rfl) (by omega) ?_; intro y1 w5 hs5 _)
            rw [flR_nil, List.append_nil] at HCOPY
            refine (num_any P _ (by omega)).mono ?_
            rintro e wa ⟨xa, rfl, hxa⟩
            have hsa := (hs5.call1 hxa).swap
            have la := putL_small (n := P) (by omega)
            generalize hla : (putL P).length = pa at *
            go_wp2_with (at_builtin; refine wpl_app rfl _ _ 22 rfl Try.elU8 hsa rfl (by exact hsa.sl1) (bs_one _) (by omega) ?_; intro xb wb hsb _)
            refine (num_any N _ (by omega)).mono ?_
            rintro e wc ⟨xc, rfl, hxc⟩
            have hsc := ((St.drop1 hsb).call1 hxc).swap
            have lc := putL_small (n := N) (by omega)
            generalize hlc : (putL N).length = pc at *
            go_wp2_with (at_builtin; refine wpl_app rfl _ _ 22 rfl Try.elU8 hsc rfl (by exact hsc.sl1) (bs_one _) (by omega) ?_; intro xd wd hsd _)
            have hse := (St.drop1 hsd).cast (n' := (O ++ (1 :: (putL P ++ putL N))).length) (xs' := bs (O ++ (1 :: (putL P ++ putL N)))) (by simp only [List.length_append, List.length_cons, hla, hlc]; omega) (by simp only [bs_app, bs_cons]; simp)
            go_roundw
            case rel => exact ⟨p + N, _, [], by go_num, by omega, by simp, HCOPY, hse⟩
            case measure => simp only [intOf]; omega
          · have hpos : 0 < I.length := List.length_pos_iff.2 hne
            have hpos' : (0 : Int) < (I.length : Int) := by omega
            have HNE := Mx.hid hne
            clear hne
            have hfl := flR_len I (by omega)
            have hfl : (O ++ flR I).length ≤ 200000 := by rw [List.length_append]; omega
            go_wp2_with (at_builtin; refine wpl_app rfl _ _ 22 rfl Try.elU8 (hs4.alloc _) rfl (by exact Sl.one _ _ _) (by intro u hu; simp at hu; subst hu; rfl) (by omega) ?_; intro y1 w5 hs5 _)
            refine (num_any I.length _ (by omega)).mono ?_
            rintro e w6 ⟨x6, rfl, hx6⟩
            have hs6 := (hs5.call1 hx6).swap
            have l6 := putL_small (n := I.length) (by omega)
            generalize hl6 : (putL I.length).length = p6 at *
            go_wp2_with (first | (at_builtin; refine wpl_app rfl _ _ 22 rfl Try.elU8 hs6 rfl (by exact hs6.sl1) (bs_one _) (by omega) ?_; intro x7 w7 hs7 _) | (at_builtin; refine wpl_app rfl _ _ 22 rfl Try.elU8 hs7 rfl (by exact hs7.sl2) (bs_one _) (by omega) ?_; intro x8 w8 hs8 _; have hs9 := flush_cast hs8 HNE hl6; clear hs8) | (at_builtin; refine wpl_app rfl _ _ 22 rfl Try.elU8 (hs9.alloc _) rfl (by exact Sl.one _ _ _) (by intro u hu; simp at hu; subst hu; rfl) (by omega) ?_; intro y9 w9 hs10 _))
            refine (num_any P _ (by omega)).mono ?_
            rintro e wa ⟨xa, rfl, hxa⟩
            have hsa := (hs10.call1 hxa).swap
            have la := putL_small (n := P) (by omega)
            generalize hla : (putL P).length = pa at *
            go_wp2_with (at_builtin; refine wpl_app rfl _ _ 22 rfl Try.elU8 hsa rfl (by exact hsa.sl1) (bs_one _) (by omega) ?_; intro xb wb hsb _)
            refine (num_any N _ (by omega)).mono ?_
            rintro e wc ⟨xc, rfl, hxc⟩
            have hsc := ((St.drop1 hsb).call1 hxc).swap
            have lc := putL_small (n := N) (by omega)
            generalize hlc : (putL N).length = pc at *
            go_wp2_with (at_builtin; refine wpl_app rfl _ _ 22 rfl Try.elU8 hsc rfl (by exact hsc.sl1) (bs_one _) (by omega) ?_; intro xd wd hsd _)
            have hse := (St.drop1 hsd).cast (n' := ((O ++ flR I) ++ (1 :: (putL P ++ putL N))).length) (xs' := bs ((O ++ flR I) ++ (1 :: (putL P ++ putL N)))) (by simp only [List.length_append, List.length_cons, hla, hlc]; omega) (by simp only [bs_app, bs_cons]; simp)
            have hsf := (hse.addNil 5 1).swap
            go_roundw
            case rel => exact ⟨p + N, _, [], by go_num, by omega, by simp, HCOPY, hsf⟩
            case measure => simp only [intOf]; omega
        · have h8' : ¬ ((8 : Int) ≤ (N : Int)) := by omega
          have HHOLD := Mx.hid (HHOLD.out hlt (by omega))
          clear HCOPY
          obtain ⟨rfl, c1⟩ := HC.out p hlt
          have c1 := hs4.keep c1
          generalize target[p] = x at *
          have hs5 := hs4.swap
          go_wp2_with (at_builtin; refine wpl_app rfl _ _ 22 rfl Try.elU8 (hs5.alloc _) rfl (by exact Sl.one _ _ _) (by intro u hu; simp at hu; subst hu; rfl) (by omega) ?_; intro y5 w5 hs6 _)
          have hs7 := (hs6.cast (n' := (I ++ [x]).length) (xs' := bs (I ++ [x])) (by simp) (by rw [bs_app]; rfl)).swap
          go_roundw
          case rel => exact ⟨p + 1, O, I ++ [x], by go_num, by omega, by rw [List.length_append]; simp; omega, HHOLD, hs7⟩
          case measure => simp only [intOf]; omega
    · have hle' : ¬ ((p : Int) ≤ (target.length : Int)) := by omega
      have he : makeR base target = O := HM.out.2 (by omega)
      have HE := Mx.hid he
      clear he hle
      go_wp2_with fail
      go_ret
      unfold MakePost
      rw [HE.out]
      exact ⟨_, rfl, hs.head⟩
end Go.Proofs.Ytdcleibbldmnaaa
