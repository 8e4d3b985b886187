/- The walks of Sizes and Apply. The walk of Apply. -/
import Derived.Test.YtlfdnlomlbbicaaDoorDelS
namespace Go.Proofs.YtlfdnlomlbbicaaDoor
open Go.RowKit Go.Mx

def SizesPost (w : World) (d : List UInt8) (e : Ending) (w' : World) : Prop :=
  e = .returned (.tuple #[.int .i64 (szA d : Int), .int .i64 (szB d : Int), .int .i64 (szE d)]) ∧ St w w' [] []

end Go.Proofs.YtlfdnlomlbbicaaDoor

namespace Go.Proofs.YtlfdnlomlbbicaaDoor
open Go.RowKit Go.Mx

theorem stepsR_nil (base : List UInt8) (to : Nat) (out : List UInt8) : stepsR base to [] out = if out.length < to then (2, []) else (0, out) := by rw [stepsR]
theorem stepsR_cons (base : List UInt8) (to : Nat) (k : UInt8) (l out : List UInt8) : stepsR base to (k :: l) out =
    if (stepR base k l).1 ≠ 0 then ((stepR base k l).1, []) else if (to : Int) - out.length < (stepR base k l).2.1.length then (3, []) else stepsR base to (stepR base k l).2.2 (out ++ (stepR base k l).2.1) := by rw [stepsR]

def ApplyPost (w : World) (base d : List UInt8) (e : Ending) (w' : World) : Prop :=
  ∃ v, e = .returned (.tuple #[v, .int .i64 (apR base d).1]) ∧ St w w' [⟨v, 5, 1, (apR base d).2.length, bs (apR base d).2⟩] []
theorem ApplyPost.bad {w w' : World} {base d : List UInt8} {x : Int} (h : apR base d = (x, [])) (hs : St w w' [] []) : ApplyPost w base d (.returned (.tuple #[.slice none 0 0, .int .i64 x])) w' := by
  unfold ApplyPost
  rw [h]
  exact ⟨_, rfl, hs.addNil _ _⟩

def lenAt (w : World) (g : Nat) : Nat := match w.cell? ⟨g, 0, none⟩ with | some (.slice _ n _) => n | _ => 0

theorem lenAt_eq {w0 w : World} {R : List Row} {Q : List Rd} {g : Nat} {v : Value} {e : Int} {n : Nat} {xs : List Value} (hs : St w0 w (rdr g v e :: R) Q) (hv : Sl w0 1 v n xs) : lenAt w g = n := by
  obtain ⟨ao, ac, rfl, _⟩ := hv
  have c0 : w.cell? ⟨g, 0, none⟩ = some (.slice ao n ac) := hs.rcell (List.mem_cons_self ..) rfl
  unfold lenAt
  rw [c0]

set_option maxHeartbeats 4000000 in
theorem apply_any (w : World) (vb vd : Value) (base d : List UInt8) (hb : Sl w 1 vb base.length (bs base)) (hd : Sl w 1 vd d.length (bs d)) (hbl : base.length ≤ 140737488355328) (hn : d.length ≤ 140737488355328) :
    Calls Tryd.prog 63 #[vb, vd] w (ApplyPost w base d) := by
  obtain ⟨ao, ac, rfl, _⟩ := id hd
  obtain ⟨bo, bc, rfl, _⟩ := id hb
  have hAP : apR base d = if szE d ≠ 0 then (szE d, []) else if szA d ≠ base.length then (5, []) else if 20000 < szB d then (3, []) else stepsR base (szB d) (szR d) [] := rfl
  have hE : szE d = if nmE d ≠ 0 then nmE d else nmE (d.drop (nmJ d)) := rfl
  have hA : szA d = if szE d = 0 then nmN d else 0 := rfl
  have hB : szB d = if szE d = 0 then nmN (d.drop (nmJ d)) else 0 := rfl
  have hRR : szR d = (d.drop (nmJ d)).drop (nmJ (d.drop (nmJ d))) := rfl
  rw [hA, hB, hRR] at hAP
  rw [hE] at hAP
  clear hA hB hRR hE
  have HB := Mx.hid hb
  generalize hbb : base.length = bl at *
  go_enter Tryd.func63, Tryd.ntmps63
  go_wp2_with fail
  have hs0 : St w (w.alloc (Obj.cells #[.slice ao d.length ac, .int .i64 0] 122)) [rdr w.heap.size (.slice ao d.length ac) 0] [] := (St.refl w).made #[.slice ao d.length ac, .int .i64 0] 122 2 1 rfl (by simp [maxLen])
  generalize w.alloc (Obj.cells #[.slice ao d.length ac, .int .i64 0] 122) = w1 at hs0 ⊢
  generalize w.heap.size = g at *
  refine (dnumber_go w w1 [] [] g _ d hs0 hd hn).mono ?_
  rintro e w2 ⟨v2, rfl, hv2, hs2⟩
  have ce : w2.cell? ⟨g, 1, none⟩ = some (.int .i64 (nmE d)) := hs2.rcell (List.mem_cons_self ..) rfl
  have hdl : (d.drop (nmJ d)).length ≤ d.length := by rw [List.length_drop]; omega
  have hnm : nmN d ≤ 72057594037927936 := by
    by_cases h : nmE d = 0
    · exact (nm_good h).1
    · rw [(nm_bad h).1]; omega
  have hnm2 : nmN (d.drop (nmJ d)) ≤ 72057594037927936 := by
    by_cases h : nmE (d.drop (nmJ d)) = 0
    · exact (nm_good h).1
    · rw [(nm_bad h).1]; omega
  have hdl2 : ((d.drop (nmJ d)).drop (nmJ (d.drop (nmJ d)))).length ≤ d.length := by simp only [List.length_drop]; omega
  generalize nmN d = pl at *
  generalize d.drop (nmJ d) = l2 at *
  generalize nmE d = ee at *
  clear hs0 hd hb
  by_cases hee : ee = 0
  · subst hee
    clear ce
    have HAP := Mx.hid hAP
    clear hAP
    go_wp2_with fail
    refine (dnumber_go w w2 [] [] g v2 l2 hs2 hv2 (by omega)).mono ?_
    rintro e w3 ⟨v3, rfl, hv3, hs3⟩
    have ce : w3.cell? ⟨g, 1, none⟩ = some (.int .i64 (nmE l2)) := hs3.rcell (List.mem_cons_self ..) rfl
    have hAP := HAP.out
    generalize nmN l2 = nn at *
    generalize nmE l2 = e2 at *
    generalize l2.drop (nmJ l2) = l3 at *
    clear hv2 hs2 HAP
    simp only [ne_eq, not_true_eq_false, ite_false] at hAP
    have HV := Mx.hid hv3
    by_cases he2 : e2 = 0
    · subst he2
      simp only [not_true_eq_false, if_false, if_true] at hAP
      by_cases h1 : pl = bl
      · rw [if_neg (by omega)] at hAP
        by_cases h2 : 20000 < nn
        · rw [if_pos h2] at hAP
          have b1 : ((pl : Int) != (bl : Int)) = false := by rw [bne_eq_false_iff_eq]; omega
          have b2 : (20000 : Int) < (nn : Int) := by omega
          have HS := Mx.hid hAP
          clear hAP h1 h2 hv3
          go_wp2_with fail
          go_ret2
          exact ApplyPost.bad HS.out hs3.bare
        · rw [if_neg h2] at hAP
          have b1 : ((pl : Int) != (bl : Int)) = false := by rw [bne_eq_false_iff_eq]; omega
          have b2 : ¬ ((20000 : Int) < (nn : Int)) := by omega
          have HS := Mx.hid hAP
          clear hAP h1
          have hnn : nn ≤ 20000 := by omega
          go_wp2_with fail
          have hsL : St w w3 [rdr g v3 0, ⟨.slice none 0 0, 5, 1, 0, []⟩] [] := (hs3.addNil _ _).swap
          have hl0 := lenAt_eq hs3 hv3
          clear hs3 ce hv3 b1 b2 h2
          go_loopw [9] (fun x wr => ∃ (vr : Value) (lr out : List UInt8), lr.length = lenAt wr g ∧ out.length ≤ nn ∧ Hid (stepsR base nn l3 [] = stepsR base nn lr out) ∧ lr.length ≤ d.length ∧ Hid (Sl w 1 vr lr.length (bs lr)) ∧ St w wr [rdr g vr 0, ⟨x, 5, 1, out.length, bs out⟩] []) (fun _ wr => lenAt wr g)
          case atStart => exact ⟨v3, l3, [], hl0.symm, by simp, rfl, by omega, HV.out, hsL⟩
          case round =>
            obtain ⟨vr, lr, out, hla, hol, He, hll, hvr, hs⟩ := hrel
            have c0 : wr.cell? ⟨g, 0, none⟩ = some vr := hs.rcell (List.mem_cons_self ..) rfl
            obtain ⟨xo, xc, rfl, _⟩ := id hvr.out
            obtain ⟨oo, oc, rfl, _⟩ := id (hs.sl1)
            cases lr with
            | nil =>
              change _ = some (Value.slice xo 0 xc) at c0
              have hst := HS.out.trans He.out
              rw [stepsR_nil] at hst
              by_cases hlt : out.length < nn
              · rw [if_pos hlt] at hst
                have Hst := Mx.hid hst
                have hlt' : (out.length : Int) < (nn : Int) := by omega
                clear hst hlt
                go_wp2_with fail
                go_ret2
                exact ApplyPost.bad Hst.out hs.bare
              · rw [if_neg hlt] at hst
                have Hst := Mx.hid hst
                have hlt' : ¬ ((out.length : Int) < (nn : Int)) := by omega
                generalize hol' : out.length = ol at *
                clear hst hlt
                go_wp2_with fail
                go_ret2
                unfold ApplyPost
                rw [Hst.out]
                simp only []
                rw [hol']
                exact ⟨_, rfl, hs.tail⟩
            | cons k l =>
              have hpos : (0 : Int) < (((k :: l).length : Nat) : Int) := by simp only [List.length_cons]; omega
              have hst := HS.out.trans He.out
              rw [stepsR_cons] at hst
              have Hst := Mx.hid hst
              have hlk : l.length + 1 = lenAt wr g := by simpa using hla
              have hll' : l.length + 1 ≤ d.length := by simpa using hll
              have hlc : (k :: l).length = l.length + 1 := rfl
              generalize hkl : (k :: l).length = kl at *
              clear hst
              go_wp2_with fail
              refine (step_any w wr [_] [] g _ _ base k l hs (by rw [hkl]; exact hvr.out) (by omega) (by rw [hbb]; exact HB.out) (by omega)).mono ?_
              rintro e w5 ⟨vx, vl, e', rfl, hvx, hs5, hgood⟩
              have hst := Hst.out
              have hsl := stepR_len base k l
              generalize (stepR base k l).1 = se at *
              generalize (stepR base k l).2.1 = sx at *
              generalize (stepR base k l).2.2 = sl at *
              clear Hst hs c0
              obtain ⟨yo, yc, rfl, _⟩ := id hvx
              by_cases hse : se = 0
              · subst hse
                obtain ⟨rfl, hvl⟩ := hgood rfl
                rw [if_neg (by simp)] at hst
                clear hgood
                have hsw := hs5.swap
                have HVX := Mx.hid hvx
                have HVL := Mx.hid hvl
                clear hvx hvl
                by_cases hlong : (nn : Int) - out.length < sx.length
                · rw [if_pos hlong] at hst
                  have Hst := Mx.hid hst
                  clear hst
                  generalize hsxl : sx.length = sn at *
                  generalize hol' : out.length = ol at *
                  go_wp2_with fail
                  go_ret2
                  exact ApplyPost.bad Hst.out hs5.bare
                · rw [if_neg hlong] at hst
                  have Hst := Mx.hid hst
                  clear hst
                  have hob : out.length + sx.length ≤ 20000 := by omega
                  generalize hsxl : sx.length = sn at *
                  generalize hol' : out.length = ol at *
                  go_wp2_with (at_builtin; refine wpl_app rfl _ _ 25 rfl Tryd.elU8 hsw rfl (by exact hs5.old HVX.out) (bs_one _) (by omega) ?_; intro v9 w9 hs9 _)
                  have hs10 := hs9.swap
                  have hl9 := lenAt_eq hs10 HVL.out
                  go_roundw
                  case rel => exact ⟨vl, sl, out ++ sx, hl9.symm, by rw [List.length_append]; omega, Mx.hid (HS.out.symm.trans Hst.out), by omega, HVL, by rw [List.length_append, hol', hsxl, bs_app]; exact hs10⟩
                  case measure => omega
              · rw [if_pos hse] at hst
                have b1 : (se != 0) = true := by simpa using hse
                have Hst := Mx.hid hst
                clear hst hgood
                go_wp2_with fail
                go_ret2
                exact ApplyPost.bad Hst.out hs5.bare
      · rw [if_pos (by omega)] at hAP
        have b1 : ((pl : Int) != (bl : Int)) = true := by simp; omega
        have HS := Mx.hid hAP
        clear hAP h1 hv3
        go_wp2_with fail
        go_ret2
        exact ApplyPost.bad HS.out hs3.bare
    · have b1 : (e2 != 0) = true := by simpa using he2
      rw [if_pos he2] at hAP
      have HS := Mx.hid hAP
      clear hAP hv3
      go_wp2_with fail
      go_quiet (fail)
      go_wp2_with fail
      go_ret2
      exact ApplyPost.bad HS.out (by first | exact (hs3.drewN _).bare | exact (hs3.drewN _).drew.bare)
  · have b1 : (ee != 0) = true := by simpa using hee
    rw [if_pos hee, if_pos hee] at hAP
    have HS := Mx.hid hAP
    clear hAP
    go_wp2_with fail
    refine (number_stop w2 g ee ce hee).mono ?_
    rintro e w3 ⟨rfl, hk⟩
    have hs3 := hs2.call0 hk
    have ce3 : w3.cell? ⟨g, 1, none⟩ = some (.int .i64 ee) := hs3.rcell (List.mem_cons_self ..) rfl
    clear ce
    go_wp2_with fail
    go_quiet (fail)
    go_wp2_with fail
    go_ret2
    exact ApplyPost.bad HS.out (by first | exact (hs3.drewN _).bare | exact (hs3.drewN _).drew.bare)
end Go.Proofs.YtlfdnlomlbbicaaDoor
