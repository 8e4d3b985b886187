/- marlaw14.LinesPatches: it returns true and leaves what was there as it was. -/
import Derived.Test.YtknmmfffcihkpaaL14F
import Derived.Test.YtknmmfffcihkpaaPatch
import Derived.Test.YtknmmfffcihkpaaRowEd
namespace Go.Proofs.Ytknmmfffcihkpaa
open Go.RowKit Go.Mx

theorem tot_take {es : List Ed} {k : Nat} (h : k < es.length) : tot (es.take (k + 1)) = tot (es.take k) + es[k].2.2.length := by
  unfold tot
  rw [List.take_succ_eq_append_getElem h, List.map_append, List.sum_append]
  simp only [List.map_cons, List.map_nil, List.sum_cons, List.sum_nil, Nat.add_zero]

set_option maxRecDepth 100000 in
set_option maxHeartbeats 4000000 in
theorem linesPatches_any (w : World) (va ve : Value) (a : List ByteArray) (es : List Ed) (ha : Sl w 1 va a.length (ss a)) (he : ED w ve es) (hwf : ∀ e ∈ es, (Lit.int .i64 e.1).wf = true ∧ (Lit.int .i64 e.2.1).wf = true) :
    Calls Try.prog 6 #[va, ve] w fun e w' => e = .returned (.bool true) ∧ Below w.heap.size w w' := by
  have HW := Mx.hid hwf
  have HED := Mx.hid he
  obtain ⟨ao, cap, blk, off, us, rfl, h1, h2, hc, hd⟩ := he.at
  have HC := Mx.hid hc
  have HD := Mx.hid hd
  clear hwf hc hd he
  go_enter Try.func6, Try.ntmps6
  go_wp2_with fail
  refine (first_any _).mono ?_
  rintro e w1 ⟨rfl, hs1⟩
  go_wp2_with fail
  refine (few_any va a _ (hs1.old ha)).mono ?_
  rintro e w' ⟨⟨ba, rfl, fa⟩, rfl⟩
  cases ba with
  | false =>
    clear fa
    go_wp2_with (first | ((with_reducible show wpList _ _ _ _ _ _); refine wpl_want rfl ?_) | (go_at_call 7; refine (first_any _).mono ?_; rintro e w2 ⟨rfl, hs2⟩))
    go_ret
    exact ⟨rfl, (hs1.call0 hs2).below⟩
  | true =>
    have la := fa rfl
    clear fa
    by_cases hmany : 100 < es.length
    · have d1 : decide ((100 : Int) < (es.length : Int)) = true := decide_eq_true (by omega)
      go_wp2_with (first | ((with_reducible show wpList _ _ _ _ _ _); refine wpl_want rfl ?_) | (go_at_call 7; refine (first_any _).mono ?_; rintro e w2 ⟨rfl, hs2⟩))
      go_ret
      exact ⟨rfl, (hs1.call0 hs2).below⟩
    · have d1 : decide ((100 : Int) < (es.length : Int)) = false := decide_eq_false (by omega)
      have les : es.length ≤ 100 := by omega
      clear hmany
      go_wp2_with (first | ((with_reducible show wpList _ _ _ _ _ _); refine wpl_want rfl ?_))
      have HS1 := Mx.hid hs1
      clear hs1
      go_loopw [5, 6, 7] (fun x n y wr => ∃ (k N : Nat) (vs : List Value), k ≤ es.length ∧ y = .int .i64 k ∧ n = .int .i64 N ∧ N ≤ k * 220 ∧ Hid (N = tot (es.take k)) ∧ Hid (vs.length = (es.take k).length) ∧ St w1 wr [⟨x, 51, 3, (es.take k).length, edc vs (es.take k)⟩] (rdt vs (es.take k))) (fun _ _ y _ => es.length - (intOf y).toNat)
      case atStart => exact ⟨0, 0, [], by omega, rfl, rfl, by omega, rfl, rfl, St.nil _ _ _⟩
      case round =>
        obtain ⟨k, N, vs, hk, rfl, rfl, hN, HN, Hvs, hs⟩ := hrel
        by_cases hlt : k < es.length
        · obtain ⟨rfl, c1, c2, c3⟩ := HC.out k hlt
          rw [show off + 3 * k = off + k * 3 by omega] at c1
          rw [show off + (3 * k + 1) = off + k * 3 + 1 by omega] at c2
          rw [show off + (3 * k + 2) = off + k * 3 + 2 by omega] at c3
          obtain ⟨z1, y1, e1, zz⟩ := HD.out k hlt
          clear zz
          rw [e1] at c3
          have hL := HD.out k hlt
          rw [e1] at hL
          clear e1
          have hL1 := Mx.hid (HS1.out.old hL)
          have htt := tot_take hlt
          have hts := List.take_succ_eq_append_getElem hlt
          have hlk : (es.take k).length = k := by rw [List.length_take]; omega
          generalize es[k] = d at *
          obtain ⟨p, q, L⟩ := d
          simp only [] at c1 c2 c3 hL htt hL1
          have HT := Mx.hid (htt.trans (by rw [← HN.out]))
          have HTS := Mx.hid hts
          have HLK := Mx.hid hlk
          have C1 := Mx.hid (HS1.out.keep c1)
          have C2 := Mx.hid (HS1.out.keep c2)
          have C3 := Mx.hid (HS1.out.keep c3)
          clear c1 c2 c3 hL htt hts hlk
          have c1 := hs.keep C1.out
          have c2 := hs.keep C2.out
          have c3 := hs.keep C3.out
          have hkk : (k : Int) < (es.length : Int) := by omega
          go_wp2_with fail
          refine (few_any _ L _ (hs.old hL1.out)).mono ?_
          rintro e w' ⟨⟨bb, rfl, fb⟩, rfl⟩
          cases bb with
          | false =>
            clear fb
            go_wp2_with (first | ((with_reducible show wpList _ _ _ _ _ _); refine wpl_want rfl ?_) | (go_at_call 7; refine (first_any _).mono ?_; rintro e w2 ⟨rfl, hs2⟩))
            go_ret
            exact ⟨rfl, (HS1.out.call0 (hs.bare.call0 hs2)).below⟩
          | true =>
            have lb := fb rfl
            clear fb
            have hb1 : (es.take k).length + 1 ≤ 101 := by have := HLK.out; omega
            go_wp2_with (first | ((with_reducible show wpList _ _ _ _ _ _); refine wpl_want rfl ?_))
            go_region_held3 (fun W' => W'.cell? ⟨blk, off + k * 3, none⟩ = some (.int .i64 p) ∧ W'.cell? ⟨blk, off + k * 3 + 1, none⟩ = some (.int .i64 q) ∧ W'.cell? ⟨blk, off + k * 3 + 2, none⟩ = some (.slice z1 L.length y1)) (first | exact ⟨hB.keep C1.out, hB.keep C2.out, hB.keep C3.out⟩ | go_keep)
              ((refine step_app rfl _ _ 36 rfl Try.elREdit (by exact hs.drew.alloc _) rfl (by exact ((St.refl _).made #[.int .i64 p, .int .i64 q, .slice z1 L.length y1] 51 3 1 rfl (by simp [maxLen])).sl0) (by intro u hu; simp at hu; rcases hu with rfl | rfl | rfl <;> rfl) (by omega) ?_; intro vo wB hB _))
            go_wp2_with fail
            go_roundw
            case rel =>
              obtain ⟨hq, hq'⟩ := (hB.addQ (q := ⟨.slice z1 L.length y1, 1, L.length, ss L⟩) hL1.out).pushE (d := (p, q, L)) Hvs.out
              rw [← HTS.out] at hq hq'
              exact ⟨k + 1, N + L.length, _, by omega, by go_num, by go_num, by omega, HT.out.symm, hq', hq⟩
            case measure => simp [intOf]; omega
        · obtain rfl : k = es.length := by omega
          rw [List.take_of_length_le (Nat.le_refl _)] at hs HN Hvs
          by_cases hbig : 1000 < N
          · have d2 : decide ((1000 : Int) < (N : Int)) = true := decide_eq_true (by omega)
            go_wp2_with (first | ((with_reducible show wpList _ _ _ _ _ _); refine wpl_want rfl ?_) | (go_at_call 7; refine (first_any _).mono ?_; rintro e w2 ⟨rfl, hs2⟩))
            go_ret
            exact ⟨rfl, (HS1.out.call0 (hs.bare.call0 hs2)).below⟩
          · have d2 : decide ((1000 : Int) < (N : Int)) = false := decide_eq_false (by omega)
            have hsz : a.length + tot es ≤ 8796093022208 := by have := HN.out; omega
            have hx := Mx.hid (ED.ofSt hs Hvs.out)
            have hs' := HS1.out.call0 hs.bare.noQ
            clear hs hbig
            go_wp2_with fail
            refine (patch_any va _ a es _ (hs'.old ha) (HED.out.old hs') hsz HW.out).mono ?_
            rintro e w3 ⟨vp, rfl, hs3⟩
            have hx3 := hx.out.old hs3
            replace hs3 := hs'.call1 hs3
            clear hx hs'
            go_wp2_with fail
            refine (refPatch_any va _ a es _ (hs3.old ha) hx3 hsz HW.out).mono ?_
            rintro e w4 ⟨vq, rfl, hs4⟩
            replace hs4 := hs3.call1 hs4
            clear hs3 hx3
            generalize pE a es = E at *
            generalize pP a es = P at *
            have hE : (E == E) = true := by simp
            go_wp2_with fail
            refine (first_any _).mono ?_
            rintro e w5 ⟨rfl, hs5⟩
            replace hs5 := hs4.call0 hs5
            clear hs4
            have hp := hs5.sl1
            have hq := hs5.sl0
            go_wp2_with (first | ((with_reducible show wpList _ _ _ _ _ _); refine wpl_want rfl ?_))
            refine (texts_same vp vq P P _ hp hq rfl).mono ?_
            rintro e w6 ⟨rfl, hs6⟩
            replace hs6 := hs5.call0 hs6
            go_wp2_with (first | ((with_reducible show wpList _ _ _ _ _ _); refine wpl_want rfl ?_))
            go_ret
            exact ⟨rfl, hs6.below⟩

theorem linesPatchesRow (va : Value) (a : List ByteArray) {w : World} (ha : Sl w 1 va a.length (ss a)) (_la : ∀ s ∈ a, s.size ≤ maxLen) (ve : Value) (es : List Ed) (he : ED w ve es) (hok : ∀ e ∈ es, EdOk e) (_w : World) :
    Calls Try.prog 6 #[va, ve] w fun e w' => e = .returned (.bool true) ∧ Below w.heap.size w w' := linesPatches_any w va ve a es ha he fun e h => ⟨(hok e h).1, (hok e h).2.1⟩
end Go.Proofs.Ytknmmfffcihkpaa
