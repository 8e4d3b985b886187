/- Walks of lines.Patch and of the document's Patch. -/
import Derived.Test.YtknmmfffcihkpaaDoorBase
import Derived.Test.YtknmmfffcihkpaaDoorPatchP
import Derived.IntWalk
namespace Go.Proofs.YtknmmfffcihkpaaDoor
open Go.RowKit Go.Mx

def PatchPost (a : List ByteArray) (es : List Ed) (w : World) (e : Ending) (w' : World) : Prop :=
  ∃ v, e = .returned (.tuple #[v, .int .i64 (pE a es)]) ∧ St w w' [⟨v, 9, 1, (pP a es).length, ss (pP a es)⟩] []
theorem PatchPost.bad {a : List ByteArray} {es : List Ed} {w w' : World} (h : Hid (none = patchL a es 0 [])) (hs : St w w' [] []) : PatchPost a es w (.returned (.tuple #[.slice none 0 0, .int .i64 1])) w' := by
  unfold PatchPost pE pP
  rw [← h.out]
  exact ⟨_, rfl, hs.addNil _ _⟩
theorem PatchPost.good {a : List ByteArray} {es : List Ed} {w w' : World} {r : List ByteArray} {v : Value} (h : Hid (some r = patchL a es 0 [])) (hs : St w w' [⟨v, 9, 1, r.length, ss r⟩] []) : PatchPost a es w (.returned (.tuple #[v, .int .i64 0])) w' := by
  unfold PatchPost pE pP
  rw [← h.out]
  exact ⟨_, rfl, hs⟩
theorem sl_three {w : World} {g cap : Nat} {x y z : Value} (h : Sl w 3 (.slice (some ⟨g, 0, none⟩) 1 cap) 1 [x, y, z]) : w.cell? ⟨g, 0, none⟩ = some x ∧ w.cell? ⟨g, 1, none⟩ = some y ∧ w.cell? ⟨g, 2, none⟩ = some z := by
  obtain ⟨ao, c, he, _, _, _, _, hc⟩ := h
  obtain ⟨rfl, rfl⟩ : some ⟨g, 0, none⟩ = ao ∧ cap = c := by simpa using he
  obtain ⟨a, ha, h0⟩ := hc 0 x rfl
  obtain ⟨a', ha', h1⟩ := hc 1 y rfl
  obtain ⟨a'', ha'', h2⟩ := hc 2 z rfl
  cases ha; cases ha'; cases ha''
  exact ⟨h0, h1, h2⟩

set_option maxRecDepth 100000 in
set_option maxHeartbeats 4000000 in
theorem patch_any (va ve : Value) (a : List ByteArray) (es : List Ed) (w : World) (ha : Sl w 1 va a.length (ss a)) (he : ED w ve es) (hl : a.length + tot es ≤ 8796093022208) (hwf : ∀ e ∈ es, (Lit.int .i64 e.1).wf = true ∧ (Lit.int .i64 e.2.1).wf = true) :
    Calls Tryd.prog 22 #[va, ve] w (PatchPost a es w) := by
  obtain ⟨ao, cap, blk, off, us, rfl, h1, h2, hc, hd⟩ := he.at
  have HC := Mx.hid hc
  have HD := Mx.hid hd
  have HA := Mx.hid ha
  have HW := Mx.hid hwf
  clear he hc hd ha hwf
  go_enter Tryd.func22, Tryd.ntmps22
  go_wp2_with fail
  go_loopw [6, 7, 12] (fun x y c wr => ∃ (i k : Nat) (acc : List ByteArray), k ≤ es.length ∧ i ≤ a.length ∧ y = .int .i64 i ∧ c = .int .i64 k ∧ acc.length + tot (es.drop k) ≤ i + tot es ∧ Hid (patchL a (es.drop k) i acc = patchL a es 0 []) ∧ St w wr [⟨x, 9, 1, acc.length, ss acc⟩] []) (fun _ _ c _ => es.length - (intOf c).toNat)
  case atStart => exact ⟨0, 0, [], by omega, by omega, rfl, rfl, by simp, rfl, St.nil _ _ _⟩
  case round =>
    obtain ⟨i, k, acc, hk, hi, rfl, rfl, hac, He, hs⟩ := hrel
    by_cases hlt : k < es.length
    · obtain ⟨rfl, c1, c2, c3⟩ := HC.out k hlt
      rw [show off + 3 * k = off + k * 3 by omega] at c1
      rw [show off + (3 * k + 1) = off + k * 3 + 1 by omega] at c2
      rw [show off + (3 * k + 2) = off + k * 3 + 2 by omega] at c3
      obtain ⟨z1, y1, e1, zz⟩ := HD.out k hlt
      clear zz
      rw [e1] at c3
      have hL := HD.out k hlt
      rw [e1] at hL
      have hL := Mx.hid hL
      clear e1
      obtain ⟨wf1, wf2⟩ := HW.out es[k] (List.getElem_mem _)
      have hst := He.out
      rw [patchL_step hlt] at hst
      have htd := tot_drop hlt
      generalize es[k] = d at *
      obtain ⟨p, q, L⟩ := d
      simp only [] at c1 c2 c3 hL wf1 wf2 hst htd
      have hp : -9223372036854775808 ≤ p ∧ p ≤ 9223372036854775807 := by simpa [Lit.wf, IntKind.min, IntKind.max, IntKind.signed, IntKind.bits] using wf1
      have hq : -9223372036854775808 ≤ q ∧ q ≤ 9223372036854775807 := by simpa [Lit.wf, IntKind.min, IntKind.max, IntKind.signed, IntKind.bits] using wf2
      clear wf1 wf2
      replace c1 := hs.keep c1
      replace c2 := hs.keep c2
      replace c3 := hs.keep c3
      have hkk : (k : Int) < (es.length : Int) := by omega
      by_cases hbad : edBad a i (p, q, L)
      · rw [if_pos hbad] at hst
        have Hst := Mx.hid hst
        have hg := edBad_cases hbad
        clear hst hbad htd
        rcases hg with g1 | ⟨g1, g2⟩ | ⟨g1, g2, g3⟩ | ⟨g1, g2, g3, ⟨g5, g6⟩, g4⟩
        all_goals
          obtain ⟨bo, bcap, bb, boff, rfl, hb1, hb2, _, zz⟩ := HA.out.txt
          clear zz
          go_wp2_with fail
          go_ret2
          exact PatchPost.bad Hst (hs.alloc _).bare
      · have hg : (i : Int) ≤ p ∧ p ≤ (a.length : Int) ∧ 0 ≤ q ∧ q ≤ (a.length : Int) - p := by unfold edBad at hbad; simp only [] at hbad; omega
        rw [if_neg hbad] at hst
        obtain ⟨g1, g2, g3, g4⟩ := hg
        obtain ⟨P, hP⟩ := Int.eq_ofNat_of_zero_le (show 0 ≤ p by omega)
        have d1 : decide (p < (i : Int)) = false := decide_eq_false (by omega)
        have d2 : decide ((a.length : Int) < p) = false := decide_eq_false (by omega)
        have d3 : decide (q < 0) = false := decide_eq_false (by omega)
        have d4 : decide ((a.length : Int) - p < q) = false := decide_eq_false (by omega)
        have g0 : 0 ≤ p := by omega
        rw [show p.toNat = P by omega] at hst
        obtain ⟨v3, q1, q2⟩ := HA.out.cutRun Tryd.elStr (some (.int .i64 (i : Int))) (some (.int .i64 p)) i P (.inr ⟨.i64, rfl⟩) (.inr ⟨.i64, by rw [hP]⟩) (by omega) (by omega)
        have T1 : Hid (∀ w', Sl w' 1 va a.length (ss a) → Sl w' 1 v3 ((a.take P).drop i).length (ss ((a.take P).drop i))) := fun w' h => Sl.cutS (q2 w' h) (by omega) (by omega)
        have hMl : ((a.take P).drop i).length + i = P := by rw [List.length_drop, List.length_take]; omega
        have Hst := Mx.hid hst
        generalize (a.take P).drop i = M at *
        have Hrel := Mx.hid (show acc.length + M.length + L.length + tot (es.drop (k + 1)) ≤ (p + q).toNat + tot es by omega)
        have hb1 : acc.length + M.length ≤ 8796093022208 := by omega
        have hb2 : acc.length + M.length + L.length ≤ 8796093022208 := by omega
        clear q2 hst hbad htd hP hMl hac
        go_wp2_with (first | ((with_reducible show wpList _ _ _ _ _ _); refine wpl_want rfl ?_) | ((with_reducible show wpList _ _ _ _ _ _); refine wpl_len rfl 25 9 _ rfl Tryd.underlying25 (by exact ((hs.alloc _).old HA.out)) ?_))
        have hsp := (hs.madeAt #[.int .i64 p, .int .i64 q, .slice z1 L.length y1] 62 3 1 wr.heap.size rfl (by simp [maxLen]) rfl).freeze
        generalize wr.alloc (Obj.cells #[.int .i64 p, .int .i64 q, .slice z1 L.length y1] 62) = W at *
        generalize wr.heap.size = gp at *
        have hc3 := sl_three hsp.q0
        obtain ⟨x1, x2, x3⟩ := hc3
        clear hs c1 c2 c3 d1 d2 d3 d4
        go_region_held3 (fun W' => W'.cell? ⟨gp, 0, none⟩ = some (.int .i64 p) ∧ W'.cell? ⟨gp, 1, none⟩ = some (.int .i64 q) ∧ W'.cell? ⟨gp, 2, none⟩ = some (.slice z1 L.length y1)) (first | exact sl_three hB.q0 | exact sl_three hA.q0 | go_keep) (first
          | (have := hA; refine step_app rfl _ _ 25 rfl Tryd.elStr (by exact hA) rfl (by exact hA.old hL.out) (ss_one _) (by omega) ?_; intro vo' wB hB _)
          | (refine step_app rfl _ _ 25 rfl Tryd.elStr (by exact hsp.drew) rfl (by exact T1.out _ (hsp.drew.old HA.out)) (ss_one _) (by omega) ?_; intro vo wA hA _))
        obtain ⟨x4, x5, x6⟩ := sl_three hB.q0
        clear q1 x1 x2 x3
        go_wp2_with fail
        try clear x4 x5 x6
        go_roundw
        case rel => exact ⟨(p + q).toNat, k + 1, acc ++ M ++ L, by omega, by omega, by congr 1; omega, by go_num, by have := Hrel.out; simp only [List.length_append]; omega, by have := Hst.out; simpa [Hid] using this, (hB.tailQ).cast (by simp; omega) (by simp [ss_app])⟩
        case measure => simp [intOf]; omega
    · have hst := He.out
      rw [List.drop_of_length_le (by omega), patchL] at hst
      have HP := Mx.hid hst
      obtain ⟨v3, q1, q2⟩ := HA.out.cutRun Tryd.elStr (some (.int .i64 (i : Int))) none i a.length (.inr ⟨.i64, rfl⟩) (.inl ⟨rfl, rfl⟩) (by omega) (by omega)
      have T1 : Hid (∀ w', Sl w' 1 va a.length (ss a) → Sl w' 1 v3 (a.drop i).length (ss (a.drop i))) := fun w' h => by
        have := Sl.cutS (q2 w' h) (Nat.le_refl _) (by omega)
        rwa [List.take_of_length_le (Nat.le_refl _)] at this
      have hdl : (a.drop i).length + i = a.length := by rw [List.length_drop]; omega
      clear q2 hst
      generalize a.drop i = M at *
      have hb1 : acc.length + M.length ≤ 8796093022208 := by omega
      clear hdl hac
      go_wp2_with (at_builtin; refine wpl_app rfl _ _ 25 rfl Tryd.elStr hs rfl (by exact T1.out _ (hs.old HA.out)) (ss_one _) (by omega) ?_; intro vo wo hs1 _)
      go_ret2
      exact PatchPost.good HP (hs1.cast (by simp) (by rw [ss_app]))
end Go.Proofs.YtknmmfffcihkpaaDoor
