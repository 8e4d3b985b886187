/- Walks of lines.Diff and of the document's Diff. -/
import Derived.Test.YtafmgclhgmhflaaMatch
import Derived.Test.YtafmgclhgmhflaaEd
namespace Go.Proofs.Ytafmgclhgmhflaa
open Go.RowKit Go.Mx

theorem Try.elEdit : El Try.prog 44 48 3 40 := El.mk' Try.underlying44 (z := .agg #[.int .i64 0, .int .i64 0, .slice none 0 0]) (by kernel_rfl) rfl (by omega)

theorem sclone_any (v : Value) (l : List ByteArray) (w : World) (hv : Sl w 1 v l.length (ss l)) (hl : l.length ≤ 8796093022208) :
    Calls Try.prog 34 #[v] w fun e w' => ∃ v', e = .returned v' ∧ St w w' [⟨v', 9, 1, l.length, ss l⟩] [] := by
  have q := fun (w : World) (a : Option Addr) (n c n' c' : Nat) => Lib.run_eql_slice_nil (P := Try.prog) w 22 _ a n c n' c' Try.underlying22
  have hv0 := hv
  obtain ⟨ao, cap, blk, off, rfl, h1, h2, _, hc⟩ := hv.txt
  cases ao with
  | none =>
    have hnil : l = [] := by
      cases l with
      | nil => rfl
      | cons x l => exact absurd (hc 0 (by simp)).1 (by simp)
    subst hnil
    clear hc hv0
    go_enter Try.func34, Try.ntmps34
    go_wp2_with fail
    go_ret
    exact ⟨_, rfl, St.nil _ _ _⟩
  | some a =>
    have hs := (St.refl w).made #[] 9 1 0 rfl (by simp)
    clear hc
    have HV := Mx.hid hv0
    clear hv0
    go_enter Try.func34, Try.ntmps34
    go_wp2_with (at_builtin; refine wpl_app rfl _ _ 22 rfl Try.elStr hs rfl (by exact hs.old HV.out) (ss_one _) (by omega) ?_; intro v1 w1 hs1 _)
    go_ret
    exact ⟨_, rfl, hs1.cast (by simp) (by simp)⟩

def dE (a b : List ByteArray) : List Ed := if 200 < a.length ∨ 200 < b.length then [] else eds b (mpairs a b 0 0 ++ [(a.length, b.length)]) 0 0
def DiffPost (a b : List ByteArray) (w : World) (e : Ending) (w' : World) : Prop :=
  ∃ v, e = .returned (.tuple #[v, .int .i64 (mE a b)]) ∧ St w w' [] [] ∧ ED w' v (dE a b)
theorem DiffPost.bad {a b : List ByteArray} {w w' : World} (h : 200 < a.length ∨ 200 < b.length) (hs : St w w' [] []) : DiffPost a b w (.returned (.tuple #[.slice none 0 0, .int .i64 14])) w' := by
  unfold DiffPost dE mE
  rw [if_pos h, if_pos h]
  exact ⟨_, rfl, hs, ED.nil _⟩
theorem DiffPost.good {a b : List ByteArray} {w w1 w' : World} {v : Value} {e0 : TypeId} {vs : List Value} {es : List Ed} (h : ¬ (200 < a.length ∨ 200 < b.length)) (hp : es = eds b (mpairs a b 0 0 ++ [(a.length, b.length)]) 0 0) (h1 : St w w1 [] []) (hs : St w1 w' [⟨v, e0, 3, es.length, edc vs es⟩] (rdt vs es)) (hl : vs.length = es.length) :
    DiffPost a b w (.returned (.tuple #[v, .int .i64 0])) w' := by
  unfold DiffPost dE mE
  rw [if_neg h, if_neg h, ← hp]
  exact ⟨_, rfl, h1.call0 hs.bare.noQ, ED.ofSt hs hl⟩

set_option maxRecDepth 100000 in
set_option maxHeartbeats 4000000 in
theorem diff_any (va vb : Value) (a b : List ByteArray) (w : World) (ha : Sl w 1 va a.length (ss a)) (hb : Sl w 1 vb b.length (ss b)) :
    Calls Try.prog 23 #[va, vb] w (DiffPost a b w) := by
  have HM := Mx.hid (match_any va vb a b w ha hb)
  by_cases hbig : 200 < a.length ∨ 200 < b.length
  · have HP := Mx.hid (fun w' hs => DiffPost.bad (a := a) (b := b) (w := w) (w' := w') hbig hs)
    have HB := Mx.hid hbig
    clear hbig
    go_enter Try.func23, Try.ntmps23
    go_wp2_with fail
    refine HM.out.mono ?_
    rintro e w1 ⟨v, he, hs⟩
    have hE : mE a b = 14 := by unfold mE; rw [if_pos HB.out]
    rw [hE] at he
    subst he
    clear hE
    go_wp2_with fail
    go_ret2
    exact HP.out _ hs.bare
  · have HB := Mx.hid hbig
    have la : a.length ≤ 200 := by omega
    have lb : b.length ≤ 200 := by omega
    clear hbig
    go_enter Try.func23, Try.ntmps23
    go_wp2_with fail
    refine HM.out.mono ?_
    rintro e w1 ⟨v, he, hs⟩
    have hE : mE a b = 0 := by unfold mE; rw [if_neg HB.out]
    have hP : mP a b = mpairs a b 0 0 := by unfold mP; rw [if_neg HB.out]
    rw [hE] at he
    rw [hP] at hs
    subst he
    clear hE hP HM
    have hpl := mpairs_len a b 0 0
    have HR := Mx.hid (mpairs_ris a b 0 0 (by omega) (by omega))
    generalize hps : mpairs a b 0 0 = ps at *
    have HPS := Mx.hid hps
    clear hps
    go_wp2_with (first | ((with_reducible show wpList _ _ _ _ _ _); refine wpl_len rfl 22 9 _ rfl Try.underlying22 (by exact hs.old ha) ?_) | ((with_reducible show wpList _ _ _ _ _ _); refine wpl_len rfl 22 9 _ rfl Try.underlying22 (by exact hs.old hb) ?_) | (at_builtin; refine wpl_app rfl _ _ 26 rfl Try.elPair (hs.alloc _) rfl (by exact ((St.refl _).made #[.int .i64 a.length, .int .i64 b.length] 31 2 1 rfl (by simp [maxLen])).sl0) (by intro u hu; simp at hu; rcases hu with rfl | rfl <;> rfl) (by omega) ?_; intro v1 w2 hs2 _) | ((with_reducible show wpList _ _ _ _ _ _); refine wpl_len rfl 26 31 _ rfl Try.underlying26 (by exact hs2.sl0) ?_))
    have hs2' : St w w2 [⟨v1, 31, 2, (ps ++ [(a.length, b.length)]).length, pr (ps ++ [(a.length, b.length)])⟩] [] := hs2.cast (by simp) (by rw [pr_app]; rfl)
    obtain ⟨g, cp, rfl, gb1, gb2, gb3, gb4⟩ := hs2'.form0 (by simp)
    have HC : Hid (∀ k (hk : k < (ps ++ [(a.length, b.length)]).length), w2.cell? ⟨g, k * 2, none⟩ = some (.int .i64 ((ps ++ [(a.length, b.length)])[k].1 : Int)) ∧ w2.cell? ⟨g, k * 2 + 1, none⟩ = some (.int .i64 ((ps ++ [(a.length, b.length)])[k].2 : Int))) :=
      fun k hk => by have := pr_get hk; rw [show 2 * k = k * 2 by omega] at this; exact ⟨hs2'.cell this.1, hs2'.cell this.2⟩
    have HS2 := Mx.hid hs2'.bare
    have HVB := Mx.hid (hs2'.old hb)
    clear ha hb
    have hll : (ps ++ [(a.length, b.length)]).length = ps.length + 1 := by simp
    generalize hl : ps ++ [(a.length, b.length)] = l at *
    have HL := Mx.hid hl
    have HLL := Mx.hid hll
    have hlb : ps.length + 1 ≤ 201 := by omega
    rw [← hll] at hlb
    clear hs2 hs2' hl hs gb1 gb2 hll
    go_loopw [8, 9, 10, 31] (fun x y z c wr => ∃ (i j k : Nat) (es : List Ed) (vs : List Value), k ≤ l.length ∧ es.length ≤ k ∧ y = .int .i64 i ∧ z = .int .i64 j ∧ c = .int .i64 k ∧ Hid (es ++ eds b (l.drop k) i j = eds b l 0 0) ∧ Hid (Ris a.length b.length (l.drop k) i j) ∧ Hid (vs.length = es.length) ∧ St w2 wr [⟨x, 48, 3, es.length, edc vs es⟩] (rdt vs es)) (fun _ _ _ c _ => l.length - (intOf c).toNat)
    case atStart => exact ⟨0, 0, 0, [], [], by omega, by simp, rfl, rfl, rfl, rfl, HR.out, rfl, St.nil _ _ _⟩
    case round =>
      obtain ⟨i, j, k, es, vs, hk, hek, rfl, rfl, rfl, He, Hri, Hvs, hs⟩ := hrel
      by_cases hlt : k < l.length
      · obtain ⟨c1, c2⟩ := HC.out k hlt
        replace c1 := hs.keep c1
        replace c2 := hs.keep c2
        have hkk : (k : Int) < (l.length : Int) := by omega
        have hkk' : (k : Int) < (ps.length : Int) + 1 := by have := HLL.out; omega
        have hri := Hri.out
        have hst := He.out
        rw [List.drop_eq_getElem_cons hlt] at hri hst
        rw [eds] at hst
        obtain ⟨r1, r2, r3, r4, r5⟩ := hri
        generalize hp : l[k] = p at *
        obtain ⟨pa, pb⟩ := p
        simp only [] at r1 r2 r3 r4 r5 c1 c2 hst
        have Hp := Mx.hid hp
        have Hr5 := Mx.hid r5
        clear hp r5
        by_cases hgap : i < pa ∨ j < pb
        · rw [if_pos hgap] at hst
          have Hst := Mx.hid hst
          have hg : i < pa ∨ (pa ≤ i ∧ j < pb) := by omega
          clear hst hgap
          obtain ⟨v3, q1, q2⟩ := HVB.out.cutRun Try.elStr (some (.int .i64 (j : Int))) (some (.int .i64 (pb : Int))) j pb (.inr ⟨.i64, rfl⟩) (.inr ⟨.i64, rfl⟩) r2 r4
          have T1 : Hid (∀ w', Sl w' 1 vb b.length (ss b) → Sl w' 1 v3 ((b.take pb).drop j).length (ss ((b.take pb).drop j))) := fun w' h => Sl.cutS (q2 w' h) r4 r2
          have hcl : ((b.take pb).drop j).length ≤ 8796093022208 := by rw [List.length_drop, List.length_take]; omega
          have hw1 : IntKind.i64.wrap ((pa : Int) - (i : Int)) = (pa : Int) - (i : Int) := IntWalk.i64_in _ (by omega)
          have hw2 : IntKind.i64.wrap ((pa : Int) + 1) = (pa : Int) + 1 := IntWalk.i64_in _ (by omega)
          have hw3 : IntKind.i64.wrap ((pb : Int) + 1) = (pb : Int) + 1 := IntWalk.i64_in _ (by omega)
          clear q2
          generalize (b.take pb).drop j = L at *
          rcases hg with hg | ⟨hg, hg'⟩
          all_goals
            go_wp2_with (first | ((with_reducible show wpList _ _ _ _ _ _); refine wpl_want rfl ?_))
            have hsp := (hs.madeAt #[.int .i64 pa, .int .i64 pb] 31 2 1 wr.heap.size rfl (by simp [maxLen]) rfl).freeze
            generalize wr.alloc (Obj.cells #[.int .i64 pa, .int .i64 pb] 31) = W at *
            generalize wr.heap.size = gp at *
            obtain ⟨y1, y2⟩ := Sl.two hsp.q0
            clear hs c1 c2
            go_region_held3 (fun W' => W'.cell? ⟨gp, 0, none⟩ = some (.int .i64 pa) ∧ W'.cell? ⟨gp, 1, none⟩ = some (.int .i64 pb)) (first | exact Sl.two hB.q1 | exact Sl.two hA.q1 | go_keep) (first
              | (go_at_call 34; refine (sclone_any v3 L _ (T1.out _ (hsp.drew.old HVB.out)) hcl).mono ?_; rintro e wA ⟨ve, rfl, hve⟩; obtain ⟨ca, cc, rfl, _⟩ := hve.sl0; have hA := (hsp.drew.call1 hve).freeze)
              | (refine step_app rfl _ _ 44 rfl Try.elEdit (by exact hA.alloc _) rfl (by exact ((St.refl _).made #[.int .i64 (i : Int), .int .i64 ((pa : Int) - (i : Int)), .slice ca L.length cc] 48 3 1 rfl (by simp [maxLen])).sl0) (by intro u hu; simp at hu; rcases hu with rfl | rfl | rfl <;> rfl) (by omega) ?_; intro vo wB hB _))
            obtain ⟨y3, y4⟩ := Sl.two hB.q1
            clear q1
            go_wp2_with fail
            go_quiet (fail)
            clear hw1 hw2 hw3 y1 y2 y3 y4
            replace hB := hB.drewN nq
            go_wp2_with fail
            go_roundw
            case rel =>
              obtain ⟨hq, hq'⟩ := (hB.sub (R' := [_]) (List.Sublist.refl _) (Q' := _ :: rdt vs es) (fun q hq => by rcases List.mem_cons.1 hq with rfl | hq <;> simp_all)).pushE (d := ((i : Int), (pa : Int) - (i : Int), L)) Hvs.out
              exact ⟨pa + 1, pb + 1, k + 1, _, _, by omega, by simp; omega, by go_num, by go_num, by go_num, by have := Hst.out; simpa [Hid] using this, Hr5.out, hq', hq⟩
            case measure => simp [intOf]; omega
        · rw [if_neg hgap] at hst
          have Hst := Mx.hid hst
          have hg : pa ≤ i ∧ pb ≤ j := by omega
          obtain ⟨hg, hg'⟩ := hg
          have hw2 : IntKind.i64.wrap ((pa : Int) + 1) = (pa : Int) + 1 := IntWalk.i64_in _ (by omega)
          have hw3 : IntKind.i64.wrap ((pb : Int) + 1) = (pb : Int) + 1 := IntWalk.i64_in _ (by omega)
          clear hst hgap
          go_wp2_with (first | ((with_reducible show wpList _ _ _ _ _ _); refine wpl_want rfl ?_))
          have hsp := (hs.madeAt #[.int .i64 pa, .int .i64 pb] 31 2 1 wr.heap.size rfl (by simp [maxLen]) rfl).freeze
          generalize wr.alloc (Obj.cells #[.int .i64 pa, .int .i64 pb] 31) = W at *
          generalize wr.heap.size = gp at *
          obtain ⟨y1, y2⟩ := Sl.two hsp.q0
          replace hs := hsp.tailQ
          clear c1 c2 hsp
          go_quiet (fail)
          clear hw2 hw3 y1 y2
          replace hs := hs.drewN nq
          go_wp2_with fail
          go_roundw
          case rel => exact ⟨pa + 1, pb + 1, k + 1, es, vs, by omega, by omega, by go_num, by go_num, by go_num, by have := He.out; rw [List.drop_eq_getElem_cons hlt, Hp.out, eds, if_neg (by omega)] at this; exact this, Hr5.out, Hvs.out, hs⟩
          case measure => simp [intOf]; omega
      · have HP := Mx.hid (DiffPost.good (a := a) (b := b) (es := es) HB.out (by have := He.out; rw [List.drop_of_length_le (by omega), eds, List.append_nil, ← HL.out, ← HPS.out] at this; exact this) HS2.out hs Hvs.out)
        have hkk : ¬ ((k : Int) < (ps.length : Int) + 1) := by have := HLL.out; omega
        go_wp2_with fail
        go_ret2
        exact HP.out
end Go.Proofs.Ytafmgclhgmhflaa
