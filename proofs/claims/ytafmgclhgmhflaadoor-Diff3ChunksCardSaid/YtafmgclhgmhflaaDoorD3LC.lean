/- marlaw15.same and marlaw15.Diff3Chunks: it returns true and leaves what was there as it was. -/
import Derived.Test.YtafmgclhgmhflaaDoorD3F
namespace Go.Proofs.YtafmgclhgmhflaaDoor
open Go.RowKit Go.Mx

set_option maxRecDepth 100000 in
set_option maxHeartbeats 8000000 in
theorem csame_any (v v' : Value) (l : List Ck) (w : World) (hv : CK w v l) (hv' : CK w v' l) :
    Calls Tryd.prog 14 #[v, v'] w fun e w' => e = .returned (.bool true) ∧ St w w' [] [] := by
  obtain ⟨ao, cap, blk, off, us, rfl, h1, h2, hc, hd⟩ := hv.at
  obtain ⟨ao', cap', blk', off', us', rfl, h1', h2', hc', hd'⟩ := hv'.at
  clear hv hv'
  have HC := Mx.hid hc
  have HC' := Mx.hid hc'
  have HD := Mx.hid hd
  have HD' := Mx.hid hd'
  clear hc hc' hd hd'
  have hb : ((l.length : Int) != (l.length : Int)) = false := by simp
  go_enter Tryd.func14, Tryd.ntmps14
  go_wp2_with fail
  go_loopw [5] (fun x wr => ∃ i : Nat, i ≤ l.length ∧ x = .int .i64 i ∧ St w wr [] []) (fun x _ => l.length - (intOf x).toNat)
  case atStart => exact ⟨0, by omega, rfl, St.refl w⟩
  case round =>
    obtain ⟨i, hi, rfl, hs⟩ := hrel
    by_cases hlt : i < l.length
    · obtain ⟨rfl, c1, c2, c3, c4⟩ := HC.out i hlt
      obtain ⟨rfl, c5, c6, c7, c8⟩ := HC'.out i hlt
      replace c1 := hs.keep c1
      replace c2 := hs.keep c2
      replace c3 := hs.keep c3
      replace c4 := hs.keep c4
      replace c5 := hs.keep c5
      replace c6 := hs.keep c6
      replace c7 := hs.keep c7
      replace c8 := hs.keep c8
      have hii : (i : Int) < (l.length : Int) := by omega
      obtain ⟨D1, D2, D3⟩ := HD.out i hlt
      obtain ⟨D4, D5, D6⟩ := HD'.out i hlt
      replace D1 := hs.old D1
      replace D2 := hs.old D2
      replace D3 := hs.old D3
      replace D4 := hs.old D4
      replace D5 := hs.old D5
      replace D6 := hs.old D6
      generalize us i = u at *
      generalize us' i = u' at *
      obtain ⟨uo, ua, ub⟩ := u
      obtain ⟨uo', ua', ub'⟩ := u'
      generalize l[i] = c at *
      obtain ⟨ck, co, ca, cb⟩ := c
      simp only [] at c1 c2 c3 c4 c5 c6 c7 c8 D1 D2 D3 D4 D5 D6
      have e1 : ((ck : Int) != (ck : Int)) = false := by simp
      have HX1 := Mx.hid (fun n => texts_qs uo uo' co (wr.drewN n) (((St.refl wr).drewN n).old D1) (((St.refl wr).drewN n).old D4))
      have HX2 := Mx.hid (fun n => texts_qs ua ua' ca (wr.drewN n) (((St.refl wr).drewN n).old D2) (((St.refl wr).drewN n).old D5))
      have HX3 := Mx.hid (fun n => texts_qs ub ub' cb (wr.drewN n) (((St.refl wr).drewN n).old D3) (((St.refl wr).drewN n).old D6))
      clear D1 D2 D3 D4 D5 D6
      go_wp2_with fail
      go_quiet ((go_at_call 15; first | ((with_reducible show Calls _ _ #[uo, uo'] _ _); exact Calls.quiet_of (HX1.out _)) | ((with_reducible show Calls _ _ #[ua, ua'] _ _); exact Calls.quiet_of (HX2.out _)) | ((with_reducible show Calls _ _ #[ub, ub'] _ _); exact Calls.quiet_of (HX3.out _))))
      go_wp2_with fail
      go_roundw
      case rel => exact ⟨i + 1, by omega, by go_num, hs.drewN _⟩
      case measure => simp [intOf]; omega
    · go_wp2_with fail
      go_ret
      exact ⟨rfl, hs⟩

set_option maxRecDepth 100000 in
set_option maxHeartbeats 8000000 in
theorem diff3Chunks_any (w : World) (vo va vb : Value) (o a b : List ByteArray) (ho : Sl w 1 vo o.length (ss o)) (ha : Sl w 1 va a.length (ss a)) (hb : Sl w 1 vb b.length (ss b)) :
    Calls Tryd.prog 3 #[vo, va, vb] w fun e w' => e = .returned (.bool true) ∧ Below w.heap.size w w' := by
  go_enter Tryd.func3, Tryd.ntmps3
  go_wp2_with fail
  refine (first_any _).mono ?_
  rintro e w1 ⟨rfl, hs1⟩
  go_wp2_with fail
  refine (few_any vo o _ (hs1.old ho)).mono ?_
  rintro e w' ⟨⟨ba, rfl, fa⟩, rfl⟩
  cases ba with
  | false =>
    clear fa
    go_wp2_with (first | ((with_reducible show wpList _ _ _ _ _ _); refine wpl_want rfl ?_) | (go_at_call 9; refine (first_any _).mono ?_; rintro e w2 ⟨rfl, hs2⟩))
    go_ret
    exact ⟨rfl, (hs1.call0 hs2).below⟩
  | true =>
  have lo := fa rfl
  clear fa
  go_wp2_with (first | ((with_reducible show wpList _ _ _ _ _ _); refine wpl_want rfl ?_))
  refine (few_any va a _ (hs1.old ha)).mono ?_
  rintro e w' ⟨⟨ba, rfl, fa⟩, rfl⟩
  cases ba with
  | false =>
    clear fa
    go_wp2_with (first | ((with_reducible show wpList _ _ _ _ _ _); refine wpl_want rfl ?_) | (go_at_call 9; refine (first_any _).mono ?_; rintro e w2 ⟨rfl, hs2⟩))
    go_ret
    exact ⟨rfl, (hs1.call0 hs2).below⟩
  | true =>
  have la := fa rfl
  clear fa
  go_wp2_with (first | ((with_reducible show wpList _ _ _ _ _ _); refine wpl_want rfl ?_))
  refine (few_any vb b _ (hs1.old hb)).mono ?_
  rintro e w' ⟨⟨ba, rfl, fa⟩, rfl⟩
  cases ba with
  | false =>
    clear fa
    go_wp2_with (first | ((with_reducible show wpList _ _ _ _ _ _); refine wpl_want rfl ?_) | (go_at_call 9; refine (first_any _).mono ?_; rintro e w2 ⟨rfl, hs2⟩))
    go_ret
    exact ⟨rfl, (hs1.call0 hs2).below⟩
  | true =>
  have lb := fa rfl
  clear fa
  go_wp2_with (first | ((with_reducible show wpList _ _ _ _ _ _); refine wpl_want rfl ?_))
  refine (copyTexts_any vo o _ (hs1.old ho) (by omega)).mono ?_
  rintro e w2 ⟨vx, rfl, hs2⟩
  replace hs2 := hs1.call1 hs2
  go_wp2_with fail
  refine (copyTexts_any va a _ (hs2.old ha) (by omega)).mono ?_
  rintro e w3 ⟨vy, rfl, hs3⟩
  replace hs3 := hs2.call1 hs3
  go_wp2_with fail
  refine (copyTexts_any vb b _ (hs3.old hb) (by omega)).mono ?_
  rintro e w4 ⟨vz, rfl, hs4⟩
  replace hs4 := hs3.call1 hs4
  clear hs1 hs2 hs3
  go_wp2_with fail
  refine (chunks_any vx vy vz o a b _ hs4.sl2 hs4.sl1 hs4.sl0).mono ?_
  rintro e w5 ⟨vl, rfl, hs5, hl⟩
  replace hs5 := hs4.call0 hs5
  go_wp2_with fail
  refine (refChunks_any vo va vb o a b _ (hs5.old ho) (hs5.old ha) (hs5.old hb)).mono ?_
  rintro e w6 ⟨vm, rfl, hs6, hm⟩
  replace hl := hl.old hs6
  replace hs6 := hs5.call0 hs6
  clear hs4 hs5
  generalize chE o a b = E at *
  generalize chC o a b = C at *
  have t2 : (E == E) = true := by simp
  go_wp2_with fail
  refine (first_any _).mono ?_
  rintro e w7 ⟨rfl, hs7⟩
  replace hl := hl.old hs7
  replace hm := hm.old hs7
  replace hs7 := hs6.call0 hs7
  clear hs6
  go_wp2_with (first | ((with_reducible show wpList _ _ _ _ _ _); refine wpl_want rfl ?_))
  refine (csame_any vl vm C _ hl hm).mono ?_
  rintro e w8 ⟨rfl, hs8⟩
  replace hs8 := hs7.call0 hs8
  clear hs7 hl hm
  go_wp2_with (first | ((with_reducible show wpList _ _ _ _ _ _); refine wpl_want rfl ?_))
  refine (texts_same vx vo o o _ hs8.sl2 (hs8.old ho) rfl).mono ?_
  rintro e w9 ⟨rfl, hs9⟩
  replace hs9 := hs8.call0 hs9
  clear hs8
  go_wp2_with (first | ((with_reducible show wpList _ _ _ _ _ _); refine wpl_want rfl ?_))
  refine (texts_same vy va a a _ hs9.sl1 (hs9.old ha) rfl).mono ?_
  rintro e w10 ⟨rfl, hsA⟩
  replace hsA := hs9.call0 hsA
  clear hs9
  go_wp2_with (first | ((with_reducible show wpList _ _ _ _ _ _); refine wpl_want rfl ?_))
  refine (texts_same vz vb b b _ hsA.sl0 (hsA.old hb) rfl).mono ?_
  rintro e w11 ⟨rfl, hsB⟩
  replace hsB := hsA.call0 hsB
  clear hsA
  go_wp2_with (first | ((with_reducible show wpList _ _ _ _ _ _); refine wpl_want rfl ?_))
  go_ret
  exact ⟨rfl, hsB.below⟩

theorem diff3ChunksRow (vo : Value) (o : List ByteArray) {w : World} (ho : Sl w 1 vo o.length (ss o)) (_lo : ∀ s ∈ o, s.size ≤ maxLen) (va : Value) (a : List ByteArray) (ha : Sl w 1 va a.length (ss a)) (_la : ∀ s ∈ a, s.size ≤ maxLen) (vb : Value) (b : List ByteArray) (hb : Sl w 1 vb b.length (ss b)) (_lb : ∀ s ∈ b, s.size ≤ maxLen) (_w : World) :
    Calls Tryd.prog 3 #[vo, va, vb] w fun e w' => e = .returned (.bool true) ∧ Below w.heap.size w w' := diff3Chunks_any w vo va vb o a b ho ha hb
end Go.Proofs.YtafmgclhgmhflaaDoor
