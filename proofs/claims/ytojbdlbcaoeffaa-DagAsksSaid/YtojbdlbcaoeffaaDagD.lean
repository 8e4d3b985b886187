/- Walks of slices.IndexFunc, slices.DeleteFunc with dag's predicate, dag's nearest. -/
import Derived.Test.YtojbdlbcaoeffaaDagK
import Derived.Test.YtojbdlbcaoeffaaOutL
import Derived.Lib.SliceRun
namespace Go.Proofs.Ytojbdlbcaoeffaa
open Go.RowKit Go.Mx

theorem nd1_any (p C : Nat) (K : List ByteArray) (x : ByteArray) (w : World) (hc : w.cell? ⟨p, 0, none⟩ = some (.map (some C))) (hm : Mp w C (met K)) :
    Calls Try.prog 45 #[.string x, .pointer (some ⟨p, 0, none⟩)] w fun e w' => e = .returned (.bool (memB K x)) ∧ w = w' := by
  cases hx : memB K x with
  | true =>
    have HG := Mx.hid (show mget (met K) x = some (.int .i64 1) by rw [mget_met, if_pos hx])
    clear hx
    go_enter Try.func45, Try.ntmps45
    go_wp2_with ((with_reducible show wpList _ _ _ _ _ _); refine wpl_look rfl 54 _ _ true rfl Try.underlying54 Try.underlying9 Try.zeroInt (by exact hm) rfl x rfl ?_; rw [HG.out])
    go_ret
    exact ⟨rfl, rfl⟩
  | false =>
    have HG := Mx.hid (show mget (met K) x = none by rw [mget_met, if_neg (by simp [hx])])
    clear hx
    go_enter Try.func45, Try.ntmps45
    go_wp2_with ((with_reducible show wpList _ _ _ _ _ _); refine wpl_look rfl 54 _ _ true rfl Try.underlying54 Try.underlying9 Try.zeroInt (by exact hm) rfl x rfl ?_; rw [HG.out])
    go_ret
    exact ⟨rfl, rfl⟩

theorem indexF_any (p C : Nat) (K : List ByteArray) (v : Value) (l : List ByteArray) (w : World) (hv : Sl w 1 v l.length (ss l)) (hc : w.cell? ⟨p, 0, none⟩ = some (.map (some C))) (hm : Mp w C (met K)) :
    Calls Try.prog 49 #[v, .func (Fn.func 45) #[] #[.pointer (some ⟨p, 0, none⟩)]] w (IdxPost K l w) := by
  obtain ⟨ao, cap, blk, off, rfl, h1, h2, _, hcc⟩ := hv.txt
  have HC := Mx.hid hcc
  have HN := Mx.hid (fun x => nd1_any p C K x w hc hm)
  clear hv hcc hc hm
  go_enter Try.func49, Try.ntmps49
  go_wp2_with fail
  go_loop [8] (fun x => ∃ i : Nat, i ≤ l.length ∧ x = .int .i64 i ∧ Hid (outL K (l.take i) = l.take i)) (fun x => l.length - (intOf x).toNat)
  case atStart => exact ⟨0, by omega, rfl, by simp [Hid, outL]⟩
  case round =>
    obtain ⟨i, hi, rfl, HI⟩ := hrel
    by_cases hlt : i < l.length
    · obtain ⟨rfl, c1⟩ := HC.out i hlt
      have HX := Mx.hid (HN.out l[i])
      have HO := Mx.hid (outL_snoc K hlt)
      have HT := Mx.hid (List.take_succ_eq_append_getElem hlt)
      cases hb : memB K l[i] with
      | true =>
        rw [hb] at HX
        have HF := Mx.hid (show outL K (l.take (i + 1)) = l.take i by rw [HO.out, hb, HI.out]; simp)
        clear hb HO
        generalize l[i] = x at *
        go_wp2_with (go_at_call 45; refine HX.out.mono ?_; rintro e w2 ⟨rfl, rfl⟩)
        go_ret
        exact ⟨.inl ⟨i, rfl, hlt, HF.out⟩, rfl⟩
      | false =>
        rw [hb] at HX
        have HF := Mx.hid (show outL K (l.take (i + 1)) = l.take (i + 1) by rw [HO.out, hb, HI.out, HT.out]; simp)
        clear hb HO
        generalize l[i] = x at *
        go_wp2_with (go_at_call 45; refine HX.out.mono ?_; rintro e w2 ⟨rfl, rfl⟩)
        go_round
        case rel => exact ⟨i + 1, by omega, by go_num, HF⟩
        case measure => simp [intOf]; omega
    · have HF := Mx.hid (show outL K l = l by have := HI.out; rwa [List.take_of_length_le (by omega)] at this)
      go_wp2_with fail
      go_ret
      exact ⟨.inr ⟨rfl, HF.out⟩, rfl⟩

set_option maxRecDepth 100000 in
set_option maxHeartbeats 1000000 in
theorem deleteF_any {w0 w : World} (p C : Nat) (K : List ByteArray) (v : Value) (l : List ByteArray) (hs : St w0 w [⟨v, 9, 1, l.length, ss l⟩] []) (hc : w0.cell? ⟨p, 0, none⟩ = some (.map (some C))) (hm : Mp w0 C (met K)) (hl : l.length ≤ 8000000000) :
    Calls Try.prog 44 #[v, .func (Fn.func 45) #[] #[.pointer (some ⟨p, 0, none⟩)]] w fun e w' => ∃ v', e = .returned v' ∧ St w0 w' [⟨v', 9, 1, (outL K l).length, ss (outL K l)⟩] [] := by
  have HX := Mx.hid (indexF_any p C K v l w hs.sl0 (hs.keep hc) (hm.grow hs.below))
  have HN := Mx.hid (fun x w' R (hs : St w0 w' R []) => nd1_any p C K x w' (hs.keep hc) (hm.grow hs.below))
  clear hc hm
  obtain ⟨va, vc, rfl, _⟩ := id hs.sl0
  go_enter Try.func44, Try.ntmps44
  go_wp2_with fail
  refine HX.out.mono ?_
  rintro e w1 ⟨⟨i0, rfl, hi0, hout⟩ | ⟨rfl, hout⟩, rfl⟩
  · obtain ⟨g, cp, hvv, _, _, hcap, hcap2⟩ := hs.form0 (by omega)
    cases hvv
    have HO := Mx.hid hout
    clear hout HX
    go_wp2_with fail
    go_loopw [5, 6] (fun x y wr => ∃ (j : Nat) (c : List ByteArray), j ≤ l.length ∧ i0 < j ∧ x = .int .i64 ((outL K (l.take j)).length : Int) ∧ y = .int .i64 j ∧ c.length = l.length ∧ Hid ((outL K (l.take j)).length < j) ∧ Hid (c.take (outL K (l.take j)).length = outL K (l.take j)) ∧ Hid (c.drop j = l.drop j) ∧ St w0 wr [⟨.slice (some ⟨g, 0, none⟩) l.length vc, 9, 1, l.length, ss c⟩] []) (fun _ y _ => l.length - (intOf y).toNat)
    case atStart => exact ⟨i0 + 1, l, by omega, by omega, by rw [HO.out, List.length_take, Nat.min_eq_left (by omega)], by go_num, rfl, by rw [HO.out, List.length_take]; show _ < _; omega, by rw [HO.out, List.length_take, Nat.min_eq_left (by omega)]; rfl, rfl, hs⟩
    case round =>
      clear hs
      obtain ⟨j, c, hj, hij, rfl, rfl, hcl, HJ, HT, HD, hs⟩ := hrel
      by_cases hlt : j < l.length
      · obtain ⟨e1, e2⟩ := drop_get HD.out hlt (by omega)
        have c1 : wr.cell? ⟨g, j, none⟩ = some (.string l[j]) := hs.cell (j := j) (by rw [ss_get (by omega), e1])
        have HX := Mx.hid (HN.out l[j] _ _ hs)
        have HO2 := Mx.hid (outL_snoc K hlt)
        have HE2 := Mx.hid e2
        clear e1 e2
        cases hb : memB K l[j] with
        | true =>
          rw [hb] at HX
          have HF := Mx.hid (show outL K (l.take (j + 1)) = outL K (l.take j) by rw [HO2.out, hb]; simp)
          clear hb HO2
          generalize l[j] = y at *
          go_wp2_with (go_at_call 45; refine HX.out.mono ?_; rintro e w2 ⟨rfl, rfl⟩)
          go_roundw
          case rel =>
            repeat apply Exists.intro
            refine ⟨?rel2, rfl⟩
            exact ⟨j + 1, c, by omega, by omega, by rw [HF.out], by go_num, hcl, by rw [HF.out]; show _ < _; have := HJ.out; omega, by rw [HF.out]; exact HT.out, HE2, hs⟩
          case measure => simp [intOf]; omega
        | false =>
          rw [hb] at HX
          have HF := Mx.hid (show outL K (l.take (j + 1)) = outL K (l.take j) ++ [l[j]] by rw [HO2.out, hb]; simp)
          clear hb HO2
          generalize l[j] = y at *
          have hij2 := HJ.out
          obtain ⟨m1, m2, m3⟩ := set_mid (c := c) (i := (outL K (l.take j)).length) (j := j) y (by omega) hij2
          have HM := Mx.hid (And.intro m1 (And.intro m2 m3))
          clear m1 m2 m3
          generalize hI : (outL K (l.take j)).length = i at *
          have HI := Mx.hid hI
          clear hI
          go_wp2_with (first | (go_at_call 45; refine HX.out.mono ?_; rintro e w2 ⟨rfl, rfl⟩) | ((with_reducible show wpList _ _ _ _ _ _); refine wpl_store1 rfl 9 _ _ rfl hs (i) rfl (.string y) rfl rfl (by kernel_rfl) (by rw [ss_len]; omega) rfl ?_; intro w4 hs4))
          go_roundw
          case rel =>
            repeat apply Exists.intro
            refine ⟨?rel3, rfl⟩
            refine ⟨j + 1, c.take i ++ [y] ++ c.drop (i + 1), by omega, by omega, by rw [HF.out]; simp [HI.out], by go_num, by rw [HM.out.1]; exact hcl, by rw [HF.out]; show _ < _; simp [HI.out]; omega, ?_, ?_, hs4.cast rfl (by simp [ss])⟩
            · rw [HF.out]
              show _ = _
              rw [List.length_append, HI.out]
              exact HM.out.2.1.trans (by rw [HT.out])
            · show _ = _
              rw [HM.out.2.2]
              exact HE2.out
          case measure => simp [intOf]; omega
      · obtain rfl : j = l.length := by omega
        have HF := Mx.hid (show outL K (l.take l.length) = outL K l by rw [List.take_length])
        rw [HF.out] at HT HJ
        rw [HF.out]
        have hij2 := HJ.out
        have HT2 := Mx.hid HT.out
        generalize hI : (outL K l).length = i at *
        have hcl2 : (Instr.sliceAt 26 (.slice (some ⟨g, 0, none⟩) l.length vc) (some (.int .i64 (i : Int))) none none).run Try.prog = fun w' => .ok (.slice (some ⟨g, i, none⟩) (l.length - i) (vc - i)) w' := by
          funext w'
          have := run_slice_sl (P := Try.prog) (w := w') Try.elStr (ao := some ⟨g, 0, none⟩) (n := l.length) (cap := vc) hcap (some (.int .i64 (i : Int))) none i l.length (.inr ⟨.i64, rfl⟩) (.inl ⟨rfl, rfl⟩) (by omega) (Nat.le_refl _)
          rw [this, if_neg (by omega)]
          simp [Addr.add]
          intro h; exact h.symm
        have hcl3 := fun w' => congrFun hcl2 w'
        have HI := Mx.hid hI
        clear hcl2 hI HF HJ
        go_wp2_with (first | ((with_reducible show wpList _ _ _ _ _ _); refine wpl_clear rfl 26 _ rfl Try.underlying26 (z := .string ByteArray.empty) (fun _ => by kernel_rfl) rfl rfl hs i _ (by omega) rfl ?_; intro w5 hs5; obtain ⟨v6, hcut, hrow⟩ := hs5.cutTo (P := Try.prog) Try.elStr i (by omega); have hs6 := hrow _ _ _ hs5; clear hrow))
        go_ret
        refine ⟨_, rfl, hs6.cast HI.out.symm ?_⟩
        rw [Nat.mul_one, List.take_append_of_le_length (by rw [List.length_take, ss_len]; omega), List.take_take, Nat.min_self, ← HT2.out]
        simp [ss, List.map_take]
  · have HO := Mx.hid hout
    clear hout HX
    go_wp2_with fail
    go_ret
    exact ⟨_, rfl, by rw [HO.out]; exact hs⟩

end Go.Proofs.Ytojbdlbcaoeffaa
