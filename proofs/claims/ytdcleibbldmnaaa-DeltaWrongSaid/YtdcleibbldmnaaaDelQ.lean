/- The walk of the document's match. -/
import Derived.Test.YtdcleibbldmnaaaDelN
namespace Go.Proofs.Ytdcleibbldmnaaa
open Go.RowKit Go.Mx


set_option maxHeartbeats 2000000 in
theorem refMatch_any (w : World) (vb vt : Value) (base target : List UInt8) (p : Nat) (hp : p ≤ target.length) (hb : Sl w 1 vb base.length (bs base)) (ht : Sl w 1 vt target.length (bs target)) (hbl : base.length ≤ 20000) (htl : target.length ≤ 20000) :
    Calls Try.prog 24 #[vb, vt, .int .i64 (p : Int)] w fun e w' => e = .returned (.tuple #[.int .i64 (mtP base (target.drop p) : Int), .int .i64 (mtN base (target.drop p) : Int)]) ∧ St w w' [] [] := by
  obtain ⟨bo, bc, bblk, boff, rfl, h1, h2, _, hcb⟩ := hb.byt
  obtain ⟨to, tc, tblk, toff, rfl, h3, h4, _, hct⟩ := ht.byt
  have HB := Mx.hid hcb
  have HT := Mx.hid hct
  clear hb ht hcb hct
  generalize htt : target.drop p = t
  have HTT := Mx.hid htt
  have htlen : t.length = target.length - p := by rw [← htt, List.length_drop]
  clear htt
  have HTL := Mx.hid htlen
  clear htlen
  go_enter Try.func24, Try.ntmps24
  go_wp2_with fail
  go_loopw [8, 9, 10] (fun x y z wr => ∃ (i P N : Nat), i ≤ base.length ∧ x = .int .i64 P ∧ y = .int .i64 N ∧ z = .int .i64 i ∧ P ≤ base.length ∧ N ≤ base.length ∧ Hid (mtR base t i = (P, N)) ∧ St w wr [] []) (fun _ _ z _ => base.length - (intOf z).toNat)
  case atStart => exact ⟨0, 0, 0, by omega, rfl, rfl, rfl, by omega, by omega, rfl, St.refl w⟩
  case round =>
    obtain ⟨i, P, N, hi, rfl, rfl, rfl, hP, hN, HM, hs⟩ := hrel
    by_cases hgo : i < base.length
    · have hgo' : (i : Int) < (base.length : Int) := by omega
      obtain ⟨wo, rfl⟩ : ∃ wo : World, wo = wr := ⟨_, rfl⟩
      go_wp2_with fail
      go_loopw [11] (fun x wr => ∃ n : Nat, n ≤ base.length - i ∧ n ≤ target.length - p ∧ x = .int .i64 n ∧ Hid ((base.drop i).take n = t.take n) ∧ St w wr [] []) (fun x _ => base.length - (intOf x).toNat)
      case atStart => exact ⟨0, by omega, by omega, rfl, by simp [Hid], hs⟩
      case round =>
        obtain ⟨n, hn1, hn2, rfl, Ht, hs2⟩ := hrel
        have e1 : IntKind.i64.wrap ((i : Int) + (n : Int)) = (i : Int) + (n : Int) := IntWalk.i64_in _ (by omega)
        have e2 : IntKind.i64.wrap ((p : Int) + (n : Int)) = (p : Int) + (n : Int) := IntWalk.i64_in _ (by omega)
        have g1 : ((i : Int) + (n : Int)).toNat = i + n := by omega
        have g2 : ((p : Int) + (n : Int)).toNat = p + n := by omega
        have g3 : (0 : Int) ≤ (i : Int) + (n : Int) := by omega
        have g4 : (0 : Int) ≤ (p : Int) + (n : Int) := by omega
        have hdec : (∃ (h1 : i + n < base.length) (h2 : p + n < target.length), base[i + n] = target[p + n]) ∨
            (lcp (base.drop i) t = n ∧ (¬ i + n < base.length ∨ (i + n < base.length ∧ ¬ p + n < target.length) ∨ (∃ (h1 : i + n < base.length) (h2 : p + n < target.length), base[i + n] ≠ target[p + n]))) := by
          by_cases c1 : i + n < base.length
          · by_cases c2 : p + n < target.length
            · by_cases c3 : base[i + n] = target[p + n]
              · exact .inl ⟨c1, c2, c3⟩
              · refine .inr ⟨lcp_stop Ht.out (by rw [List.length_drop]; omega) (by have := HTL.out; omega) fun a b => ?_, .inr (.inr ⟨c1, c2, c3⟩)⟩
                have hT := HTT.out
                subst hT
                rw [List.getElem_drop, List.getElem_drop]
                exact c3
            · refine .inr ⟨lcp_stop Ht.out (by rw [List.length_drop]; omega) (by have := HTL.out; omega) fun a b => ?_, .inr (.inl ⟨c1, c2⟩)⟩
              have := HTL.out
              omega
          · refine .inr ⟨lcp_stop Ht.out (by rw [List.length_drop]; omega) (by have := HTL.out; omega) fun a b => ?_, .inl c1⟩
            rw [List.length_drop] at a
            omega
        rcases hdec with ⟨c3, c4, c5⟩ | ⟨hlc, hdec⟩
        · obtain ⟨rfl, x1⟩ := HB.out (i + n) c3
          obtain ⟨rfl, x2⟩ := HT.out (p + n) c4
          have x1 := hs2.keep x1
          have x2 := hs2.keep x2
          have d1 : decide ((i : Int) + (n : Int) < (base.length : Int)) = true := decide_eq_true (by omega)
          have d2 : decide ((p : Int) + (n : Int) < (target.length : Int)) = true := decide_eq_true (by omega)
          have d3 := u8_beqT c5
          have hti : t.length = target.length - p := HTL.out
          have hbt : (base.drop i)[n]'(by rw [List.length_drop]; omega) = t[n]'(by omega) := by
            have hT := HTT.out
            subst hT
            rw [List.getElem_drop, List.getElem_drop]
            exact c5
          have HBT : Hid ((base.drop i).take (n + 1) = t.take (n + 1)) := Mx.hid (by rw [List.take_succ_eq_append_getElem (by rw [List.length_drop]; omega), List.take_succ_eq_append_getElem (by omega), Ht.out, hbt])
          clear hti hbt c5
          go_wp2_with fail
          go_quiet (fail)
          go_wp2_with fail
          go_roundw
          case rel => exact ⟨n + 1, by omega, by omega, by go_num, HBT, hs2.drewN _⟩
          case measure => simp [intOf]; omega
        · have hst : mtR base t (i + 1) = if N < n then (i, n) else (P, N) := by
            rw [mtR, HM.out, hlc]
          have HST := Mx.hid hst
          clear hst hlc
          rcases hdec with c1 | ⟨c1, c2⟩ | ⟨c3, c4, c5⟩
          · have d1 : decide ((i : Int) + (n : Int) < (base.length : Int)) = false := decide_eq_false (by omega)
            by_cases hN2 : N < n
            · have b1 : (N : Int) < (n : Int) := by omega
              go_wp2_with fail
              go_quiet (fail)
              go_wp2_with fail
              go_roundw
              case rel => exact ⟨i + 1, i, n, by omega, rfl, rfl, by go_num, by omega, by omega, Mx.hid (by rw [HST.out, if_pos hN2]), hs2.drewN _⟩
              case measure => simp [intOf]; omega
            · have b1 : ¬ ((N : Int) < (n : Int)) := by omega
              go_wp2_with fail
              go_quiet (fail)
              go_wp2_with fail
              go_roundw
              case rel => exact ⟨i + 1, P, N, by omega, rfl, rfl, by go_num, by omega, by omega, Mx.hid (by rw [HST.out, if_neg hN2]), hs2.drewN _⟩
              case measure => simp [intOf]; omega
          · have d1 : decide ((i : Int) + (n : Int) < (base.length : Int)) = true := decide_eq_true (by omega)
            have d2 : decide ((p : Int) + (n : Int) < (target.length : Int)) = false := decide_eq_false (by omega)
            by_cases hN2 : N < n
            · have b1 : (N : Int) < (n : Int) := by omega
              go_wp2_with fail
              go_quiet (fail)
              go_wp2_with fail
              go_roundw
              case rel => exact ⟨i + 1, i, n, by omega, rfl, rfl, by go_num, by omega, by omega, Mx.hid (by rw [HST.out, if_pos hN2]), hs2.drewN _⟩
              case measure => simp [intOf]; omega
            · have b1 : ¬ ((N : Int) < (n : Int)) := by omega
              go_wp2_with fail
              go_quiet (fail)
              go_wp2_with fail
              go_roundw
              case rel => exact ⟨i + 1, P, N, by omega, rfl, rfl, by go_num, by omega, by omega, Mx.hid (by rw [HST.out, if_neg hN2]), hs2.drewN _⟩
              case measure => simp [intOf]; omega
          · obtain ⟨rfl, x1⟩ := HB.out (i + n) c3
            obtain ⟨rfl, x2⟩ := HT.out (p + n) c4
            have x1 := hs2.keep x1
            have x2 := hs2.keep x2
            have d1 : decide ((i : Int) + (n : Int) < (base.length : Int)) = true := decide_eq_true (by omega)
            have d2 : decide ((p : Int) + (n : Int) < (target.length : Int)) = true := decide_eq_true (by omega)
            have d3 := u8_beqF c5
            clear c5
            by_cases hN2 : N < n
            · have b1 : (N : Int) < (n : Int) := by omega
              go_wp2_with fail
              go_quiet (fail)
              go_wp2_with fail
              go_roundw
              case rel => exact ⟨i + 1, i, n, by omega, rfl, rfl, by go_num, by omega, by omega, Mx.hid (by rw [HST.out, if_pos hN2]), hs2.drewN _⟩
              case measure => simp [intOf]; omega
            · have b1 : ¬ ((N : Int) < (n : Int)) := by omega
              go_wp2_with fail
              go_quiet (fail)
              go_wp2_with fail
              go_roundw
              case rel => exact ⟨i + 1, P, N, by omega, rfl, rfl, by go_num, by omega, by omega, Mx.hid (by rw [HST.out, if_neg hN2]), hs2.drewN _⟩
              case measure => simp [intOf]; omega
    · have hend : mtR base t base.length = (P, N) := by rw [← HM.out]; congr 1; omega
      have HE := Mx.hid hend
      clear hend
      go_wp2_with fail
      go_ret2
      unfold mtP mtN
      rw [HE.out]
      exact ⟨rfl, hs⟩
end Go.Proofs.Ytdcleibbldmnaaa
