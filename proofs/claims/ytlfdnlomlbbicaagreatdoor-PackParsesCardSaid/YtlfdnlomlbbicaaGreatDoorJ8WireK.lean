/- What a put number is. Bytes cut, under one name. The walks of number and common. The walk of the document's match. -/
import Derived.Test.YtlfdnlomlbbicaaGreatDoorJ7Wire
import Derived.Test.YtlfdnlomlbbicaaGreatDoorJ4Lib3
import Derived.Test.YtlfdnlomlbbicaaGreatDoorJ1WireP
namespace Go.Proofs.YtlfdnlomlbbicaaGreatDoor
open Go.RowKit Go.Mx

theorem PutPost.bad {n : Int} {w w' : World} {e : Ending} (h : PutPost n w e w') (hn : n < 0 ∨ 72057594037927936 < n) : e = .returned (.tuple #[.slice none 0 0, .int .i64 1]) ∧ w = w' := by
  unfold PutPost at h; rw [if_pos hn] at h; exact h
theorem PutPost.good {n : Nat} {w w' : World} {e : Ending} (h : PutPost n w e w') (hn : n ≤ 72057594037927936) : ∃ v, e = .returned (.tuple #[v, .int .i64 0]) ∧ St w w' [⟨v, 5, 1, (putL n).length, bs (putL n)⟩] [] := by
  unfold PutPost at h; rw [if_neg (by omega), Int.toNat_natCast] at h; exact h

theorem PutPost.any {n : Int} {w w' : World} {e : Ending} (h : PutPost n w e w') : ∃ v k, e = .returned (.tuple #[v, .int .i64 k]) ∧ St w w' [] [] := by
  unfold PutPost at h
  split at h
  · obtain ⟨rfl, rfl⟩ := h; exact ⟨_, _, rfl, St.refl _⟩
  · obtain ⟨v, rfl, hs⟩ := h; exact ⟨_, _, rfl, hs.bare⟩
end Go.Proofs.YtlfdnlomlbbicaaGreatDoor

namespace Go.Proofs.YtlfdnlomlbbicaaGreatDoor
open Go.RowKit Go.Mx

/-- x[i:] and x[:i] of a slice that reads as bytes, under one name. -/
theorem cutD {w : World} {v : Value} {l : List UInt8} (h : Sl w 1 v l.length (bs l)) {i : Nat} (hi : i ≤ l.length) :
    ∃ xo xc, (∀ w', (Instr.sliceAt 25 v (some (.int .i64 (i : Int))) none none).run Tryz.prog w' = .ok (.slice xo (l.length - i) xc) w') ∧ ∀ w', Sl w' 1 v l.length (bs l) → Sl w' 1 (.slice xo (l.length - i) xc) (l.drop i).length (bs (l.drop i)) := by
  obtain ⟨x, p, q⟩ := h.cutRun Tryz.elU8 (some (.int .i64 (i : Int))) none i l.length (.inr ⟨.i64, rfl⟩) (.inl ⟨rfl, rfl⟩) hi (Nat.le_refl _)
  have q' : ∀ w', Sl w' 1 v l.length (bs l) → Sl w' 1 x (l.drop i).length (bs (l.drop i)) := fun w' h' => by
    have := Sl.cutB (q _ h') (Nat.le_refl _) hi
    rwa [List.take_length] at this
  obtain ⟨xo, xc, hx, _⟩ := q' _ h
  rw [List.length_drop] at hx
  subst hx
  exact ⟨xo, xc, p, q'⟩
theorem cutT {w : World} {v : Value} {l : List UInt8} (h : Sl w 1 v l.length (bs l)) {i : Nat} (hi : i ≤ l.length) :
    ∃ xo xc, (∀ w', (Instr.sliceAt 25 v none (some (.int .i64 (i : Int))) none).run Tryz.prog w' = .ok (.slice xo i xc) w') ∧ ∀ w', Sl w' 1 v l.length (bs l) → Sl w' 1 (.slice xo i xc) (l.take i).length (bs (l.take i)) := by
  obtain ⟨x, p, q⟩ := h.cutRun Tryz.elU8 none (some (.int .i64 (i : Int))) 0 i (.inl ⟨rfl, rfl⟩) (.inr ⟨.i64, rfl⟩) (Nat.zero_le _) hi
  have q' : ∀ w', Sl w' 1 v l.length (bs l) → Sl w' 1 x (l.take i).length (bs (l.take i)) := fun w' h' => by
    have := Sl.cutB (q _ h') hi (Nat.zero_le _)
    rwa [List.drop_zero] at this
  obtain ⟨xo, xc, hx, _⟩ := q' _ h
  have e : (l.take i).length = i := by rw [List.length_take]; omega
  rw [e] at hx
  subst hx
  exact ⟨xo, xc, p, q'⟩
end Go.Proofs.YtlfdnlomlbbicaaGreatDoor

namespace Go.Proofs.YtlfdnlomlbbicaaGreatDoor
open Go.RowKit Go.Mx

theorem wf_nat {k : Nat} (h : k ≤ 9223372036854775807) : (Lit.int .i64 (k : Int)).wf = true := by
  have h1 : IntKind.i64.min = -9223372036854775808 := by decide
  have h2 : IntKind.i64.max = 9223372036854775807 := by decide
  simp only [Lit.wf, Bool.and_eq_true, decide_eq_true_eq, h1, h2]
  omega

theorem number_app (w0 w : World) (R : List Row) (Q : List Rd) (v : Value) (xs : List Value) (n k : Nat) (hs : St w0 w (⟨v, 5, 1, n, xs⟩ :: R) Q) (hk : k ≤ 72057594037927936) (hn : n ≤ 100000000) :
    Calls Tryz.prog 33 #[v, .int .i64 (k : Int)] w fun e w' => ∃ v', e = .returned v' ∧ St w0 w' (⟨v', 5, 1, n + (putL k).length, xs ++ bs (putL k)⟩ :: R) Q := by
  have h9 := putL_9 hk
  go_enter Tryz.func33, Tryz.ntmps33
  go_wp2_with fail
  refine (Put_any (k : Int) _ (wf_nat (by omega))).mono ?_
  rintro e w1 hp
  obtain ⟨x, rfl, hx⟩ := hp.good hk
  have hs1 := (hs.call1 hx).swap
  generalize hpl : (putL k).length = pl at *
  go_wp2_with (at_builtin; refine wpl_app rfl _ _ 25 rfl Tryz.elU8 hs1 rfl (by exact hx.sl0) (bs_one _) (by omega) ?_; intro v2 w2 hs2 _)
  go_ret
  rw [hpl]
  exact ⟨v2, rfl, hs2.sub (List.Sublist.cons_cons _ (List.sublist_cons_self _ _)) fun _ h => h⟩

theorem u8_beqT {x y : UInt8} (h : x = y) : ((x.toNat : Int) == (y.toNat : Int)) = true := by simp [h]
theorem u8_beqF {x y : UInt8} (h : x ≠ y) : ((x.toNat : Int) == (y.toNat : Int)) = false := by
  rw [beq_eq_false_iff_ne]; intro h'; exact h (UInt8.toNat_inj.1 (by omega))

theorem common_any (w : World) (va vb : Value) (a b : List UInt8) (ha : Sl w 1 va a.length (bs a)) (hb : Sl w 1 vb b.length (bs b)) :
    Calls Tryz.prog 56 #[va, vb] w fun e w' => e = .returned (.int .i64 (lcp a b : Int)) ∧ St w w' [] [] := by
  obtain ⟨ao, ac, ablk, aoff, rfl, h1, h2, _, hca⟩ := ha.byt
  obtain ⟨bo, bc, bblk, boff, rfl, h3, h4, _, hcb⟩ := hb.byt
  clear ha hb
  have HA := Mx.hid hca
  have HB := Mx.hid hcb
  clear hca hcb
  go_enter Tryz.func56, Tryz.ntmps56
  go_wp2_with fail
  go_loopw [5] (fun x wr => ∃ i : Nat, i ≤ a.length ∧ i ≤ b.length ∧ x = .int .i64 i ∧ Hid (a.take i = b.take i) ∧ St w wr [] []) (fun x _ => a.length - (intOf x).toNat)
  case atStart => exact ⟨0, by omega, by omega, rfl, by simp [Hid], St.refl w⟩
  case round =>
    obtain ⟨i, hi, hi', rfl, Ht, hs⟩ := hrel
    by_cases hlt : i < a.length
    · by_cases hlt' : i < b.length
      · obtain ⟨rfl, c1⟩ := HA.out i hlt
        obtain ⟨rfl, c2⟩ := HB.out i hlt'
        have c1 := hs.keep c1
        have c2 := hs.keep c2
        have hii : (i : Int) < (a.length : Int) := by omega
        have hii' : (i : Int) < (b.length : Int) := by omega
        have d1 : decide (i < a.length) = true := decide_eq_true hlt
        have d2 : decide (i < b.length) = true := decide_eq_true hlt'
        by_cases hx : a[i] = b[i]
        · have hb := u8_beqT hx
          have Hx := Mx.hid hx
          clear hx
          go_wp2_with fail
          go_quiet (fail)
          go_wp2_with fail
          go_roundw
          case rel => exact ⟨i + 1, by omega, by omega, by go_num, by rw [List.take_succ_eq_append_getElem hlt, List.take_succ_eq_append_getElem hlt', Ht.out, Hx.out]; rfl, hs.drewN _⟩
          case measure => simp [intOf]; omega
        · have hb := u8_beqF hx
          have Hx := Mx.hid hx
          clear hx
          go_wp2_with fail
          go_quiet (fail)
          go_wp2_with fail
          go_ret
          exact ⟨by rw [lcp_stop Ht.out hi hi' fun _ _ => Hx.out]; rfl, hs.drewN _⟩
      · have d1 : decide (i < a.length) = true := decide_eq_true hlt
        have d2 : decide (i < b.length) = false := decide_eq_false hlt'
        have HL := Mx.hid hlt'
        have HI := Mx.hid hi
        have HI' := Mx.hid hi'
        clear hlt' hi hi'
        go_wp2_with fail
        go_quiet (fail)
        go_wp2_with fail
        go_ret
        exact ⟨by rw [lcp_stop Ht.out HI.out HI'.out fun _ h => absurd h HL.out]; rfl, hs.drewN _⟩
    · have d1 : decide (i < a.length) = false := decide_eq_false hlt
      have HL := Mx.hid hlt
      have HI := Mx.hid hi
      have HI' := Mx.hid hi'
      clear hlt hi hi'
      go_wp2_with fail
      go_quiet (fail)
      go_wp2_with fail
      go_ret
      exact ⟨by rw [lcp_stop Ht.out HI.out HI'.out fun h _ => absurd h HL.out]; rfl, hs.drewN _⟩
end Go.Proofs.YtlfdnlomlbbicaaGreatDoor

namespace Go.Proofs.YtlfdnlomlbbicaaGreatDoor
open Go.RowKit Go.Mx


set_option maxHeartbeats 2000000 in
theorem refMatch_any (w : World) (vb vt : Value) (base target : List UInt8) (p : Nat) (hp : p ≤ target.length) (hb : Sl w 1 vb base.length (bs base)) (ht : Sl w 1 vt target.length (bs target)) (hbl : base.length ≤ 20000) (htl : target.length ≤ 20000) :
    Calls Tryz.prog 45 #[vb, vt, .int .i64 (p : Int)] w fun e w' => e = .returned (.tuple #[.int .i64 (mtP base (target.drop p) : Int), .int .i64 (mtN base (target.drop p) : Int)]) ∧ St w w' [] [] := by
  obtain ⟨bo, bc, bblk, boff, rfl, h1, h2, _, hcb⟩ := hb.byt
  obtain ⟨to, tc, tblk, toff, rfl, h3, h4, _, hct⟩ := ht.byt
  have HB := Mx.hid hcb
  have HT := Mx.hid hct
  clear hb ht hcb hct
  generalize htt : target.drop p = t
  have HTT := Mx.hid htt
  have htlen : t.length = target.length - p := by rw [← htt, List.length_drop]
  clear htt
  have HTL := Mx.hid htlen
  clear htlen
  go_enter Tryz.func45, Tryz.ntmps45
  go_wp2_with fail
  go_loopw [8, 9, 10] (fun x y z wr => ∃ (i P N : Nat), i ≤ base.length ∧ x = .int .i64 P ∧ y = .int .i64 N ∧ z = .int .i64 i ∧ P ≤ base.length ∧ N ≤ base.length ∧ Hid (mtR base t i = (P, N)) ∧ St w wr [] []) (fun _ _ z _ => base.length - (intOf z).toNat)
  case atStart => exact ⟨0, 0, 0, by omega, rfl, rfl, rfl, by omega, by omega, rfl, St.refl w⟩
  case round =>
    obtain ⟨i, P, N, hi, rfl, rfl, rfl, hP, hN, HM, hs⟩ := hrel
    by_cases hgo : i < base.length
    · have hgo' : (i : Int) < (base.length : Int) := by omega
      obtain ⟨wo, rfl⟩ : ∃ wo : World, wo = wr := ⟨_, rfl⟩
      go_wp2_with fail
      go_loopw [11] (fun x wr => ∃ n : Nat, n ≤ base.length - i ∧ n ≤ target.length - p ∧ x = .int .i64 n ∧ Hid ((base.drop i).take n = t.take n) ∧ St w wr [] []) (fun x _ => base.length - (intOf x).toNat)
      case atStart => exact ⟨0, by omega, by omega, rfl, by simp [Hid], hs⟩
      case round =>
        obtain ⟨n, hn1, hn2, rfl, Ht, hs2⟩ := hrel
        have e1 : IntKind.i64.wrap ((i : Int) + (n : Int)) = (i : Int) + (n : Int) := IntWalk.i64_in _ (by omega)
        have e2 : IntKind.i64.wrap ((p : Int) + (n : Int)) = (p : Int) + (n : Int) := IntWalk.i64_in _ (by omega)
        have g1 : ((i : Int) + (n : Int)).toNat = i + n := by omega
        have g2 : ((p : Int) + (n : Int)).toNat = p + n := by omega
        have g3 : (0 : Int) ≤ (i : Int) + (n : Int) := by omega
        have g4 : (0 : Int) ≤ (p : Int) + (n : Int) := by omega
        have hdec : (∃ (h1 : i + n < base.length) (h2 : p + n < target.length), base[i + n] = target[p + n]) ∨
            (lcp (base.drop i) t = n ∧ (¬ i + n < base.length ∨ (i + n < base.length ∧ ¬ p + n < target.length) ∨ (∃ (h1 : i + n < base.length) (h2 : p + n < target.length), base[i + n] ≠ target[p + n]))) := by
          by_cases c1 : i + n < base.length
          · by_cases c2 : p + n < target.length
            · by_cases c3 : base[i + n] = target[p + n]
              · exact .inl ⟨c1, c2, c3⟩
              · refine .inr ⟨lcp_stop Ht.out (by rw [List.length_drop]; omega) (by have := HTL.out; omega) fun a b => ?_, .inr (.inr ⟨c1, c2, c3⟩)⟩
                have hT := HTT.out
                subst hT
                rw [List.getElem_drop, List.getElem_drop]
                exact c3
            · refine .inr ⟨lcp_stop Ht.out (by rw [List.length_drop]; omega) (by have := HTL.out; omega) fun a b => ?_, .inr (.inl ⟨c1, c2⟩)⟩
              have := HTL.out
              omega
          · refine .inr ⟨lcp_stop Ht.out (by rw [List.length_drop]; omega) (by have := HTL.out; omega) fun a b => ?_, .inl c1⟩
            rw [List.length_drop] at a
            omega
        rcases hdec with ⟨c3, c4, c5⟩ | ⟨hlc, hdec⟩
        · obtain ⟨rfl, x1⟩ := HB.out (i + n) c3
          obtain ⟨rfl, x2⟩ := HT.out (p + n) c4
          have x1 := hs2.keep x1
          have x2 := hs2.keep x2
          have d1 : decide ((i : Int) + (n : Int) < (base.length : Int)) = true := decide_eq_true (by omega)
          have d2 : decide ((p : Int) + (n : Int) < (target.length : Int)) = true := decide_eq_true (by omega)
          have d3 := u8_beqT c5
          have hti : t.length = target.length - p := HTL.out
          have hbt : (base.drop i)[n]'(by rw [List.length_drop]; omega) = t[n]'(by omega) := by
            have hT := HTT.out
            subst hT
            rw [List.getElem_drop, List.getElem_drop]
            exact c5
          have HBT : Hid ((base.drop i).take (n + 1) = t.take (n + 1)) := Mx.hid (by rw [List.take_succ_eq_append_getElem (by rw [List.length_drop]; omega), List.take_succ_eq_append_getElem (by omega), Ht.out, hbt])
          clear hti hbt c5
          go_wp2_with fail
          go_quiet (fail)
          go_wp2_with fail
          go_roundw
          case rel => exact ⟨n + 1, by omega, by omega, by go_num, HBT, hs2.drewN _⟩
          case measure => simp [intOf]; omega
        · have hst : mtR base t (i + 1) = if N < n then (i, n) else (P, N) := by
            rw [mtR, HM.out, hlc]
          have HST := Mx.hid hst
          clear hst hlc
          rcases hdec with c1 | ⟨c1, c2⟩ | ⟨c3, c4, c5⟩
          · have d1 : decide ((i : Int) + (n : Int) < (base.length : Int)) = false := decide_eq_false (by omega)
            by_cases hN2 : N < n
            · have b1 : (N : Int) < (n : Int) := by omega
              go_wp2_with fail
              go_quiet (fail)
              go_wp2_with fail
              go_roundw
              case rel => exact ⟨i + 1, i, n, by omega, rfl, rfl, by go_num, by omega, by omega, Mx.hid (by rw [HST.out, if_pos hN2]), hs2.drewN _⟩
              case measure => simp [intOf]; omega
            · have b1 : ¬ ((N : Int) < (n : Int)) := by omega
              go_wp2_with fail
              go_quiet (fail)
              go_wp2_with fail
              go_roundw
              case rel => exact ⟨i + 1, P, N, by omega, rfl, rfl, by go_num, by omega, by omega, Mx.hid (by rw [HST.out, if_neg hN2]), hs2.drewN _⟩
              case measure => simp [intOf]; omega
          · have d1 : decide ((i : Int) + (n : Int) < (base.length : Int)) = true := decide_eq_true (by omega)
            have d2 : decide ((p : Int) + (n : Int) < (target.length : Int)) = false := decide_eq_false (by omega)
            by_cases hN2 : N < n
            · have b1 : (N : Int) < (n : Int) := by omega
              go_wp2_with fail
              go_quiet (fail)
              go_wp2_with fail
              go_roundw
              case rel => exact ⟨i + 1, i, n, by omega, rfl, rfl, by go_num, by omega, by omega, Mx.hid (by rw [HST.out, if_pos hN2]), hs2.drewN _⟩
              case measure => simp [intOf]; omega
            · have b1 : ¬ ((N : Int) < (n : Int)) := by omega
              go_wp2_with fail
              go_quiet (fail)
              go_wp2_with fail
              go_roundw
              case rel => exact ⟨i + 1, P, N, by omega, rfl, rfl, by go_num, by omega, by omega, Mx.hid (by rw [HST.out, if_neg hN2]), hs2.drewN _⟩
              case measure => simp [intOf]; omega
          · obtain ⟨rfl, x1⟩ := HB.out (i + n) c3
            obtain ⟨rfl, x2⟩ := HT.out (p + n) c4
            have x1 := hs2.keep x1
            have x2 := hs2.keep x2
            have d1 : decide ((i : Int) + (n : Int) < (base.length : Int)) = true := decide_eq_true (by omega)
            have d2 : decide ((p : Int) + (n : Int) < (target.length : Int)) = true := decide_eq_true (by omega)
            have d3 := u8_beqF c5
            clear c5
            by_cases hN2 : N < n
            · have b1 : (N : Int) < (n : Int) := by omega
              go_wp2_with fail
              go_quiet (fail)
              go_wp2_with fail
              go_roundw
              case rel => exact ⟨i + 1, i, n, by omega, rfl, rfl, by go_num, by omega, by omega, Mx.hid (by rw [HST.out, if_pos hN2]), hs2.drewN _⟩
              case measure => simp [intOf]; omega
            · have b1 : ¬ ((N : Int) < (n : Int)) := by omega
              go_wp2_with fail
              go_quiet (fail)
              go_wp2_with fail
              go_roundw
              case rel => exact ⟨i + 1, P, N, by omega, rfl, rfl, by go_num, by omega, by omega, Mx.hid (by rw [HST.out, if_neg hN2]), hs2.drewN _⟩
              case measure => simp [intOf]; omega
    · have hend : mtR base t base.length = (P, N) := by rw [← HM.out]; congr 1; omega
      have HE := Mx.hid hend
      clear hend
      go_wp2_with fail
      go_ret2
      unfold mtP mtN
      rw [HE.out]
      exact ⟨rfl, hs⟩
end Go.Proofs.YtlfdnlomlbbicaaGreatDoor
